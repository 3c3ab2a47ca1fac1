/-
  The walk of quernlaw10.PathsRise: it returns true, of any two numbers, and changes nothing that was there.
  Conditions: none.
-/
import Derived.Test.YtjniajojbnhmgaaAwake
namespace Go.Proofs.Ytjniajojbnhmgaa
open Go.RowKit
set_option linter.unusedVariables false

/-- The sign of s is that of a less b. -/
def Sg (s a b : Int) : Prop := (s < 0 ↔ a < b) ∧ (0 < s ↔ b < a)

theorem rise_p {a b : Int} (ha : 0 ≤ a) (hb : 0 ≤ b) (h : ofP a ≠ ofP b) : Sg (ofP a - ofP b) a b := by
  unfold ofP at *
  unfold Sg
  (repeat' split) <;> (repeat' split at h) <;> omega

theorem rise_z {a b : Int} (ha : 0 ≤ a) (hb : 0 ≤ b) (ha1 : a < 65536) (hb1 : b < 65536) (hp : ofP a = ofP b) {i : Nat} (hi : i < ofN a) (hz : ∀ j, j < i → ofZ a j = ofZ b j) (hne : ofZ a i ≠ ofZ b i) : Sg (ofZ a i - ofZ b i) a b := by
  unfold Sg
  rcases ofP_inv ha hb hp with ⟨h2, rfl⟩ | ⟨h2, h3, h4, h5⟩ | ⟨h2, h3, h4, h5⟩ | ⟨h2, h3⟩
  · exact absurd rfl hne
  · rw [ofZ_1 h3, ofZ_1 h5]; omega
  · rw [ofN_2 h2 h3] at hi
    have : i = 0 ∨ i = 1 := by omega
    rcases this with rfl | rfl
    · rw [ofZ_20 h2 h3, ofZ_20 h4 h5] at hne ⊢; omega
    · have a0 := hz 0 (by omega)
      rw [ofZ_20 h2 h3, ofZ_20 h4 h5] at a0
      rw [ofZ_21 h2 h3, ofZ_21 h4 h5] at hne ⊢; omega
  · rw [ofN_3 h2] at hi
    have : i = 0 ∨ i = 1 ∨ i = 2 := by omega
    rcases this with rfl | rfl | rfl
    · rw [ofZ_30 h2, ofZ_30 h3] at hne ⊢; omega
    · have a0 := hz 0 (by omega)
      rw [ofZ_30 h2, ofZ_30 h3] at a0
      rw [ofZ_31 h2, ofZ_31 h3] at hne ⊢; omega
    · have a0 := hz 0 (by omega)
      have a1 := hz 1 (by omega)
      rw [ofZ_30 h2, ofZ_30 h3] at a0
      rw [ofZ_31 h2, ofZ_31 h3] at a1
      rw [ofZ_32 h2, ofZ_32 h3] at hne ⊢; omega

/-- What holds at the head of the loop of PathsRise. -/
def RRel (a b s : Int) (i : Nat) : Prop := -100 ≤ s ∧ s ≤ 100 ∧ i ≤ 4 ∧ ((s = 0 ∧ ofP a = ofP b ∧ ∀ j, j < i → ofZ a j = ofZ b j) ∨ (s ≠ 0 ∧ Sg s a b))

theorem ofP_bd {a : Int} (ha : 0 ≤ a) : 0 ≤ ofP a ∧ ofP a ≤ 10 := by
  unfold ofP
  split <;> (try split) <;> (try split) <;> omega
theorem ofN_le (k : Int) : ofN k ≤ 3 := by unfold ofN; (repeat' split) <;> omega

theorem RRel.start {a b : Int} (ha : 0 ≤ a) (hb : 0 ≤ b) : RRel a b (ofP a - ofP b) 0 := by
  have h1 := ofP_bd ha
  have h2 := ofP_bd hb
  refine ⟨by omega, by omega, by omega, ?_⟩
  by_cases h : ofP a = ofP b
  · exact .inl ⟨by omega, h, fun j hj => by omega⟩
  · exact .inr ⟨by omega, rise_p ha hb h⟩
theorem RRel.next {a b : Int} (ha : 0 ≤ a) (hb : 0 ≤ b) (ha1 : a < 65536) (hb1 : b < 65536) {i : Nat} (h : RRel a b 0 i) (hi : i < ofN a) : RRel a b (ofZ a i - ofZ b i) (i + 1) := by
  obtain ⟨_, _, h3, h4⟩ := h
  have hN := ofN_le a
  rcases h4 with ⟨_, hp, hz⟩ | ⟨h, _⟩
  · have hNb := ofN_of_ofP ha hb hp
    have h1 := ofZ_bd ha ha1 hi
    have h2 := ofZ_bd hb hb1 (j := i) (by omega)
    refine ⟨by omega, by omega, by omega, ?_⟩
    by_cases hne : ofZ a i = ofZ b i
    · refine .inl ⟨by omega, hp, fun j hj => ?_⟩
      rcases Nat.lt_or_ge j i with h | h
      · exact hz j h
      · obtain rfl : j = i := by omega
        exact hne
    · exact .inr ⟨by omega, rise_z ha hb ha1 hb1 hp hi hz hne⟩
  · exact absurd rfl h
theorem RRel.done {a b s : Int} (ha : 0 ≤ a) (hb : 0 ≤ b) (ha1 : a < 65536) (hb1 : b < 65536) {i : Nat} (h : RRel a b s i) (hn : ¬ (i < ofN a ∧ i < ofN b ∧ s = 0)) : Sg s a b := by
  obtain ⟨_, _, h3, h4⟩ := h
  rcases h4 with ⟨hs, hp, hz⟩ | ⟨_, h⟩
  · have hNb := ofN_of_ofP ha hb hp
    have : ofN a ≤ i := by
      rcases Nat.lt_or_ge i (ofN a) with h | h
      · exact absurd ⟨h, by omega, hs⟩ hn
      · exact h
    have := way_inj ha ha1 hb hb1 hp (fun j hj => hz j (by omega))
    unfold Sg
    omega
  · exact h

theorem of_out (k : Int) (h : ¬ (0 ≤ k ∧ k < 65536)) (w : World) : Calls Try.prog 17 #[.int .i64 k] w fun e w' => e = .returned (.tuple #[.int .i64 0, .slice none 0 0, .int .i64 100]) ∧ Below w.heap.size w w' := of_none k (by omega) w

set_option maxRecDepth 100000 in
set_option maxHeartbeats 1000000 in
theorem rise_outa (a b : Int) (h : ¬ (0 ≤ a ∧ a < 65536)) (w : World) :
    Calls Try.prog 6 #[.int .i64 a, .int .i64 b] w fun e w' => e = .returned (.bool true) ∧ Below w.heap.size w w' := by
  by_cases hb : 0 ≤ b ∧ b < 65536
  · go_enter Try.func6, Try.ntmps6
    go_wp2_with fail
    refine (awake_any _).mono ?_; rintro e w1 ⟨rfl, hb1⟩; have HB1 := Lib.hid hb1; clear hb1
    go_wp2_with fail
    refine (of_out a h _).mono ?_; rintro e w2 ⟨rfl, hb2⟩; have HB2 := Lib.hid (HB1.out.trans (hb2.mono HB1.out.size)); clear hb2
    go_wp2_with fail
    refine (of_yes b hb.1 hb.2 _).mono ?_
    rintro e w3 ⟨a', cap, rfl, hb3, hO⟩
    have HB3 := Lib.hid (HB2.out.trans (hb3.mono HB2.out.size))
    clear hb3 hO h hb
    go_wp2
    go_ret
    exact ⟨rfl, HB3.out⟩
  · go_enter Try.func6, Try.ntmps6
    go_wp2_with fail
    refine (awake_any _).mono ?_; rintro e w1 ⟨rfl, hb1⟩; have HB1 := Lib.hid hb1; clear hb1
    go_wp2_with fail
    refine (of_out a h _).mono ?_; rintro e w2 ⟨rfl, hb2⟩; have HB2 := Lib.hid (HB1.out.trans (hb2.mono HB1.out.size)); clear hb2
    go_wp2_with fail
    refine (of_out b hb _).mono ?_; rintro e w3 ⟨rfl, hb3⟩; have HB3 := Lib.hid (HB2.out.trans (hb3.mono HB2.out.size)); clear hb3
    clear h hb
    go_wp2
    go_ret
    exact ⟨rfl, HB3.out⟩

set_option maxRecDepth 100000 in
set_option maxHeartbeats 1000000 in
theorem rise_outb (a b : Int) (h0 : 0 ≤ a) (h1 : a < 65536) (h : ¬ (0 ≤ b ∧ b < 65536)) (w : World) :
    Calls Try.prog 6 #[.int .i64 a, .int .i64 b] w fun e w' => e = .returned (.bool true) ∧ Below w.heap.size w w' := by
  go_enter Try.func6, Try.ntmps6
  go_wp2_with fail
  refine (awake_any _).mono ?_; rintro e w1 ⟨rfl, hb1⟩; have HB1 := Lib.hid hb1; clear hb1
  go_wp2_with fail
  refine (of_yes a h0 h1 _).mono ?_
  rintro e w2 ⟨a', cap, rfl, hb2, hO⟩
  have HB2 := Lib.hid (HB1.out.trans (hb2.mono HB1.out.size))
  clear hb2 hO
  go_wp2_with fail
  refine (of_out b h _).mono ?_; rintro e w3 ⟨rfl, hb3⟩; have HB3 := Lib.hid (HB2.out.trans (hb3.mono HB2.out.size)); clear hb3
  clear h
  go_wp2
  go_ret
  exact ⟨rfl, HB3.out⟩

set_option maxRecDepth 100000 in
set_option maxHeartbeats 4000000 in
theorem rise_in (a b : Int) (ha0 : 0 ≤ a) (ha1 : a < 65536) (hb0 : 0 ≤ b) (hb1 : b < 65536) (w : World) :
    Calls Try.prog 6 #[.int .i64 a, .int .i64 b] w fun e w' => e = .returned (.bool true) ∧ Below w.heap.size w w' := by
  have HST := Lib.hid (RRel.start ha0 hb0)
  have HNX := Lib.hid (fun i (h : RRel a b 0 i) (hi : i < ofN a) => h.next ha0 hb0 ha1 hb1 hi)
  have HDN := Lib.hid (fun s i (h : RRel a b s i) (hn : ¬ (i < ofN a ∧ i < ofN b ∧ s = 0)) => h.done ha0 hb0 ha1 hb1 hn)
  have HZA := Lib.hid (fun j (hj : j < ofN a) => ofZ_bd ha0 ha1 hj)
  have HZB := Lib.hid (fun j (hj : j < ofN b) => ofZ_bd hb0 hb1 hj)
  have hpa := ofP_bd ha0
  have hpb := ofP_bd hb0
  have hNa := ofN_le a
  have hNb := ofN_le b
  go_enter Try.func6, Try.ntmps6
  go_wp2_with fail
  refine (awake_any _).mono ?_; rintro e w1 ⟨rfl, hb1⟩; have HB1 := Lib.hid hb1; clear hb1
  go_wp2_with fail
  refine (of_yes a ha0 ha1 _).mono ?_
  rintro e w2 ⟨a2, cap2, rfl, hb2, hO2⟩
  have HB2 := Lib.hid (HB1.out.trans (hb2.mono HB1.out.size))
  have HSA := Lib.hid hO2.sl
  clear hb2 hO2 HB1
  go_wp2_with fail
  refine (of_yes b hb0 (by assumption) _).mono ?_
  rintro e w3 ⟨a3, cap3, rfl, hb3, hO3⟩
  have HB3 := Lib.hid (HB2.out.trans (hb3.mono HB2.out.size))
  have HSA' := Lib.hid (HSA.out.keep hb3)
  have HSB := Lib.hid hO3.sl
  clear hb3 hO3 HB2 HSA
  generalize ofP a = pa at *
  generalize ofP b = pb at *
  generalize ofN a = na at *
  generalize ofN b = nb at *
  go_wp2_with fail
  go_loopw [11, 12] (fun u v wr => ∃ (s : Int) (i : Nat), u = .int .i64 s ∧ v = .int .i64 i ∧ RRel a b s i ∧ ∃ k, wr = w3.drewN k) (fun _ v _ => 4 - (intOf v).toNat)
  case atStart => exact ⟨_, 0, rfl, rfl, HST.out, 0, rfl⟩
  case round =>
    obtain ⟨s, i, rfl, rfl, hR, k, rfl⟩ := hrel
    have hs0 := hR.1
    have hs1 := hR.2.1
    have hi4 := hR.2.2.1
    have HR := Lib.hid hR
    clear hR HST
    by_cases hcont : i < na ∧ i < nb ∧ s = 0
    · obtain ⟨hia, hib, rfl⟩ := hcont
      obtain ⟨g1, o1, rfl, c1⟩ := (HSA'.out.drewN k).at hia
      obtain ⟨g2, o2, rfl, c2⟩ := (HSB.out.drewN k).at hib
      have hza := HZA.out i hia
      have hzb := HZB.out i hib
      have HNX2 := Lib.hid (HNX.out i HR.out hia)
      have hl1 : (i : Int) < (na : Int) := by omega
      have hl2 : (i : Int) < (nb : Int) := by omega
      obtain ⟨W, hW⟩ : ∃ W, W = w3.drewN k := ⟨_, rfl⟩
      rw [← hW] at c1 c2 ⊢
      have HW := Lib.hid hW
      clear hW HR
      generalize ofZ a i = x at *
      generalize ofZ b i = y at *
      have hwr : IntKind.i64.wrap (x - y) = x - y := IntWalk.i64_in _ (by omega)
      go_wp2
      go_quiet (fail)
      go_wp2
      go_roundw
      case rel => exact ⟨x - y, i + 1, rfl, by go_num, HNX2.out, k + nq, by rw [HW.out, World.drewN_drewN]⟩
      case measure => simp [intOf]; omega
    · obtain ⟨g1, g2⟩ := HDN.out s i HR.out hcont
      have HB4 := Lib.hid (below_drewN HB3.out k)
      obtain ⟨W, hW⟩ : ∃ W, W = w3.drewN k := ⟨_, rfl⟩
      rw [← hW] at HB4 ⊢
      clear hW HR HSA' HSB HZA HZB HNX HDN
      have htri : (a < b ∧ s < 0) ∨ (a = b ∧ s = 0) ∨ (b < a ∧ 0 < s) := by omega
      clear g1 g2
      rcases htri with ⟨t1, t2⟩ | ⟨rfl, rfl⟩ | ⟨t1, t2⟩
      · clear hcont
        have d1 : decide (0 < s) = false := by simp; omega
        have d2 : decide (b < a) = false := by simp; omega
        by_cases h1 : i < na <;> by_cases h2 : i < nb
        all_goals
          go_wp2
          go_ret
          exact ⟨rfl, HB4.out⟩
      · by_cases h1 : i < na
        · have h2 : ¬ i < nb := fun h => hcont ⟨h1, h, rfl⟩
          clear hcont
          go_wp2
          go_ret
          exact ⟨rfl, HB4.out⟩
        · clear hcont
          go_wp2
          go_ret
          exact ⟨rfl, HB4.out⟩
      · clear hcont
        by_cases h1 : i < na <;> by_cases h2 : i < nb
        all_goals
          go_wp2
          go_ret
          exact ⟨rfl, HB4.out⟩

theorem rise_walk (a b : Int) (w : World) (_ : -9223372036854775808 ≤ a ∧ a ≤ 9223372036854775807) (_ : -9223372036854775808 ≤ b ∧ b ≤ 9223372036854775807) :
    Calls Try.prog 6 #[.int .i64 a, .int .i64 b] w fun e w' => e = .returned (.bool true) ∧ Below w.heap.size w w' := by
  by_cases h : 0 ≤ a ∧ a < 65536
  · by_cases h2 : 0 ≤ b ∧ b < 65536
    · exact rise_in a b h.1 h.2 h2.1 h2.2 w
    · exact rise_outb a b h.1 h.2 h2 w
  · exact rise_outa a b h w
end Go.Proofs.Ytjniajojbnhmgaa
