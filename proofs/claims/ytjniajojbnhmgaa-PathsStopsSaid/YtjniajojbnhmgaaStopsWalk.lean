/-
  The walk of quernlaw10.PathsStops: it returns true, of any two numbers, and changes nothing that was there.
  Conditions: none.
-/
import Derived.Test.YtjniajojbnhmgaaAwake
namespace Go.Proofs.Ytjniajojbnhmgaa
open Go.RowKit
set_option linter.unusedVariables false

theorem nxt_bd {a : Int} (h0 : 0 ≤ a) (h1 : a < 65536) : a < nxt a ∧ nxt a ≤ 65536 ∧ nxt a ≤ a + 64 ∧ nxt (nxt a - 1) = nxt a := by
  have e : ∀ b, 0 ≤ b → b < 65536 → nxt b = if b < 8 then b + 1 else min (8 + ((b - 8) / 64 + 1) * 64) 65536 := fun b hb hb' => by unfold nxt; rw [if_neg (by omega), if_neg (by omega)]
  have h2 := e a h0 h1
  by_cases h8 : a < 8
  · rw [if_pos h8] at h2
    rw [h2, show a + 1 - 1 = a by omega, h2]; omega
  · rw [if_neg h8] at h2
    have h3 := e (nxt a - 1) (by omega) (by omega)
    rw [if_neg (by omega)] at h3
    refine ⟨by omega, by omega, by omega, by omega⟩
theorem nxt_neg {a : Int} (h : a < 0) : nxt a = 0 := by unfold nxt; rw [if_pos h]
theorem nxt_big {a : Int} (h : 65536 ≤ a) : nxt a = 65536 := by unfold nxt; rw [if_neg (by omega), if_pos h]

/-- What holds at the head of the loop of PathsStops. -/
def SRel (a b : Int) (s : Bool) (i : Nat) : Prop := i ≤ 4 ∧ (s = true → ofP a = ofP b ∧ ∀ j, j < i → ofZ a j = ofZ b j) ∧ (s = false → ¬ Tog a b)
theorem ofN_le (k : Int) : ofN k ≤ 3 := by unfold ofN; (repeat' split) <;> omega
theorem SRel.start1 {a b : Int} (h : ofP a = ofP b) : SRel a b true 0 := ⟨Nat.zero_le _, fun _ => ⟨h, fun j hj => by omega⟩, fun h => by cases h⟩
theorem SRel.start2 {a b : Int} (h : ofP a ≠ ofP b) : SRel a b false 0 := ⟨Nat.zero_le _, (fun h => by cases h), fun _ e => h e.1⟩
theorem SRel.next_eq {a b : Int} {i : Nat} (h : SRel a b true i) (hi : i + 1 < ofN a) (hz : ofZ a i = ofZ b i) : SRel a b true (i + 1) :=
  ⟨by have := ofN_le a; omega, fun _ => ⟨(h.2.1 rfl).1, fun j hj => by
    rcases Nat.lt_or_ge j i with h1 | h1
    · exact (h.2.1 rfl).2 j h1
    · obtain rfl : j = i := by omega
      exact hz⟩, fun h => by cases h⟩
theorem SRel.next_ne {a b : Int} {i : Nat} (h : SRel a b true i) (hi : i + 1 < ofN a) (hz : ofZ a i ≠ ofZ b i) : SRel a b false (i + 1) :=
  ⟨by have := ofN_le a; omega, (fun h => by cases h), fun _ e => hz (e.2.2 i hi)⟩
theorem SRel.done {a b : Int} {s : Bool} {i : Nat} (ha : 0 ≤ a) (hab : a ≤ b) (hb1 : b < 65536) (h : SRel a b s i) (hi : ¬ (i + 1 < ofN a ∧ s = true)) : (s = true ∧ b < nxt a) ∨ (s = false ∧ ¬ b < nxt a) := by
  cases s with
  | true =>
    obtain ⟨hp, hz⟩ := h.2.1 rfl
    left
    refine ⟨rfl, (tog_iff ha hab hb1).1 ⟨hp, ofN_of_ofP ha (by omega) hp, fun j hj => hz j ?_⟩⟩
    have : ¬ i + 1 < ofN a := fun h => hi ⟨h, rfl⟩
    omega
  | false => exact .inr ⟨rfl, fun h' => h.2.2 rfl ((tog_iff ha hab hb1).2 h')⟩

set_option maxRecDepth 100000 in
set_option maxHeartbeats 1000000 in
theorem stops_out (a m : Int) (h : a < 0 ∨ 65536 ≤ a) (w : World) :
    Calls Try.prog 7 #[.int .i64 a, .int .i64 m] w fun e w' => e = .returned (.bool true) ∧ Below w.heap.size w w' := by
  have HOF := Lib.hid (fun W => of_none a h W)
  have HNX := Lib.hid (fun W => next_any a W)
  rcases h with h | h
  · rw [nxt_neg h] at HNX
    go_enter Try.func7, Try.ntmps7
    go_wp2_with fail
    refine (awake_any _).mono ?_; rintro e w1 ⟨rfl, hb1⟩; have HB1 := Lib.hid hb1; clear hb1
    go_wp2_with fail
    refine (HOF.out _).mono ?_; rintro e w2 ⟨rfl, hb2⟩; have HB2 := Lib.hid (HB1.out.trans (hb2.mono HB1.out.size)); clear hb2
    go_wp2_with fail
    refine (HNX.out _).mono ?_; rintro e w3 ⟨rfl, hw3⟩; rw [hw3]; clear hw3
    go_wp2
    go_ret
    exact ⟨rfl, HB2.out⟩
  · rw [nxt_big h] at HNX
    go_enter Try.func7, Try.ntmps7
    go_wp2_with fail
    refine (awake_any _).mono ?_; rintro e w1 ⟨rfl, hb1⟩; have HB1 := Lib.hid hb1; clear hb1
    go_wp2_with fail
    refine (HOF.out _).mono ?_; rintro e w2 ⟨rfl, hb2⟩; have HB2 := Lib.hid (HB1.out.trans (hb2.mono HB1.out.size)); clear hb2
    go_wp2_with fail
    refine (HNX.out _).mono ?_; rintro e w3 ⟨rfl, hw3⟩; rw [hw3]; clear hw3
    go_wp2
    go_ret
    exact ⟨rfl, HB2.out⟩

set_option maxRecDepth 100000 in
set_option maxHeartbeats 4000000 in
theorem stops_far (a m t r : Int) (ha0 : 0 ≤ a) (ha1 : a < 65536) (ht : (0 ≤ m ∧ m % 64 = t) ∨ (m < 0 ∧ m.tmod 64 = t)) (ht0 : -63 ≤ t) (ht1 : t ≤ 63) (hr : (t + 64) % 64 = r) (hr0 : 0 ≤ r) (hr1 : r ≤ 63) (hk : 65536 ≤ a + r) (w : World) :
    Calls Try.prog 7 #[.int .i64 a, .int .i64 m] w fun e w' => e = .returned (.bool true) ∧ Below w.heap.size w w' := by
  have HNX := Lib.hid (fun W => next_any a W)
  have HNY := Lib.hid (fun W => next_any (nxt a - 1) W)
  obtain ⟨n1, n2, n3, n4⟩ := nxt_bd ha0 ha1
  rw [n4] at HNY
  generalize nxt a = N at *
  clear n4
  have hNN : (N != N) = false := by simp
  rcases ht with ⟨hm, ht⟩ | ⟨hm, ht⟩
  all_goals
    go_enter Try.func7, Try.ntmps7
    go_wp2_with fail
    refine (awake_any _).mono ?_; rintro e w1 ⟨rfl, hb1⟩; have HB1 := Lib.hid hb1; clear hb1
    go_wp2_with fail
    refine (of_yes a ha0 ha1 _).mono ?_
    rintro e w2 ⟨a2, cap2, rfl, hb2, hO2⟩
    have HB2 := Lib.hid (HB1.out.trans (hb2.mono HB1.out.size))
    clear hb2 hO2 HB1
    go_wp2_with fail
    refine (HNX.out _).mono ?_; rintro e w3 ⟨rfl, hw3⟩; rw [hw3]; clear hw3
    go_wp2_with fail
    refine (HNY.out _).mono ?_; rintro e w4 ⟨rfl, hw4⟩; rw [hw4]; clear hw4
    go_wp2_with fail
    refine (of_none (a + r) (.inr hk) _).mono ?_
    rintro e w5 ⟨rfl, hb5⟩
    have HB5 := Lib.hid (HB2.out.trans (hb5.mono HB2.out.size))
    clear hb5
    go_wp2
    go_ret
    exact ⟨rfl, HB5.out⟩

set_option maxRecDepth 100000 in
set_option maxHeartbeats 8000000 in
theorem stops_near (a m t r : Int) (ha0 : 0 ≤ a) (ha1 : a < 65536) (ht : (0 ≤ m ∧ m % 64 = t) ∨ (m < 0 ∧ m.tmod 64 = t)) (ht0 : -63 ≤ t) (ht1 : t ≤ 63) (hr : (t + 64) % 64 = r) (hr0 : 0 ≤ r) (hr1 : r ≤ 63) (hk : a + r < 65536) (w : World) :
    Calls Try.prog 7 #[.int .i64 a, .int .i64 m] w fun e w' => e = .returned (.bool true) ∧ Below w.heap.size w w' := by
  have HNE := Lib.hid (fun i (h : SRel a (a + r) true i) (hi : i + 1 < ofN a) (hz : ofZ a i = ofZ (a + r) i) => h.next_eq hi hz)
  have HNN := Lib.hid (fun i (h : SRel a (a + r) true i) (hi : i + 1 < ofN a) (hz : ofZ a i ≠ ofZ (a + r) i) => h.next_ne hi hz)
  have HDN := Lib.hid (fun s i (h : SRel a (a + r) s i) (hi : ¬ (i + 1 < ofN a ∧ s = true)) => h.done ha0 (by omega) hk hi)
  have HSM := Lib.hid (fun i (h : SRel a (a + r) true i) => (ofN_of_ofP ha0 (by omega) (h.2.1 rfl).1))
  have HINIT : Hid (∃ s : Bool, ((s = true ∧ (ofP a == ofP (a + r)) = true ∧ ((ofN a : Int) == (ofN (a + r) : Int)) = true) ∨ (s = false ∧ (ofP a == ofP (a + r)) = false)) ∧ SRel a (a + r) s 0) := Lib.hid (by
    by_cases h : ofP a = ofP (a + r)
    · exact ⟨true, .inl ⟨rfl, by simpa using h, by rw [ofN_of_ofP ha0 (by omega) h]; simp⟩, SRel.start1 h⟩
    · exact ⟨false, .inr ⟨rfl, by simpa using h⟩, SRel.start2 h⟩)
  have HOF := Lib.hid (fun W => of_yes (a + r) (by omega) hk W)
  have hNa := ofN_le a
  have HNX := Lib.hid (fun W => next_any a W)
  have HNY := Lib.hid (fun W => next_any (nxt a - 1) W)
  obtain ⟨n1, n2, n3, n4⟩ := nxt_bd ha0 ha1
  rw [n4] at HNY
  generalize nxt a = N at *
  clear n4
  have hNN : (N != N) = false := by simp
  have hk0 : 0 ≤ a + r := by omega
  rcases ht with ⟨hm, ht⟩ | ⟨hm, ht⟩
  all_goals
    go_enter Try.func7, Try.ntmps7
    go_wp2_with fail
    refine (awake_any _).mono ?_; rintro e w1 ⟨rfl, hb1⟩; have HB1 := Lib.hid hb1; clear hb1
    go_wp2_with fail
    refine (of_yes a ha0 ha1 _).mono ?_
    rintro e w2 ⟨a2, cap2, rfl, hb2, hO2⟩
    have HB2 := Lib.hid (HB1.out.trans (hb2.mono HB1.out.size))
    have HSA := Lib.hid hO2.sl
    clear hb2 hO2 HB1
    go_wp2_with fail
    refine (HNX.out _).mono ?_; rintro e w3 ⟨rfl, hw3⟩; rw [hw3]; clear hw3
    go_wp2_with fail
    refine (HNY.out _).mono ?_; rintro e w4 ⟨rfl, hw4⟩; rw [hw4]; clear hw4
    go_wp2_with fail
    refine (HOF.out _).mono ?_
    rintro e w3 ⟨a3, cap3, rfl, hb3, hO3⟩
    have HB3 := Lib.hid (HB2.out.trans (hb3.mono HB2.out.size))
    have HSA' := Lib.hid (HSA.out.keep hb3)
    have HSB := Lib.hid hO3.sl
    clear hb3 hO3 HB2 HSA HOF ht hr
    generalize ofP a = pa at *
    generalize ofP (a + r) = pb at *
    generalize ofN a = na at *
    generalize ofN (a + r) = nb at *
    obtain ⟨s0, hs0, hI0⟩ := HINIT.out
    have HI0 := Lib.hid hI0
    clear HINIT hI0
    rcases hs0 with ⟨rfl, h2, h3⟩ | ⟨rfl, h2⟩
    all_goals
      go_wp2_with fail
      go_loopw [13, 14] (fun u v wr => ∃ (s : Bool) (i : Nat), u = .bool s ∧ v = .int .i64 i ∧ SRel a (a + r) s i ∧ ∃ k, wr = w3.drewN k) (fun _ v _ => na - (intOf v).toNat)
      case atStart => exact ⟨_, 0, rfl, rfl, HI0.out, 0, rfl⟩
      case round =>
        obtain ⟨s, i, rfl, rfl, hR, k, rfl⟩ := hrel
        have hi4 := hR.1
        have HR := Lib.hid hR
        clear hR HI0
        by_cases hcont : i + 1 < na ∧ s = true
        · obtain ⟨hia, rfl⟩ := hcont
          obtain ⟨g1, o1, rfl, c1⟩ := (HSA'.out.drewN k).at (i := i) (by omega)
          have hsame := HSM.out i HR.out
          obtain ⟨g2, o2, rfl, c2⟩ := (HSB.out.drewN k).at (i := i) (by omega)
          have hl0 : (i : Int) + 1 < (na : Int) := by omega
          have hl1 : (i : Int) < (na : Int) := by omega
          have hl2 : (i : Int) < (nb : Int) := by omega
          have HE := Lib.hid (HNE.out i HR.out hia)
          have HN := Lib.hid (HNN.out i HR.out hia)
          clear hsame
          obtain ⟨W, hW⟩ : ∃ W, W = w3.drewN k := ⟨_, rfl⟩
          rw [← hW] at c1 c2 ⊢
          have HW := Lib.hid hW
          clear hW HR
          generalize ofZ a i = x at *
          generalize ofZ (a + r) i = y at *
          by_cases hxy : x = y
          · have hxb : (x == y) = true := by simpa using hxy
            have HF := Lib.hid (HE.out hxy)
            clear hxy HE HN
            go_wp2
            go_quiet (fail)
            go_wp2
            go_roundw
            case rel => exact ⟨true, i + 1, rfl, by go_num, HF.out, k + nq, by rw [HW.out, World.drewN_drewN]⟩
            case measure => simp [intOf]; omega
          · have hxb : (x == y) = false := by simpa using hxy
            have HF := Lib.hid (HN.out hxy)
            clear hxy HE HN
            go_wp2
            go_quiet (fail)
            go_wp2
            go_roundw
            case rel => exact ⟨false, i + 1, rfl, by go_num, HF.out, k + nq, by rw [HW.out, World.drewN_drewN]⟩
            case measure => simp [intOf]; omega
        · have hab := HDN.out s i HR.out hcont
          have HB4 := Lib.hid (below_drewN HB3.out k)
          obtain ⟨W, hW⟩ : ∃ W, W = w3.drewN k := ⟨_, rfl⟩
          rw [← hW] at HB4 ⊢
          clear hW HR HSA' HSB HNE HNN HDN HSM
          rcases hab with ⟨rfl, hlt⟩ | ⟨rfl, hge⟩
          · have hd : decide (a + r < N) = true := by simpa using hlt
            have hin : ¬ (i : Int) + 1 < (na : Int) := fun h => hcont ⟨by omega, rfl⟩
            clear hcont
            go_wp2
            go_ret
            exact ⟨rfl, HB4.out⟩
          · have hd : decide (a + r < N) = false := by simpa using hge
            clear hcont
            by_cases hin : (i : Int) + 1 < (na : Int)
            · go_wp2
              go_ret
              exact ⟨rfl, HB4.out⟩
            · go_wp2
              go_ret
              exact ⟨rfl, HB4.out⟩

theorem stops_walk (a m : Int) (w : World) (_ : -9223372036854775808 ≤ a ∧ a ≤ 9223372036854775807) (_ : -9223372036854775808 ≤ m ∧ m ≤ 9223372036854775807) :
    Calls Try.prog 7 #[.int .i64 a, .int .i64 m] w fun e w' => e = .returned (.bool true) ∧ Below w.heap.size w w' := by
  by_cases h : a < 0 ∨ 65536 ≤ a
  · exact stops_out a m h w
  · obtain ⟨t, ht, ht0, ht1⟩ : ∃ t : Int, ((0 ≤ m ∧ m % 64 = t) ∨ (m < 0 ∧ m.tmod 64 = t)) ∧ -63 ≤ t ∧ t ≤ 63 := by
      by_cases hm : 0 ≤ m
      · exact ⟨_, .inl ⟨hm, rfl⟩, by omega, by omega⟩
      · refine ⟨_, .inr ⟨by omega, rfl⟩, ?_⟩
        obtain ⟨b, rfl⟩ : ∃ b, m = -b := ⟨-m, by omega⟩
        rw [Int.neg_tmod, Int.tmod_eq_emod_of_nonneg (by omega)]
        omega
    by_cases hk : 65536 ≤ a + (t + 64) % 64
    · exact stops_far a m t _ (by omega) (by omega) ht ht0 ht1 rfl (by omega) (by omega) hk w
    · exact stops_near a m t _ (by omega) (by omega) ht ht0 ht1 rfl (by omega) (by omega) (by omega) w
end Go.Proofs.Ytjniajojbnhmgaa
