/-
  The walk of quernlaw10.PathsApart: it returns true, of any two numbers, and changes nothing that was there.
  Conditions: none.
-/
import Derived.Test.YtjniajojbnhmgaaAwake
namespace Go.Proofs.Ytjniajojbnhmgaa
open Go.RowKit
set_option linter.unusedVariables false

/-- What holds at the head of the loop of PathsApart. -/
def ARel (a b : Int) (s : Bool) (i : Nat) : Prop := i ≤ ofN a ∧ (s = true → ofP a = ofP b ∧ ∀ j, j < i → ofZ a j = ofZ b j) ∧ (s = false → a ≠ b)

theorem ofN_le (k : Int) : ofN k ≤ 3 := by unfold ofN; (repeat' split) <;> omega

theorem ARel.next_eq {a b : Int} {i : Nat} (h : ARel a b true i) (hi : i < ofN a) (hz : ofZ a i = ofZ b i) : ARel a b true (i + 1) :=
  ⟨by omega, fun _ => ⟨(h.2.1 rfl).1, fun j hj => by
    rcases Nat.lt_or_ge j i with h1 | h1
    · exact (h.2.1 rfl).2 j h1
    · obtain rfl : j = i := by omega
      exact hz⟩, fun h => by cases h⟩
theorem ARel.next_ne {a b : Int} {i : Nat} (h : ARel a b true i) (hi : i < ofN a) (hz : ofZ a i ≠ ofZ b i) : ARel a b false (i + 1) :=
  ⟨by omega, (fun h => by cases h), fun _ e => hz (by rw [e])⟩
theorem ARel.next_no {a b : Int} {i : Nat} (h : ARel a b false i) (hi : i < ofN a) : ARel a b false (i + 1) :=
  ⟨by omega, (fun h => by cases h), h.2.2⟩
theorem ARel.start1 {a b : Int} (h : ofP a = ofP b) : ARel a b true 0 := ⟨Nat.zero_le _, fun _ => ⟨h, fun j hj => by omega⟩, fun h => by cases h⟩
theorem ARel.start2 {a b : Int} (h : ofP a ≠ ofP b) : ARel a b false 0 := ⟨Nat.zero_le _, (fun h => by cases h), fun _ e => h (by rw [e])⟩
theorem ARel.done {a b : Int} {s : Bool} {i : Nat} (ha : 0 ≤ a) (hb : 0 ≤ b) (ha1 : a < 65536) (hb1 : b < 65536) (h : ARel a b s i) (hi : ¬ i < ofN a) : (a == b) = s := by
  cases s with
  | true =>
    obtain ⟨hp, hz⟩ := h.2.1 rfl
    have := way_inj ha ha1 hb hb1 hp (fun j hj => hz j (by omega))
    simpa using this
  | false => simpa using h.2.2 rfl

set_option maxRecDepth 100000 in
set_option maxHeartbeats 1000000 in
theorem apart_in_neg (a b : Int) (ha0 : 0 ≤ a) (ha1 : a < 65536) (hb : b < 0) (w : World) :
    Calls Try.prog 11 #[.int .i64 a, .int .i64 b] w fun e w' => e = .returned (.bool true) ∧ Below w.heap.size w w' := by
  go_enter Try.func11, Try.ntmps11
  go_wp2_with fail
  refine (awake_any _).mono ?_; rintro e w1 ⟨rfl, hb1⟩; have HB1 := Lib.hid hb1; clear hb1
  go_wp2_with fail
  refine (of_yes a ha0 ha1 _).mono ?_
  rintro e w2 ⟨a2, c2, rfl, hb2, hO⟩
  have HB2 := Lib.hid (HB1.out.trans (hb2.mono HB1.out.size))
  clear hb2 hO
  go_wp2_with fail
  refine (of_none b (by omega) _).mono ?_
  rintro e w3 ⟨rfl, hb3⟩
  have HB3 := Lib.hid (HB2.out.trans (hb3.mono HB2.out.size))
  clear hb3
  go_wp2
  go_ret
  exact ⟨rfl, HB3.out⟩

set_option maxRecDepth 100000 in
set_option maxHeartbeats 1000000 in
theorem apart_in_big (a b : Int) (ha0 : 0 ≤ a) (ha1 : a < 65536) (hb : 65536 ≤ b) (w : World) :
    Calls Try.prog 11 #[.int .i64 a, .int .i64 b] w fun e w' => e = .returned (.bool true) ∧ Below w.heap.size w w' := by
  go_enter Try.func11, Try.ntmps11
  go_wp2_with fail
  refine (awake_any _).mono ?_; rintro e w1 ⟨rfl, hb1⟩; have HB1 := Lib.hid hb1; clear hb1
  go_wp2_with fail
  refine (of_yes a ha0 ha1 _).mono ?_
  rintro e w2 ⟨a2, c2, rfl, hb2, hO⟩
  have HB2 := Lib.hid (HB1.out.trans (hb2.mono HB1.out.size))
  clear hb2 hO
  go_wp2_with fail
  refine (of_none b (by omega) _).mono ?_
  rintro e w3 ⟨rfl, hb3⟩
  have HB3 := Lib.hid (HB2.out.trans (hb3.mono HB2.out.size))
  clear hb3
  go_wp2
  go_ret
  exact ⟨rfl, HB3.out⟩

set_option maxRecDepth 100000 in
set_option maxHeartbeats 1000000 in
theorem apart_neg_in (a b : Int) (ha : a < 0) (hb0 : 0 ≤ b) (hb1 : b < 65536) (w : World) :
    Calls Try.prog 11 #[.int .i64 a, .int .i64 b] w fun e w' => e = .returned (.bool true) ∧ Below w.heap.size w w' := by
  go_enter Try.func11, Try.ntmps11
  go_wp2_with fail
  refine (awake_any _).mono ?_; rintro e w1 ⟨rfl, hb1⟩; have HB1 := Lib.hid hb1; clear hb1
  go_wp2_with fail
  refine (of_none a (by omega) _).mono ?_
  rintro e w2 ⟨rfl, hb2⟩
  have HB2 := Lib.hid (HB1.out.trans (hb2.mono HB1.out.size))
  clear hb2
  go_wp2_with fail
  refine (of_yes b hb0 hb1 _).mono ?_
  rintro e w3 ⟨a3, c3, rfl, hb3, hO⟩
  have HB3 := Lib.hid (HB2.out.trans (hb3.mono HB2.out.size))
  clear hb3 hO
  go_wp2
  go_ret
  exact ⟨rfl, HB3.out⟩

set_option maxRecDepth 100000 in
set_option maxHeartbeats 1000000 in
theorem apart_neg_neg (a b : Int) (ha : a < 0) (hb : b < 0) (w : World) :
    Calls Try.prog 11 #[.int .i64 a, .int .i64 b] w fun e w' => e = .returned (.bool true) ∧ Below w.heap.size w w' := by
  go_enter Try.func11, Try.ntmps11
  go_wp2_with fail
  refine (awake_any _).mono ?_; rintro e w1 ⟨rfl, hb1⟩; have HB1 := Lib.hid hb1; clear hb1
  go_wp2_with fail
  refine (of_none a (by omega) _).mono ?_
  rintro e w2 ⟨rfl, hb2⟩
  have HB2 := Lib.hid (HB1.out.trans (hb2.mono HB1.out.size))
  clear hb2
  go_wp2_with fail
  refine (of_none b (by omega) _).mono ?_
  rintro e w3 ⟨rfl, hb3⟩
  have HB3 := Lib.hid (HB2.out.trans (hb3.mono HB2.out.size))
  clear hb3
  go_wp2
  go_ret
  exact ⟨rfl, HB3.out⟩

set_option maxRecDepth 100000 in
set_option maxHeartbeats 1000000 in
theorem apart_neg_big (a b : Int) (ha : a < 0) (hb : 65536 ≤ b) (w : World) :
    Calls Try.prog 11 #[.int .i64 a, .int .i64 b] w fun e w' => e = .returned (.bool true) ∧ Below w.heap.size w w' := by
  go_enter Try.func11, Try.ntmps11
  go_wp2_with fail
  refine (awake_any _).mono ?_; rintro e w1 ⟨rfl, hb1⟩; have HB1 := Lib.hid hb1; clear hb1
  go_wp2_with fail
  refine (of_none a (by omega) _).mono ?_
  rintro e w2 ⟨rfl, hb2⟩
  have HB2 := Lib.hid (HB1.out.trans (hb2.mono HB1.out.size))
  clear hb2
  go_wp2_with fail
  refine (of_none b (by omega) _).mono ?_
  rintro e w3 ⟨rfl, hb3⟩
  have HB3 := Lib.hid (HB2.out.trans (hb3.mono HB2.out.size))
  clear hb3
  go_wp2
  go_ret
  exact ⟨rfl, HB3.out⟩

set_option maxRecDepth 100000 in
set_option maxHeartbeats 1000000 in
theorem apart_big_in (a b : Int) (ha : 65536 ≤ a) (hb0 : 0 ≤ b) (hb1 : b < 65536) (w : World) :
    Calls Try.prog 11 #[.int .i64 a, .int .i64 b] w fun e w' => e = .returned (.bool true) ∧ Below w.heap.size w w' := by
  go_enter Try.func11, Try.ntmps11
  go_wp2_with fail
  refine (awake_any _).mono ?_; rintro e w1 ⟨rfl, hb1⟩; have HB1 := Lib.hid hb1; clear hb1
  go_wp2_with fail
  refine (of_none a (by omega) _).mono ?_
  rintro e w2 ⟨rfl, hb2⟩
  have HB2 := Lib.hid (HB1.out.trans (hb2.mono HB1.out.size))
  clear hb2
  go_wp2_with fail
  refine (of_yes b hb0 hb1 _).mono ?_
  rintro e w3 ⟨a3, c3, rfl, hb3, hO⟩
  have HB3 := Lib.hid (HB2.out.trans (hb3.mono HB2.out.size))
  clear hb3 hO
  go_wp2
  go_ret
  exact ⟨rfl, HB3.out⟩

set_option maxRecDepth 100000 in
set_option maxHeartbeats 1000000 in
theorem apart_big_neg (a b : Int) (ha : 65536 ≤ a) (hb : b < 0) (w : World) :
    Calls Try.prog 11 #[.int .i64 a, .int .i64 b] w fun e w' => e = .returned (.bool true) ∧ Below w.heap.size w w' := by
  go_enter Try.func11, Try.ntmps11
  go_wp2_with fail
  refine (awake_any _).mono ?_; rintro e w1 ⟨rfl, hb1⟩; have HB1 := Lib.hid hb1; clear hb1
  go_wp2_with fail
  refine (of_none a (by omega) _).mono ?_
  rintro e w2 ⟨rfl, hb2⟩
  have HB2 := Lib.hid (HB1.out.trans (hb2.mono HB1.out.size))
  clear hb2
  go_wp2_with fail
  refine (of_none b (by omega) _).mono ?_
  rintro e w3 ⟨rfl, hb3⟩
  have HB3 := Lib.hid (HB2.out.trans (hb3.mono HB2.out.size))
  clear hb3
  go_wp2
  go_ret
  exact ⟨rfl, HB3.out⟩

set_option maxRecDepth 100000 in
set_option maxHeartbeats 1000000 in
theorem apart_big_big (a b : Int) (ha : 65536 ≤ a) (hb : 65536 ≤ b) (w : World) :
    Calls Try.prog 11 #[.int .i64 a, .int .i64 b] w fun e w' => e = .returned (.bool true) ∧ Below w.heap.size w w' := by
  go_enter Try.func11, Try.ntmps11
  go_wp2_with fail
  refine (awake_any _).mono ?_; rintro e w1 ⟨rfl, hb1⟩; have HB1 := Lib.hid hb1; clear hb1
  go_wp2_with fail
  refine (of_none a (by omega) _).mono ?_
  rintro e w2 ⟨rfl, hb2⟩
  have HB2 := Lib.hid (HB1.out.trans (hb2.mono HB1.out.size))
  clear hb2
  go_wp2_with fail
  refine (of_none b (by omega) _).mono ?_
  rintro e w3 ⟨rfl, hb3⟩
  have HB3 := Lib.hid (HB2.out.trans (hb3.mono HB2.out.size))
  clear hb3
  go_wp2
  go_ret
  exact ⟨rfl, HB3.out⟩

set_option maxRecDepth 100000 in
set_option maxHeartbeats 4000000 in
theorem apart_in (a b : Int) (ha0 : 0 ≤ a) (ha1 : a < 65536) (hb0 : 0 ≤ b) (hb1' : b < 65536) (w : World) :
    Calls Try.prog 11 #[.int .i64 a, .int .i64 b] w fun e w' => e = .returned (.bool true) ∧ Below w.heap.size w w' := by
  have HNE := Lib.hid (fun i (h : ARel a b true i) (hi : i < ofN a) (hz : ofZ a i = ofZ b i) => h.next_eq hi hz)
  have HNN := Lib.hid (fun i (h : ARel a b true i) (hi : i < ofN a) (hz : ofZ a i ≠ ofZ b i) => h.next_ne hi hz)
  have HNO := Lib.hid (fun i (h : ARel a b false i) (hi : i < ofN a) => h.next_no hi)
  have HDN := Lib.hid (fun s i (h : ARel a b s i) (hi : ¬ i < ofN a) => h.done ha0 hb0 ha1 hb1' hi)
  have HSM := Lib.hid (fun i (h : ARel a b true i) => (ofN_of_ofP ha0 hb0 (h.2.1 rfl).1))
  have HST3 := Lib.hid (fun (h : ofP a = ofP b) => ofN_of_ofP ha0 hb0 h)
  have HZA := Lib.hid (fun j (hj : j < ofN a) => ofZ_bd ha0 ha1 hj)
  have HLV := Lib.hid (fun W => level_any (ofP a) W)
  rw [← ofN_lev ha0] at HLV
  have hNa := ofN_le a
  have hNb := ofN_le b
  go_enter Try.func11, Try.ntmps11
  go_wp2_with fail
  refine (awake_any _).mono ?_; rintro e w1 ⟨rfl, hb1⟩; have HB1 := Lib.hid hb1; clear hb1
  go_wp2_with fail
  refine (of_yes a ha0 ha1 _).mono ?_
  rintro e w2 ⟨a2, cap2, rfl, hb2, hO2⟩
  have HB2 := Lib.hid (HB1.out.trans (hb2.mono HB1.out.size))
  have HSA := Lib.hid hO2.sl
  clear hb2 hO2 HB1
  go_wp2_with fail
  refine (of_yes b hb0 hb1' _).mono ?_
  rintro e w3 ⟨a3, cap3, rfl, hb3, hO3⟩
  have HB3 := Lib.hid (HB2.out.trans (hb3.mono HB2.out.size))
  have HSA' := Lib.hid (HSA.out.keep hb3)
  have HSB := Lib.hid hO3.sl
  clear hb3 hO3 HB2 HSA
  have hpq : (ofP a = ofP b ∧ (ofP a == ofP b) = true ∧ ((ofN a : Int) == (ofN b : Int)) = true) ∨ (ofP a ≠ ofP b ∧ (ofP a == ofP b) = false) := by
    by_cases h : ofP a = ofP b
    · exact .inl ⟨h, by simpa using h, by rw [HST3.out h]; simp⟩
    · exact .inr ⟨h, by simpa using h⟩
  have HINIT : Hid (∃ s : Bool, ((s = true ∧ (ofP a == ofP b) = true ∧ ((ofN a : Int) == (ofN b : Int)) = true) ∨ (s = false ∧ (ofP a == ofP b) = false)) ∧ ARel a b s 0) := Lib.hid (by
    rcases hpq with ⟨h1, h2, h3⟩ | ⟨h1, h2⟩
    · exact ⟨true, .inl ⟨rfl, h2, h3⟩, ARel.start1 h1⟩
    · exact ⟨false, .inr ⟨rfl, h2⟩, ARel.start2 h1⟩)
  clear HST3 hpq
  generalize ofP a = pa at *
  generalize ofP b = pb at *
  generalize ofN a = na at *
  generalize ofN b = nb at *
  obtain ⟨s0, hs0, hI0⟩ := HINIT.out
  have HI0 := Lib.hid hI0
  clear HINIT hI0
  rcases hs0 with ⟨rfl, h2, h3⟩ | ⟨rfl, h2⟩
  all_goals
    go_wp2_with fail
    go_loopw [11, 12] (fun u v wr => ∃ (s : Bool) (i : Nat), u = .bool s ∧ v = .int .i64 i ∧ ARel a b s i ∧ ∃ k, wr = w3.drewN k) (fun _ v _ => na - (intOf v).toNat)
    case atStart => exact ⟨_, 0, rfl, rfl, HI0.out, 0, rfl⟩
    case round =>
      obtain ⟨s, i, rfl, rfl, hR, k, rfl⟩ := hrel
      have HR := Lib.hid hR
      clear hR HI0
      by_cases hia : i < na
      · obtain ⟨g1, o1, rfl, c1⟩ := (HSA'.out.drewN k).at hia
        have hza := HZA.out i hia
        have hl1 : (i : Int) < (na : Int) := by omega
        cases s with
        | true =>
          have hsame := HSM.out i HR.out
          obtain ⟨g2, o2, rfl, c2⟩ := (HSB.out.drewN k).at (i := i) (by omega)
          have hl2 : (i : Int) < (nb : Int) := by omega
          have HE := Lib.hid (HNE.out i HR.out hia)
          have HN := Lib.hid (HNN.out i HR.out hia)
          clear hsame
          obtain ⟨W, hW⟩ : ∃ W, W = w3.drewN k := ⟨_, rfl⟩
          rw [← hW] at c1 c2 ⊢
          have HW := Lib.hid hW
          clear hW HR
          generalize ofZ a i = x at *
          generalize ofZ b i = y at *
          by_cases hxy : x = y
          · have hxb : (x == y) = true := by simpa using hxy
            have HF := Lib.hid (HE.out hxy)
            clear hxy HE HN
            go_wp2
            go_quiet (fail)
            go_wp2
            go_roundw
            case rel => exact ⟨true, i + 1, rfl, by go_num, HF.out, k + nq, by rw [HW.out, World.drewN_drewN]⟩
            case measure => simp [intOf]; omega
          · have hxb : (x == y) = false := by simpa using hxy
            have HF := Lib.hid (HN.out hxy)
            clear hxy HE HN
            go_wp2
            go_quiet (fail)
            go_wp2
            go_roundw
            case rel => exact ⟨false, i + 1, rfl, by go_num, HF.out, k + nq, by rw [HW.out, World.drewN_drewN]⟩
            case measure => simp [intOf]; omega
        | false =>
          have HF := Lib.hid (HNO.out i HR.out hia)
          obtain ⟨W, hW⟩ : ∃ W, W = w3.drewN k := ⟨_, rfl⟩
          rw [← hW] at c1 ⊢
          have HW := Lib.hid hW
          clear hW HR
          generalize ofZ a i = x at *
          go_wp2
          go_quiet (fail)
          go_wp2
          go_roundw
          case rel => exact ⟨false, i + 1, rfl, by go_num, HF.out, k + nq, by rw [HW.out, World.drewN_drewN]⟩
          case measure => simp [intOf]; omega
      · have hab := HDN.out s i HR.out hia
        have HB4 := Lib.hid (below_drewN HB3.out k)
        obtain ⟨W, hW⟩ : ∃ W, W = w3.drewN k := ⟨_, rfl⟩
        rw [← hW] at HB4 ⊢
        clear hW HR HSA' HSB HZA HNE HNN HNO HDN HSM
        have hnn : ((na : Int) == (na : Int)) = true := by simp
        cases s with
        | true =>
          go_wp2_with fail
          refine (HLV.out _).mono ?_; rintro e w5 ⟨rfl, hw5⟩; rw [hw5]; clear hw5
          go_wp2
          go_ret
          exact ⟨rfl, HB4.out⟩
        | false =>
          go_wp2_with fail
          refine (HLV.out _).mono ?_; rintro e w5 ⟨rfl, hw5⟩; rw [hw5]; clear hw5
          go_wp2
          go_ret
          exact ⟨rfl, HB4.out⟩

theorem apart_walk (a b : Int) (w : World) (_ : -9223372036854775808 ≤ a ∧ a ≤ 9223372036854775807) (_ : -9223372036854775808 ≤ b ∧ b ≤ 9223372036854775807) :
    Calls Try.prog 11 #[.int .i64 a, .int .i64 b] w fun e w' => e = .returned (.bool true) ∧ Below w.heap.size w w' := by
  by_cases ha : a < 0
  · by_cases hb : b < 0
    · exact apart_neg_neg a b ha hb w
    · by_cases hb2 : 65536 ≤ b
      · exact apart_neg_big a b ha hb2 w
      · exact apart_neg_in a b ha (by omega) (by omega) w
  · by_cases ha2 : 65536 ≤ a
    · by_cases hb : b < 0
      · exact apart_big_neg a b ha2 hb w
      · by_cases hb2 : 65536 ≤ b
        · exact apart_big_big a b ha2 hb2 w
        · exact apart_big_in a b ha2 (by omega) (by omega) w
    · by_cases hb : b < 0
      · exact apart_in_neg a b (by omega) (by omega) hb w
      · by_cases hb2 : 65536 ≤ b
        · exact apart_in_big a b (by omega) (by omega) hb2 w
        · exact apart_in a b (by omega) (by omega) (by omega) (by omega) w
end Go.Proofs.Ytjniajojbnhmgaa
