/-
  The walk of quernlaw10.PathsFirsts: it returns true, of any number, and changes nothing that was there.
  Conditions: none.
-/
import Derived.Test.YtjniajojbnhmgaaAwake
namespace Go.Proofs.Ytjniajojbnhmgaa
open Go.RowKit
set_option linter.unusedVariables false

theorem firsts_math (p : Nat) (h : p ≤ 10) : ofP (fst p) = p ∧ (ofN (fst p) : Int) = lev p ∧ ∀ i, i < ofN (fst p) → ofZ (fst p) i = 0 := by
  have : p = 0 ∨ p = 1 ∨ p = 2 ∨ p = 3 ∨ p = 4 ∨ p = 5 ∨ p = 6 ∨ p = 7 ∨ p = 8 ∨ p = 9 ∨ p = 10 := by omega
  rcases this with rfl | rfl | rfl | rfl | rfl | rfl | rfl | rfl | rfl | rfl | rfl <;> decide

set_option maxRecDepth 100000 in
set_option maxHeartbeats 1000000 in
theorem firsts_out (p : Int) (h : p < 0 ∨ 10 < p) (w : World) :
    Calls Try.prog 10 #[.int .i64 p] w fun e w' => e = .returned (.bool true) ∧ Below w.heap.size w w' := by
  have HF := Lib.hid (fun W => first_any p W)
  have HL := Lib.hid (fun W => level_any p W)
  rw [show frst p = -1 by unfold frst; rw [if_pos h]] at HF
  rw [show lev p = -1 by unfold lev; rw [if_pos h]] at HL
  rcases h with h | h
  all_goals
    go_enter Try.func10, Try.ntmps10
    go_wp2_with fail
    refine (awake_any _).mono ?_; rintro e w1 ⟨rfl, hb1⟩; have HB1 := Lib.hid hb1; clear hb1
    go_wp2_with fail
    refine (HF.out _).mono ?_; rintro e w2 ⟨rfl, hb2⟩; have HB2 := Lib.hid (HB1.out.trans (hb2.mono HB1.out.size)); clear hb2
    go_wp2_with fail
    refine (HL.out _).mono ?_; rintro e w3 ⟨rfl, hw3⟩; rw [hw3]; clear hw3
    go_wp2
    go_ret
    exact ⟨rfl, HB2.out⟩

set_option maxRecDepth 100000 in
set_option maxHeartbeats 1000000 in
theorem firsts_in (p : Nat) (h : p ≤ 10) (w : World) :
    Calls Try.prog 10 #[.int .i64 p] w fun e w' => e = .returned (.bool true) ∧ Below w.heap.size w w' := by
  obtain ⟨m1, m2, m3⟩ := firsts_math p h
  have HF := Lib.hid (fun W => first_any p W)
  have HL := Lib.hid (fun W => level_any p W)
  rw [show frst p = fst p by unfold frst; rw [if_neg (by omega)]; rfl] at HF
  have hlb := lev_bd p
  have HSP := Lib.hid (fun W => span_any (lev p) W)
  have hsb := spn_bd (lev p)
  have hFL : fst p ≤ 4168 := by unfold fst; (repeat' split) <;> omega
  have HFN : Hid (p ≠ 10 → ∀ W, Calls Try.prog 22 #[.int .i64 ((p : Int) + 1)] W fun e w' => e = .returned (.int .i64 (fst p + spn (lev p))) ∧ Below W.heap.size W w') := Lib.hid (fun hne W => by
    have := first_any ((p : Int) + 1) W
    rw [show frst ((p : Int) + 1) = fst (p + 1) by unfold frst; rw [if_neg (by omega)]; rfl, fst_succ p h] at this
    exact this)
  have HOF := Lib.hid (fun W => of_at (fst p) p (ofN (fst p)) (fun _ => 0) (by omega) (by omega) m1 rfl m3 W)
  generalize spn (lev p) = S at HSP hsb HFN
  have M2 := Lib.hid m2
  rw [← m2] at HL hlb HSP
  clear m1 m2 m3
  generalize ofN (fst p) = N at HL hlb HOF HSP
  generalize fst p = F at HF HFN HOF hFL
  go_enter Try.func10, Try.ntmps10
  go_wp2_with fail
  refine (awake_any _).mono ?_; rintro e w1 ⟨rfl, hb1⟩; have HB1 := Lib.hid hb1; clear hb1
  go_wp2_with fail
  refine (HF.out _).mono ?_; rintro e w2 ⟨rfl, hb2⟩; have HB2 := Lib.hid (HB1.out.trans (hb2.mono HB1.out.size)); clear hb2
  go_wp2_with fail
  refine (HL.out _).mono ?_; rintro e w3 ⟨rfl, hw3⟩; rw [hw3]; clear hw3
  go_wp2_with fail
  refine (HOF.out _).mono ?_
  rintro e w4 ⟨a, cap, rfl, hb4, hs4⟩
  have HB4 := Lib.hid (HB2.out.trans (hb4.mono HB2.out.size))
  have HS := Lib.hid hs4
  clear hb4 hs4 HB1 HB2
  go_wp2_with fail
  go_loop [8] (fun v => ∃ i : Nat, i ≤ N ∧ v = .int .i64 i) (fun v => N - (intOf v).toNat)
  case atStart => exact ⟨0, Nat.zero_le _, rfl⟩
  case round =>
    obtain ⟨i, hi, rfl⟩ := hrel
    by_cases hlt : i < N
    · obtain ⟨g, o, rfl, hc⟩ := HS.out.at hlt
      have hl3 : (i : Int) < (N : Int) := by omega
      go_wp2
      go_round
      case rel => exact ⟨i + 1, by omega, by go_num⟩
      case measure => simp [intOf]; omega
    · obtain rfl : i = N := by omega
      by_cases h10 : p = 10
      · subst h10
        go_wp2
        go_ret
        exact ⟨rfl, HB4.out⟩
      · have hd : ((p : Int) == 10) = false := by simp; omega
        have HFN2 := Lib.hid (HFN.out h10)
        have hxx : ((F : Int) + S == (F : Int) + S) = true := by simp
        go_wp2_with fail
        refine (HFN2.out _).mono ?_; rintro e w5 ⟨rfl, hb5⟩; have HB5 := Lib.hid (HB4.out.trans (hb5.mono HB4.out.size)); clear hb5
        go_wp2_with fail
        refine (HSP.out _).mono ?_; rintro e w6 ⟨rfl, hw6⟩; rw [hw6]; clear hw6
        go_wp2
        go_ret
        exact ⟨rfl, HB5.out⟩

theorem firsts_walk (p : Int) (w : World) (_ : -9223372036854775808 ≤ p ∧ p ≤ 9223372036854775807) :
    Calls Try.prog 10 #[.int .i64 p] w fun e w' => e = .returned (.bool true) ∧ Below w.heap.size w w' := by
  by_cases h : p < 0 ∨ 10 < p
  · exact firsts_out p h w
  · obtain ⟨m, rfl⟩ := Int.eq_ofNat_of_zero_le (a := p) (by omega)
    exact firsts_in m (by omega) w
end Go.Proofs.Ytjniajojbnhmgaa
