/-
  The walks of quernlaw10.PathsSpans and quernlaw10.PathsGrow: they return true, of any number, and change nothing that was there.
  Conditions: none.
-/
import Derived.Test.YtjniajojbnhmgaaAwake
namespace Go.Proofs.Ytjniajojbnhmgaa
open Go.RowKit
set_option linter.unusedVariables false

set_option maxRecDepth 100000 in
set_option maxHeartbeats 1000000 in
theorem spans_walk (l : Int) (w : World) (_ : -9223372036854775808 ≤ l ∧ l ≤ 9223372036854775807) :
    Calls Try.prog 9 #[.int .i64 l] w fun e w' => e = .returned (.bool true) ∧ Below w.heap.size w w' := by
  by_cases h : l < 0 ∨ 3 < l
  · have hs : spn l = 0 := by unfold spn; rw [if_pos h]
    have HS := Lib.hid (fun W => span_any l W)
    rw [hs] at HS
    clear hs
    rcases h with h | h
    all_goals
      go_enter Try.func9, Try.ntmps9
      go_wp2_with (first | (go_at_call 28; refine (awake_any _).mono ?_; rintro e w1 ⟨rfl, hb1⟩; have HB1 := Lib.hid hb1; clear hb1) | (go_at_call 20; refine (HS.out _).mono ?_; rintro e w2 ⟨rfl, hw2⟩; rw [hw2]; clear hw2))
      go_ret
      exact ⟨rfl, HB1.out⟩
  · have hl : l = 0 ∨ l = 1 ∨ l = 2 ∨ l = 3 := by omega
    clear h
    have s0 : spn 0 = 1 := by decide
    have s1 : spn 1 = 64 := by decide
    have s2 : spn 2 = 4096 := by decide
    have s3 : spn 3 = 262144 := by decide
    have H0 := Lib.hid (fun W => span_any 0 W)
    have H1 := Lib.hid (fun W => span_any 1 W)
    have H2 := Lib.hid (fun W => span_any 2 W)
    have H3 := Lib.hid (fun W => span_any 3 W)
    rw [s0] at H0
    rw [s1] at H1
    rw [s2] at H2
    rw [s3] at H3
    clear s0 s1 s2 s3
    rcases hl with rfl | rfl | rfl | rfl
    · go_enter Try.func9, Try.ntmps9
      go_wp2_with (first | (go_at_call 28; refine (awake_any _).mono ?_; rintro e w1 ⟨rfl, hb1⟩; have HB1 := Lib.hid hb1; clear hb1) | (go_at_call 20; refine (H0.out _).mono ?_; rintro e w2 ⟨rfl, hw2⟩; rw [hw2]; clear hw2))
      go_ret
      exact ⟨rfl, HB1.out⟩
    · go_enter Try.func9, Try.ntmps9
      go_wp2_with fail
      refine (awake_any _).mono ?_; rintro e w1 ⟨rfl, hb1⟩; have HB1 := Lib.hid hb1; clear hb1
      go_wp2_with fail
      refine (H1.out _).mono ?_; rintro e w2 ⟨rfl, hw2⟩; rw [hw2]; clear hw2
      go_wp2_with fail
      refine (H0.out _).mono ?_; rintro e w2 ⟨rfl, hw2⟩; rw [hw2]; clear hw2
      go_wp2
      go_ret
      exact ⟨rfl, HB1.out⟩
    · go_enter Try.func9, Try.ntmps9
      go_wp2_with fail
      refine (awake_any _).mono ?_; rintro e w1 ⟨rfl, hb1⟩; have HB1 := Lib.hid hb1; clear hb1
      go_wp2_with fail
      refine (H2.out _).mono ?_; rintro e w2 ⟨rfl, hw2⟩; rw [hw2]; clear hw2
      go_wp2_with fail
      refine (H1.out _).mono ?_; rintro e w2 ⟨rfl, hw2⟩; rw [hw2]; clear hw2
      go_wp2
      go_ret
      exact ⟨rfl, HB1.out⟩
    · go_enter Try.func9, Try.ntmps9
      go_wp2_with fail
      refine (awake_any _).mono ?_; rintro e w1 ⟨rfl, hb1⟩; have HB1 := Lib.hid hb1; clear hb1
      go_wp2_with fail
      refine (H3.out _).mono ?_; rintro e w2 ⟨rfl, hw2⟩; rw [hw2]; clear hw2
      go_wp2_with fail
      refine (H2.out _).mono ?_; rintro e w2 ⟨rfl, hw2⟩; rw [hw2]; clear hw2
      go_wp2
      go_ret
      exact ⟨rfl, HB1.out⟩

theorem ind_grow {k : Int} (h0 : 0 ≤ k) (h1 : k < 65536) : ind k ≤ ind (k + 1) ∧ ind (k + 1) ≤ ind k + 3 ∧ (k < 8 → ind (k + 1) = 0) ∧ (k = 8 → ind (k + 1) = 1) := by
  by_cases h8 : k < 8
  · rw [ind_0 (by omega), ind_0 (by omega)]; omega
  · by_cases h72 : k < 72
    · by_cases e : k = 8
      · subst e; decide
      · rw [ind_1 (by omega) (by omega), ind_1 (by omega) (by omega)]; omega
    · by_cases h4 : k < 4168
      · by_cases e : k = 72
        · subst e; decide
        · rw [ind_2 (by omega) (by omega), ind_2 (by omega) (by omega)]; omega
      · by_cases e : k = 4168
        · subst e; decide
        · rw [ind_3 (by omega), ind_3 (by omega)]; omega

set_option maxRecDepth 100000 in
set_option maxHeartbeats 1000000 in
theorem grow_walk (k : Int) (w : World) (_ : -9223372036854775808 ≤ k ∧ k ≤ 9223372036854775807) :
    Calls Try.prog 12 #[.int .i64 k] w fun e w' => e = .returned (.bool true) ∧ Below w.heap.size w w' := by
  by_cases h : k < 0 ∨ 65536 ≤ k
  · have HI := Lib.hid (fun W => indirect_any k W)
    have hb := (ind_bd (c := min (max k 0) 65536) (by omega)).1
    generalize ind (min (max k 0) 65536) = x at HI hb
    rcases h with h | h
    all_goals
      go_enter Try.func12, Try.ntmps12
      go_wp2_with fail
      refine (awake_any _).mono ?_; rintro e w1 ⟨rfl, hb1⟩; have HB1 := Lib.hid hb1; clear hb1
      go_wp2_with fail
      refine (HI.out _).mono ?_; rintro e w2 ⟨rfl, hb2⟩; have HB2 := Lib.hid (HB1.out.trans (hb2.mono HB1.out.size)); clear hb2
      go_wp2
      go_ret
      exact ⟨rfl, HB2.out⟩
  · have HI := Lib.hid (fun W => indirect_any k W)
    have HJ := Lib.hid (fun W => indirect_any (k + 1) W)
    rw [show min (max k 0) 65536 = k by omega] at HI
    rw [show min (max (k + 1) 0) 65536 = k + 1 by omega] at HJ
    obtain ⟨g1, g2, g3, g4⟩ := ind_grow (k := k) (by omega) (by omega)
    have hb := ind_bd (c := k) (by omega)
    generalize ind k = x at HI g1 g2 hb
    generalize ind (k + 1) = y at HJ g1 g2 g3 g4
    have hk0 : 0 ≤ k := by omega
    have hk1 : k < 65536 := by omega
    have G3 := Lib.hid g3
    have G4 := Lib.hid g4
    clear h g3 g4
    have d1 : decide (x ≤ y) = true := by simpa using g1
    have d2 : decide (y ≤ x + 3) = true := by simpa using g2
    by_cases h8 : k < 8
    · obtain rfl : y = 0 := G3.out h8
      have d3 : (k != 8) = true := by simp; omega
      go_enter Try.func12, Try.ntmps12
      go_wp2_with fail
      refine (awake_any _).mono ?_; rintro e w1 ⟨rfl, hb1⟩; have HB1 := Lib.hid hb1; clear hb1
      go_wp2_with fail
      refine (HI.out _).mono ?_; rintro e w2 ⟨rfl, hb2⟩; have HB2 := Lib.hid (HB1.out.trans (hb2.mono HB1.out.size)); clear hb2
      go_wp2_with fail
      refine (HJ.out _).mono ?_; rintro e w3 ⟨rfl, hb3⟩; have HB3 := Lib.hid (HB2.out.trans (hb3.mono HB2.out.size)); clear hb3
      go_wp2
      go_ret
      exact ⟨rfl, HB3.out⟩
    · by_cases e8 : k = 8
      · subst e8
        obtain rfl : y = 1 := G4.out rfl
        go_enter Try.func12, Try.ntmps12
        go_wp2_with fail
        refine (awake_any _).mono ?_; rintro e w1 ⟨rfl, hb1⟩; have HB1 := Lib.hid hb1; clear hb1
        go_wp2_with fail
        refine (HI.out _).mono ?_; rintro e w2 ⟨rfl, hb2⟩; have HB2 := Lib.hid (HB1.out.trans (hb2.mono HB1.out.size)); clear hb2
        go_wp2_with fail
        refine (HJ.out _).mono ?_; rintro e w3 ⟨rfl, hb3⟩; have HB3 := Lib.hid (HB2.out.trans (hb3.mono HB2.out.size)); clear hb3
        go_wp2
        go_ret
        exact ⟨rfl, HB3.out⟩
      · have d3 : (k != 8) = true := by simpa using e8
        have d4 : decide (8 ≤ k) = true := by simp; omega
        go_enter Try.func12, Try.ntmps12
        go_wp2_with fail
        refine (awake_any _).mono ?_; rintro e w1 ⟨rfl, hb1⟩; have HB1 := Lib.hid hb1; clear hb1
        go_wp2_with fail
        refine (HI.out _).mono ?_; rintro e w2 ⟨rfl, hb2⟩; have HB2 := Lib.hid (HB1.out.trans (hb2.mono HB1.out.size)); clear hb2
        go_wp2_with fail
        refine (HJ.out _).mono ?_; rintro e w3 ⟨rfl, hb3⟩; have HB3 := Lib.hid (HB2.out.trans (hb3.mono HB2.out.size)); clear hb3
        go_wp2
        go_ret
        exact ⟨rfl, HB3.out⟩
end Go.Proofs.Ytjniajojbnhmgaa
