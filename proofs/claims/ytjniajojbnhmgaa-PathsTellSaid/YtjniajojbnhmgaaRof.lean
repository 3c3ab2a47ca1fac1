/-
  The contracts of quernref10.Of and of quernref10.Same where the numbers are the same.
  Conditions: none but those that each lemma names.
-/
import Derived.Test.YtjniajojbnhmgaaWay
namespace Go.Proofs.Ytjniajojbnhmgaa
open Go.RowKit
set_option linter.unusedVariables false

theorem rof_none (k : Int) (hk : k < 0 ∨ 65536 ≤ k) (w : World) : Calls Try.prog 16 #[.int .i64 k] w fun e w' => e = .returned (.tuple #[.int .i64 0, .slice none 0 0, .int .i64 100]) ∧ Below w.heap.size w w' := by
  rcases hk with hk | hk
  · go_enter Try.func16, Try.ntmps16
    go_wp2
    go_ret3
    exact ⟨rfl, Below.refl _ w⟩
  · go_enter Try.func16, Try.ntmps16
    go_wp2
    go_ret3
    exact ⟨rfl, Below.refl _ w⟩

theorem ret3 {p q : Int} {a : Option Addr} {n m c : Nat} (hp : p = q) (hn : n = m) : Ending.returned (.tuple #[.int .i64 p, .slice a n c, .int .i64 0]) = .returned (.tuple #[.int .i64 q, .slice a m c, .int .i64 0]) := by subst hp; subst hn; rfl
theorem ofN_0 {k : Int} (h : k < 8) : ofN k = 0 := by unfold ofN; rw [if_pos h]
theorem ofN_1 {k : Int} (h : 8 ≤ k) (h2 : k < 72) : ofN k = 1 := by unfold ofN; rw [if_neg (by omega), if_pos h2]
theorem ofN_2 {k : Int} (h : 72 ≤ k) (h2 : k < 4168) : ofN k = 2 := by unfold ofN; rw [if_neg (by omega), if_neg (by omega), if_pos h2]
theorem ofN_3 {k : Int} (h : 4168 ≤ k) : ofN k = 3 := by unfold ofN; rw [if_neg (by omega), if_neg (by omega), if_neg (by omega)]
theorem ofP_0 {k : Int} (h : k < 8) : ofP k = k := by unfold ofP; rw [if_pos h]
theorem ofP_1 {k : Int} (h : 8 ≤ k) (h2 : k < 72) : ofP k = 8 := by unfold ofP; rw [if_neg (by omega), if_pos h2]
theorem ofP_2 {k : Int} (h : 72 ≤ k) (h2 : k < 4168) : ofP k = 9 := by unfold ofP; rw [if_neg (by omega), if_neg (by omega), if_pos h2]
theorem ofP_3 {k : Int} (h : 4168 ≤ k) : ofP k = 10 := by unfold ofP; rw [if_neg (by omega), if_neg (by omega), if_neg (by omega)]
theorem ofZ_1 {k : Int} (h2 : k < 72) (i : Nat) : ofZ k i = k - 8 := by unfold ofZ; rw [if_pos h2]
theorem ofZ_20 {k : Int} (h : 72 ≤ k) (h2 : k < 4168) : ofZ k 0 = (k - 72) / 64 := by unfold ofZ; rw [if_neg (by omega), if_pos h2, if_pos rfl]
theorem ofZ_21 {k : Int} (h : 72 ≤ k) (h2 : k < 4168) : ofZ k 1 = (k - 72) % 64 := by unfold ofZ; rw [if_neg (by omega), if_pos h2, if_neg (by omega)]
theorem ofZ_30 {k : Int} (h : 4168 ≤ k) : ofZ k 0 = (k - 4168) / 4096 := by unfold ofZ; rw [if_neg (by omega), if_neg (by omega), if_pos rfl]
theorem ofZ_31 {k : Int} (h : 4168 ≤ k) : ofZ k 1 = (k - 4168) / 64 % 64 := by unfold ofZ; rw [if_neg (by omega), if_neg (by omega), if_neg (by omega), if_pos rfl]
theorem ofZ_32 {k : Int} (h : 4168 ≤ k) : ofZ k 2 = (k - 4168) % 64 := by unfold ofZ; rw [if_neg (by omega), if_neg (by omega), if_neg (by omega), if_neg (by omega)]

set_option maxRecDepth 100000 in
set_option maxHeartbeats 400000 in
theorem rof_yes (k : Int) (h0 : 0 ≤ k) (h1 : k < 65536) (w : World) : Calls Try.prog 16 #[.int .i64 k] w (OfPost k w) := by
  by_cases h8 : k < 8
  · have H := Lib.hid (ofN_0 h8)
    have H2 := Lib.hid (ofP_0 h8)
    go_enter Try.func16, Try.ntmps16
    go_wp2
    go_ret3
    exact ⟨none, 0, ret3 H2.out.symm H.out.symm, Below.refl _ w, .inl ⟨H.out, rfl⟩⟩
  · by_cases h72 : k < 72
    · have H := Lib.hid (ofN_1 (by omega) h72)
      have H2 := Lib.hid (ofP_1 (by omega) h72)
      have H3 := Lib.hid (ofZ_1 h72)
      go_enter Try.func16, Try.ntmps16
      go_wp2
      go_ret3
      refine ⟨_, _, ret3 H2.out.symm H.out.symm, (Below.refl _ w).alloc (Nat.le_refl _) _, .inr ⟨w.heap.size, _, rfl, Nat.le_refl _, heap_alloc_new w _, by rw [H.out]; exact Nat.le_refl _, fun i hi => ?_⟩⟩
      rw [H.out] at hi
      obtain rfl : i = 0 := by omega
      rw [H3.out]; rfl
    · by_cases h4 : k < 4168
      · have H := Lib.hid (ofN_2 (by omega) h4)
        have H2 := Lib.hid (ofP_2 (by omega) h4)
        have H3 := Lib.hid (ofZ_20 (by omega) h4)
        have H4 := Lib.hid (ofZ_21 (by omega) h4)
        have h5 : 0 ≤ k - 72 := by omega
        go_enter Try.func16, Try.ntmps16
        go_wp2
        go_ret3
        refine ⟨_, _, ret3 H2.out.symm H.out.symm, (Below.refl _ w).alloc (Nat.le_refl _) _, .inr ⟨w.heap.size, _, rfl, Nat.le_refl _, heap_alloc_new w _, by rw [H.out]; exact Nat.le_refl _, fun i hi => ?_⟩⟩
        rw [H.out] at hi
        have : i = 0 ∨ i = 1 := by omega
        rcases this with rfl | rfl
        · rw [H3.out]; rfl
        · rw [H4.out]; rfl
      · have H := Lib.hid (ofN_3 (k := k) (by omega))
        have H2 := Lib.hid (ofP_3 (k := k) (by omega))
        have H3 := Lib.hid (ofZ_30 (k := k) (by omega))
        have H4 := Lib.hid (ofZ_31 (k := k) (by omega))
        have H5 := Lib.hid (ofZ_32 (k := k) (by omega))
        have h5 : 0 ≤ k - 4168 := by omega
        go_enter Try.func16, Try.ntmps16
        go_wp2
        go_ret3
        refine ⟨_, _, ret3 H2.out.symm H.out.symm, (Below.refl _ w).alloc (Nat.le_refl _) _, .inr ⟨w.heap.size, _, rfl, Nat.le_refl _, heap_alloc_new w _, by rw [H.out]; exact Nat.le_refl _, fun i hi => ?_⟩⟩
        rw [H.out] at hi
        have : i = 0 ∨ i = 1 ∨ i = 2 := by omega
        rcases this with rfl | rfl | rfl
        · rw [H3.out]; rfl
        · rw [H4.out]; rfl
        · rw [H5.out]; rfl

set_option maxRecDepth 100000 in
set_option maxHeartbeats 1000000 in
theorem same_yes (n : Nat) (hn : n ≤ 100000) (z : Nat → Int) (a b : Option Addr) (c1 c2 : Nat) (w : World) (h1 : Sl w a n z) (h2 : Sl w b n z) :
    Calls Try.prog 15 #[.slice a n c1, .slice b n c2] w fun e w' => e = .returned (.bool true) ∧ ∃ k, w' = w.drewN k := by
  have H1 := Lib.hid h1
  have H2 := Lib.hid h2
  clear h1 h2
  go_enter Try.func15, Try.ntmps15
  go_wp2
  go_loopw [5] (fun v wr => ∃ i : Nat, i ≤ n ∧ v = .int .i64 i ∧ ∃ k, wr = w.drewN k) (fun v _ => n - (intOf v).toNat)
  case atStart => exact ⟨0, Nat.zero_le _, rfl, 0, rfl⟩
  case round =>
    obtain ⟨i, hi, rfl, k, rfl⟩ := hrel
    by_cases hlt : i < n
    · obtain ⟨g1, o1, rfl, c1⟩ := (H1.out.drewN k).at hlt
      obtain ⟨g2, o2, rfl, c2⟩ := (H2.out.drewN k).at hlt
      have hl3 : (i : Int) < (n : Int) := by omega
      obtain ⟨w1, hw1⟩ : ∃ w1, w1 = w.drewN k := ⟨_, rfl⟩
      rw [← hw1] at c1 c2 ⊢
      have HW := Lib.hid hw1
      clear hw1
      go_wp2
      go_quiet (fail)
      go_wp2
      go_roundw
      case rel => exact ⟨i + 1, by omega, by go_num, k + nq, by rw [HW.out, World.drewN_drewN]⟩
      case measure => simp [intOf]; omega
    · go_wp2
      go_ret
      exact ⟨rfl, k, rfl⟩
end Go.Proofs.Ytjniajojbnhmgaa
