/-
  The walk of quernlaw04.BitsLeast: it returns true, of any block and numbers, and changes nothing that was there.
  Conditions: none.
-/
import Derived.Test.YtiajohnnmnoijaaAwake
namespace Go.Proofs.Ytiajohnnmnoijaa
open Go.RowKit

/-- What holds where the loop of BitsLeast comes to the bit i. -/
def LeastRel (f : Nat → Nat) (lo : Int) (w : World) (v : Value) (wr : World) : Prop := ∃ i : Nat, v = .int .i64 i ∧ lo ≤ i ∧ Boxes f w wr

theorem Boxes.get {f : Nat → Nat} {w wr w2 : World} (h : Boxes f w wr) (h2 : Below wr.heap.size wr w2) : Boxes f w w2 :=
  ⟨h.below.trans (h2.mono h.below.size), Below.get h2 h.box⟩

set_option maxRecDepth 100000 in
set_option maxHeartbeats 1000000 in
theorem least_none (f : Nat → Nat) (hf : Bytes f) (lo hi : Int) (w : World) (h1 : firstB f lo hi = -1) (h2 : ∀ k : Nat, lo ≤ k → (k : Int) < hi → k < 2048 → bit f k = true) :
    Calls Try.prog 6 #[.agg (bc f), .int .i64 lo, .int .i64 hi] w fun e w' => e = .returned (.bool true) ∧ Below w.heap.size w w' := by
  have HF := Lib.hid hf
  have H2 := Lib.hid h2
  clear hf h2
  have HX := Lib.hid (Boxes.mk1 f w)
  rcases Int.lt_or_le lo 0 with h0 | h0 <;> rcases Int.lt_or_le 2048 hi with h3 | h3
  all_goals
    go_enter Try.func6, Try.ntmps6
    go_wp2_with (first | (go_at_call 22; refine (awake_any _).mono ?_; rintro e w1 ⟨rfl, hb1⟩; have HX := Lib.hid (HX.out.get hb1)) | (refine wpList_load_block rfl _ rfl w.heap.size rfl f HX.out.box ?_) | (go_at_call 19; refine (first_any f HF.out _ _ _).mono ?_; rintro e w2 ⟨rfl, hb2⟩; have HX := Lib.hid (HX.out.get hb2)))
    go_loopw [9] (fun v wr => LeastRel f lo w v wr) (fun v _ => (2048 - intOf v).toNat)
    case atStart =>
      first
      | exact ⟨0, rfl, by omega, HX.out⟩
      | exact ⟨lo.toNat, by rw [Int.toNat_of_nonneg h0], by omega, HX.out⟩
    case round =>
      obtain ⟨i, rfl, hi1, hw⟩ := hrel
      by_cases hlt : (i : Int) < hi ∧ i < 2048
      · obtain ⟨hl1, hl2⟩ := hlt
        have hl3 : (i : Int) < 2048 := by omega
        have hb : hasB f i = true := by rw [hasB_nat f i hl2]; exact H2.out i hi1 hl1 hl2
        have HW := Lib.hid hw
        clear hw
        go_wp2_with (first | (refine wpList_load_block rfl _ rfl w.heap.size rfl f HW.out.box ?_) | (go_at_call 17; refine (has_any f HF.out _ _).mono ?_; rintro e w3 ⟨rfl, hb3⟩))
        go_roundw
        case rel => exact ⟨i + 1, by go_num, by omega, HW.out.get hb3⟩
        case measure => simp [intOf]; omega
      · have hge : hi ≤ (i : Int) ∨ 2048 ≤ (i : Int) := by omega
        clear hlt
        have hdec : ¬ (i : Int) < min hi 2048 := by omega
        go_wp2
        go_ret
        exact ⟨rfl, hw.below⟩

set_option maxRecDepth 100000 in
set_option maxHeartbeats 1000000 in
theorem least_some (f : Nat → Nat) (hf : Bytes f) (lo hi : Int) (w : World) (k : Nat) (h1 : firstB f lo hi = (k : Int)) (h2 : lo ≤ k) (h3 : (k : Int) < hi) (h4 : k < 2048) (h5 : bit f k = false) (h6 : ∀ j : Nat, lo ≤ j → j < k → bit f j = true) :
    Calls Try.prog 6 #[.agg (bc f), .int .i64 lo, .int .i64 hi] w fun e w' => e = .returned (.bool true) ∧ Below w.heap.size w w' := by
  have HF := Lib.hid hf
  have H6 := Lib.hid h6
  clear hf h6
  have HX := Lib.hid (Boxes.mk1 f w)
  have hn : hasB f k = false := by rw [hasB_nat f k h4]; exact h5
  have d1 : decide ((k : Int) < lo) = false := by simp; omega
  have d2 : decide (hi ≤ (k : Int)) = false := by simp; omega
  clear h5
  rcases Int.lt_or_le lo 0 with h0 | h0
  all_goals
    go_enter Try.func6, Try.ntmps6
    go_wp2_with (first | (go_at_call 22; refine (awake_any _).mono ?_; rintro e w1 ⟨rfl, hb1⟩; have HX := Lib.hid (HX.out.get hb1)) | (refine wpList_load_block rfl _ rfl w.heap.size rfl f HX.out.box ?_) | (go_at_call 19; refine (first_any f HF.out _ _ _).mono ?_; rintro e w2 ⟨rfl, hb2⟩; have HX := Lib.hid (HX.out.get hb2)) | (go_at_call 17; refine (has_any f HF.out _ _).mono ?_; rintro e w3 ⟨rfl, hb3⟩; have HX := Lib.hid (HX.out.get hb3)))
    go_loopw [9] (fun v wr => LeastRel f lo w v wr) (fun v _ => (2048 - intOf v).toNat)
    case atStart =>
      first
      | exact ⟨0, rfl, by omega, HX.out⟩
      | exact ⟨lo.toNat, by rw [Int.toNat_of_nonneg h0], by omega, HX.out⟩
    case round =>
      obtain ⟨i, rfl, hi1, hw⟩ := hrel
      by_cases hlt : i < k
      · have hl3 : (i : Int) < 2048 := by omega
        have hb : hasB f i = true := by rw [hasB_nat f i (by omega)]; exact H6.out i hi1 hlt
        have HW := Lib.hid hw
        clear hw
        go_wp2_with (first | (refine wpList_load_block rfl _ rfl w.heap.size rfl f HW.out.box ?_) | (go_at_call 17; refine (has_any f HF.out _ _).mono ?_; rintro e w3 ⟨rfl, hb3⟩))
        go_roundw
        case rel => exact ⟨i + 1, by go_num, by omega, HW.out.get hb3⟩
        case measure => simp [intOf]; omega
      · go_wp2
        go_ret
        exact ⟨rfl, hw.below⟩

theorem least_walk (f : Nat → Nat) (hf : Bytes f) (lo hi : Int) (w : World) :
    Calls Try.prog 6 #[.agg (bc f), .int .i64 lo, .int .i64 hi] w fun e w' => e = .returned (.bool true) ∧ Below w.heap.size w w' := by
  rcases first_cases f lo hi with ⟨h1, h2⟩ | ⟨k, h1, h2, h3, h4, h5, h6⟩
  · exact least_none f hf lo hi w h1 h2
  · exact least_some f hf lo hi w k h1 h2 h3 h4 h5 h6
end Go.Proofs.Ytiajohnnmnoijaa
