/-
  The contracts of quernref04.Count, Has and First: of any block and numbers what the chapter says, in the same words as the contracts of package bits; nothing that was there is changed.
  Conditions: none.
-/
import Derived.Test.YtiajohnnmnoijaaOf
namespace Go.Proofs.Ytiajohnnmnoijaa
open Go.RowKit

/-- What lies behind Of, called in w where B is the next block. -/
structure OfDone (f : Nat → Nat) (B : Nat) (w w' : World) : Prop where
  below : Below w.heap.size w w'
  row : w'.heap[B + 1]? = some (.cells (bl (bit f)) 4)

theorem OfDone.cell {f : Nat → Nat} {B : Nat} {w w' : World} (h : OfDone f B w w') (j : Nat) (hj : j < 2048) : w'.cell? ⟨B + 1, j, none⟩ = some (.bool (bit f j)) := by
  rw [cell_of_row _ _ _ _ _ _ h.row]; exact bl_get _ j hj

theorem of_at (f : Nat → Nat) (hf : Bytes f) (B : Nat) (w : World) (hB : w.heap.size = B) :
    Calls Try.prog 12 #[.agg (bc f)] w fun e w' => e = .returned (.slice (some ⟨B + 1, 0, none⟩) 2048 2048) ∧ OfDone f B w w' := by
  subst hB
  exact (of_any f hf w).mono fun e w' ⟨he, hr⟩ => ⟨he, hr.box.below, hr.done⟩

theorem cnt_step (f : Nat → Nat) (n : Int) (i : Nat) (h : i < 2048) : cnt f (min (i + 1) (clamp n)) = cnt f (min i (clamp n)) + if (i : Int) < n ∧ bit f i = true then 1 else 0 := by
  by_cases hn : (i : Int) < n
  · have e1 : min (i + 1) (clamp n) = i + 1 := by unfold clamp; omega
    have e2 : min i (clamp n) = i := by unfold clamp; omega
    rw [e1, e2]; simp [cnt, hn]
  · have e1 : min (i + 1) (clamp n) = min i (clamp n) := by unfold clamp; omega
    rw [e1]; simp [hn]

theorem below_up {w w1 : World} {o : Obj} (h : Below (w.alloc o).heap.size (w.alloc o) w1) : Below w.heap.size w w1 :=
  ((Below.refl _ w).alloc (Nat.le_refl _) o).trans (h.mono (by simp))

set_option maxRecDepth 100000 in
set_option maxHeartbeats 1000000 in
theorem rcount_any (f : Nat → Nat) (hf : Bytes f) (n : Int) (w : World) :
    Calls Try.prog 13 #[.agg (bc f), .int .i64 n] w fun e w' => e = .returned (.int .i64 (cnt f (clamp n))) ∧ Below w.heap.size w w' := by
  have HF := Lib.hid hf
  clear hf
  have HG := Lib.hid (heap_alloc_new w (.cells (bc f) 23))
  go_enter Try.func13, Try.ntmps13
  go_wp2_with (first | (refine wpList_load_block rfl _ rfl w.heap.size rfl f HG.out ?_) | (go_at_call 12; refine (of_at f HF.out (w.heap.size + 1) _ (by simp)).mono ?_; rintro e w1 ⟨rfl, h1⟩))
  go_loop [6, 7] (fun s v => ∃ i : Nat, i ≤ 2048 ∧ v = .int .i64 i ∧ s = .int .i64 (cnt f (min i (clamp n)))) (fun _ v => 2048 - (intOf v).toNat)
  case atStart => exact ⟨0, Nat.zero_le _, rfl, by simp [cnt]⟩
  case round =>
    obtain ⟨i, hi, rfl, rfl⟩ := hrel
    have hcl := cnt_le f (min i (clamp n))
    have hcm : min i (clamp n) ≤ i := Nat.min_le_left _ _
    by_cases hlt : i < 2048
    · have hc := h1.cell i hlt
      have HS := Lib.hid (cnt_step f n i hlt)
      have hl3 : (i : Int) < 2048 := by omega
      go_wp2
      all_goals
        go_round
        case rel =>
          refine ⟨i + 1, by omega, by go_num, ?_⟩
          rw [HS.out]
          first
          | (rw [if_pos ⟨‹_›, ‹_›⟩]; go_num)
          | (rw [if_neg (fun h => by have := h.2; simp_all)]; go_num)
          | (rw [if_neg (fun h => by have := h.1; omega)]; go_num)
        case measure => simp [intOf]; omega
    · obtain rfl : i = 2048 := by omega
      have e : min 2048 (clamp n) = clamp n := Nat.min_eq_right (clamp_le n)
      have HE := Lib.hid e
      clear e
      go_wp2
      go_ret
      exact ⟨ret_int (by rw [HE.out]), below_up h1.below⟩

set_option maxRecDepth 100000 in
set_option maxHeartbeats 1000000 in
theorem rhas_any (f : Nat → Nat) (hf : Bytes f) (i : Int) (w : World) :
    Calls Try.prog 18 #[.agg (bc f), .int .i64 i] w fun e w' => e = .returned (.bool (hasB f i)) ∧ Below w.heap.size w w' := by
  have HF := Lib.hid hf
  clear hf
  have HG := Lib.hid (heap_alloc_new w (.cells (bc f) 23))
  rcases isB_cases i with h | ⟨n, h, rfl⟩
  · have HN := Lib.hid (hasB_no f i h)
    have hi : i < 0 ∨ 2048 ≤ i := by unfold isB at h; rw [Bool.and_eq_false_iff] at h; simp only [decide_eq_false_iff_not] at h; omega
    clear h
    rcases hi with hi | hi
    · go_enter Try.func18, Try.ntmps18
      go_wp2
      go_ret
      exact ⟨ret_bool HN.out.symm, (Boxes.mk1 f w).below⟩
    · have h0 : 0 ≤ i := by omega
      have hd : decide (i < 2048) = false := by simp; omega
      go_enter Try.func18, Try.ntmps18
      go_wp2
      go_ret
      exact ⟨ret_bool HN.out.symm, (Boxes.mk1 f w).below⟩
  · have HN := Lib.hid (hasB_nat f n h)
    have hl : (n : Int) < 2048 := by omega
    go_enter Try.func18, Try.ntmps18
    go_wp2_with (first | (refine wpList_load_block rfl _ rfl w.heap.size rfl f HG.out ?_) | (go_at_call 12; refine (of_at f HF.out (w.heap.size + 1) _ (by simp)).mono ?_; rintro e w1 ⟨rfl, h1⟩; have hc := h1.cell n h))
    go_ret
    exact ⟨ret_bool HN.out.symm, below_up h1.below⟩

set_option maxRecDepth 100000 in
set_option maxHeartbeats 1000000 in
theorem rfirst_any (f : Nat → Nat) (hf : Bytes f) (lo hi : Int) (w : World) :
    Calls Try.prog 20 #[.agg (bc f), .int .i64 lo, .int .i64 hi] w fun e w' => e = .returned (.int .i64 (firstB f lo hi)) ∧ Below w.heap.size w w' := by
  have HF := Lib.hid hf
  clear hf
  have HG := Lib.hid (heap_alloc_new w (.cells (bc f) 23))
  go_enter Try.func20, Try.ntmps20
  go_wp2_with (first | (refine wpList_load_block rfl _ rfl w.heap.size rfl f HG.out ?_) | (go_at_call 12; refine (of_at f HF.out (w.heap.size + 1) _ (by simp)).mono ?_; rintro e w1 ⟨rfl, h1⟩))
  go_loop [8] (fun v => ∃ i : Nat, i ≤ 2048 ∧ v = .int .i64 i ∧ Hid (∀ j : Nat, lo ≤ j → (j : Int) < hi → j < i → bit f j = true)) (fun v => 2048 - (intOf v).toNat)
  case atStart => exact ⟨0, Nat.zero_le _, rfl, Lib.hid fun j _ _ h => absurd h (Nat.not_lt_zero _)⟩
  case round =>
    obtain ⟨i, hle, rfl, HK⟩ := hrel
    by_cases hlt : i < 2048
    · have hc := h1.cell i hlt
      have hl3 : (i : Int) < 2048 := by omega
      go_wp2
      · go_ret
        have hb0 : (!bit f i) = true := by assumption
        have hb : bit f i = false := by simpa using hb0
        exact ⟨ret_int (first_some f lo hi i ‹_› ‹_› hlt hb fun j a b => HK.out j a (by omega) b).symm, below_up h1.below⟩
      all_goals
        go_round
        case rel =>
          refine ⟨i + 1, by omega, by go_num, Lib.hid fun j a b c => ?_⟩
          by_cases e : j = i
          · subst e
            first
            | (have h : (!bit f j) = false := by assumption
               simpa using h)
            | omega
          · exact HK.out j a b (by omega)
        case measure => simp [intOf]; omega
    · obtain rfl : i = 2048 := by omega
      go_wp2
      go_ret
      exact ⟨ret_int (first_none f lo hi fun j a b c => HK.out j a b c).symm, below_up h1.below⟩

end Go.Proofs.Ytiajohnnmnoijaa
