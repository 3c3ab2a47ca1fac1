/-
  The contract of quernlaw04.awake: it returns true and changes nothing that was there.
  Conditions: none.
-/
import Derived.Test.YtiajohnnmnoijaaCount
import Derived.Test.YtiajohnnmnoijaaSet
import Derived.Deep.DeepCutAuto
import Derived.Laws.CopyOwn
namespace Go.Proofs.Ytiajohnnmnoijaa
open Go.RowKit

/-- The chapter's block. -/
def eB : Nat → Nat := upd (upd (upd zB 0 1) 1 2) 255 128

theorem eB_bytes : Bytes eB := by
  intro i; unfold eB upd zB
  split
  · omega
  · split
    · omega
    · split <;> omega
/-- The same, two bits asked for. -/
def xB : Nat → Nat := setI (setI eB 1) 9

theorem eB_cells : (((bc zB).setIfInBounds 0 (.int .u8 1)).setIfInBounds 1 (.int .u8 2)).setIfInBounds 255 (.int .u8 128) = bc eB := by
  have h0 := bc_set zB 0 1
  have h1 := bc_set (upd zB 0 1) 1 2
  have h2 := bc_set (upd (upd zB 0 1) 1 2) 255 128
  rw [← h1, ← h0] at h2
  exact h2

theorem aw_first1 : firstB eB 0 2048 = 1 := by
  refine first_some eB 0 2048 1 (by omega) (by omega) (by omega) (by decide) fun j _ h => ?_
  obtain rfl : j = 0 := by omega
  decide
theorem aw_first2 : firstB eB 9 10 = -1 := by decide
theorem aw_count1 : (cnt eB (clamp 10) : Int) = 2 := by decide
theorem bit_zero {f : Nat → Nat} {i : Nat} (h : f (i / 8) = 0) : bit f i = false := by unfold bit; rw [h]; simp
theorem cnt_flat (f : Nat → Nat) (a : Nat) : ∀ n, (∀ i, a ≤ i → i < a + n → bit f i = false) → cnt f (a + n) = cnt f a
  | 0, _ => rfl
  | n + 1, h => by
    show cnt f (a + n) + (if bit f (a + n) then 1 else 0) = cnt f a
    rw [cnt_flat f a n (fun i h1 h2 => h i h1 (by omega)), h (a + n) (by omega) (by omega)]; rfl
theorem cnt_succ (f : Nat → Nat) (n : Nat) : cnt f (n + 1) = cnt f n + if bit f n then 1 else 0 := rfl
set_option maxRecDepth 100000 in
theorem aw_low (i : Nat) (a : 16 ≤ i) (b : i < 2047) : bit eB i = false := by
  by_cases hi : i / 8 = 255
  · have h3 : ∀ k, k < 7 → bit eB (2040 + k) = false := by decide
    obtain ⟨k, rfl⟩ : ∃ k, i = 2040 + k := ⟨i - 2040, by omega⟩
    exact h3 k (by omega)
  · apply bit_zero
    unfold eB upd zB
    rw [if_neg hi, if_neg (by omega), if_neg (by omega)]
set_option maxRecDepth 100000 in
theorem aw_count2 : (cnt eB (clamp 9999) : Int) = 3 := by
  have e : clamp 9999 = 2047 + 1 := by decide
  have hb : bit eB 2047 = true := by decide
  have h2 : cnt eB (16 + 2031) = cnt eB 16 := cnt_flat eB 16 2031 fun i a b => aw_low i a (by omega)
  have h3 : cnt eB 16 = 2 := by decide
  have h4 : cnt eB 2047 = 2 := h2.trans h3
  rw [e, cnt_succ, hb, h4]; rfl

theorem _root_.Go.RowKit.Below.get {w w' : World} (h : Below w.heap.size w w') {g : Nat} {o : Obj} (hg : w.heap[g]? = some o) : w'.heap[g]? = some o :=
  (h.block g (Array.getElem?_eq_some_iff.1 hg).1).trans hg

theorem cell_x {w : World} {g : Nat} (h : w.heap[g]? = some (.cells (bc (setI (setI eB 1) 9)) 23)) : w.cell? ⟨g, 0, none⟩ = some (.int .u8 3) := by
  rw [cell_of_row _ _ _ _ _ _ h, bc_get _ 0 (by omega)]
  have : setI (setI eB 1) 9 0 = 3 := by decide
  rw [this]; rfl

set_option maxRecDepth 100000 in
set_option maxHeartbeats 1000000 in
theorem awake_any (w : World) : Calls Try.prog 22 #[] w fun e w' => e = .returned (.bool true) ∧ Below w.heap.size w w' := by
  have hc0 := cell_bc w zB 23 0 (by omega)
  have hc1 := cell_bc w zB 23 1 (by omega)
  have hc2 := cell_bc w zB 23 255 (by omega)
  go_enter Try.func22, Try.ntmps22
  go_upto_region 3 with (refine wpList_alloc0 rfl rfl ?_)
  rw [eB_cells]
  clear hc0 hc1 hc2
  have b1 : (isB 1 && !bit eB (1 : Int).toNat) = true := by decide
  have b2 : (isB 9 && !bit (setI eB 1) (9 : Int).toNat) = false := by decide
  have hh0 : hasB eB 0 = true := by decide
  have hh1 : hasB eB 1 = false := by decide
  have hh9 : hasB eB 9 = true := by decide
  have hh2 : hasB eB 2047 = true := by decide
  have hh3 : hasB eB 2048 = false := by decide
  have f1 := aw_first1
  have f2 := aw_first2
  have c1 := aw_count1
  have c2 := aw_count2
  have hN1 : (w.alloc (.cells (bc eB) 23)).heap[w.heap.size]? = some (.cells (bc eB) 23) := heap_alloc_new w _
  have HE := Lib.hid hN1
  have hN2 := heap_alloc2_new w (.cells (bc eB) 23) (.cells (bc zB) 23)
  have HZ := Lib.hid (heap_alloc_new (w.alloc (.cells (bc eB) 23)) (.cells (bc zB) 23))
  have hX := setRow_heap _ _ _ (bc eB) _ _ hN2
  have HE2 := Lib.hid ((setRow_other ((w.alloc (.cells (bc eB) 23)).alloc (.cells (bc zB) 23)) (w.heap.size + 1) w.heap.size (bc eB) (by omega)).trans (heap_alloc2_old w _ _))
  have HB := Lib.hid (below_setRow (((Below.refl w.heap.size w).alloc (Nat.le_refl _) (.cells (bc eB) 23)).alloc (by simp) (.cells (bc zB) 23)) (Nat.le_succ w.heap.size) (bc eB))
  have HX := Lib.hid hX
  clear hN1 hN2 hX
  go_wp2_with (first | (refine wpList_load_block rfl _ rfl w.heap.size rfl eB HE.out ?_) | (refine wpList_alloc0 rfl rfl ?_) | (refine wpList_store_block rfl _ _ rfl (w.alloc (.cells (bc eB) 23)).heap.size eB rfl rfl zB HZ.out ?_))
  refine (set_any (w.heap.size + 1) eB eB_bytes 1 _ HX.out).mono ?_
  rintro e w2 ⟨rfl, hw2⟩
  have hX2 := hw2.here
  have HE3 := Lib.hid ((hw2.block w.heap.size (by omega)).trans HE2.out)
  have HB2 := Lib.hid (HB.out.trans (hw2.below (Nat.le_succ w.heap.size)))
  clear hw2 HE HE2 HB HX HZ
  go_wp2_with fail
  refine (set_any (w.heap.size + 1) (setI eB 1) (setI_bytes eB_bytes 1) 9 _ hX2).mono ?_
  rintro e w3 ⟨rfl, hw3⟩
  have HX := Lib.hid hw3.here
  have HE := Lib.hid ((hw3.block w.heap.size (by omega)).trans HE3.out)
  have HB := Lib.hid (HB2.out.trans (hw3.below (Nat.le_succ w.heap.size)))
  clear hw3 HE3 HB2 hX2
  go_wp2_with (first | (refine wpList_load_block rfl _ rfl w.heap.size rfl eB HE.out ?_) | (go_at_call 17; refine (has_any eB eB_bytes _ _).mono ?_; rintro e w4 ⟨rfl, hb4⟩; have HX := Lib.hid (Below.get hb4 HX.out); have HE := Lib.hid (Below.get hb4 HE.out); have HB := Lib.hid (HB.out.trans (hb4.mono HB.out.size)); have hcx := cell_x HX.out) | (go_at_call 19; refine (first_any eB eB_bytes _ _ _).mono ?_; rintro e w4 ⟨rfl, hb4⟩; have HX := Lib.hid (Below.get hb4 HX.out); have HE := Lib.hid (Below.get hb4 HE.out); have HB := Lib.hid (HB.out.trans (hb4.mono HB.out.size)); have hcx := cell_x HX.out) | (go_at_call 21; refine (count_any eB eB_bytes _ _).mono ?_; rintro e w4 ⟨rfl, hb4⟩; have HX := Lib.hid (Below.get hb4 HX.out); have HE := Lib.hid (Below.get hb4 HE.out); have HB := Lib.hid (HB.out.trans (hb4.mono HB.out.size)); have hcx := cell_x HX.out))
  go_ret
  exact ⟨rfl, HB.out⟩
end Go.Proofs.Ytiajohnnmnoijaa
