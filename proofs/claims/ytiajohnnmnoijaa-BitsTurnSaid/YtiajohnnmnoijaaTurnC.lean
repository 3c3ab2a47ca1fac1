/-
  The contracts of quernref04.Block (bits as a block) and quernref04.Turn (the block with a bit set or clear, and whether that was something to do); nothing that was there is changed.
  Conditions: Block is asked for 2048 bits in a row.
-/
import Derived.Test.YtiajohnnmnoijaaRef
import Derived.Test.YtiajohnnmnoijaaSet
import Derived.Laws.CopyOwn
namespace Go.Proofs.Ytiajohnnmnoijaa
open Go.RowKit

theorem bc_ext {f g : Nat → Nat} (e : ∀ i, i < 256 → f i = g i) : bc f = bc g := by
  unfold bc
  rw [List.map_congr_left (g := fun i => Value.int .u8 (g i)) (fun i hi => by rw [e i (List.mem_range.1 hi)])]

theorem bc_set' (f : Nat → Nat) (j v : Nat) : (bc f).setIfInBounds j (.int .u8 v) = bc (fun i => if i = j then v else f i) := by
  apply Array.ext
  · simp [bc]
  · intro i h1 h2
    have hi : i < 256 := by simpa [bc] using h2
    rw [Array.getElem_setIfInBounds (by rw [bc_size]; exact hi)]
    simp only [bc]
    by_cases e : j = i
    · subst e; simp
    · have e' : ¬ i = j := fun x => e x.symm
      simp [e, e']

/-- What holds where Block comes to the byte i. -/
structure BlkRel (g : Nat → Bool) (w : World) (i : Nat) (wr : World) : Prop where
  below : Below w.heap.size w wr
  out : wr.heap[w.heap.size]? = some (.cells (bc zB) 23)
  here : wr.heap[w.heap.size + 1]? = some (.cells (bc fun k => if k < i then packB g k else 0) 23)

theorem BlkRel.start (g : Nat → Bool) (w : World) : BlkRel g w 0 ((w.alloc (.cells (bc zB) 23)).alloc (.cells (bc zB) 23)) :=
  ⟨((Below.refl _ w).alloc (Nat.le_refl _) _).alloc (by simp) _, heap_alloc2_old w _ _, by
    rw [heap_alloc2_new, bc_ext (f := zB) (g := fun k => if k < 0 then packB g k else 0) (fun i _ => by simp [zB])]⟩

theorem BlkRel.next {g : Nat → Bool} {w wr : World} {i : Nat} (h : BlkRel g w i wr) : BlkRel g w (i + 1) (wr.setCell ⟨w.heap.size + 1, i, none⟩ (.int .u8 (pk g i 8))) := by
  refine ⟨h.below.setCell (p := ⟨w.heap.size + 1, i, none⟩) (by simp) _, ?_, ?_⟩
  · rw [heap_setCell_other _ _ _ _ (by simp)]; exact h.out
  · rw [heap_setCell_same wr (w.heap.size + 1) i _ 23 _ h.here, bc_set']
    rw [bc_ext (g := fun k => if k < i + 1 then packB g k else 0)]
    intro k _
    by_cases e : k = i
    · subst e; simp [packB]
    · rw [if_neg e]
      by_cases h2 : k < i
      · rw [if_pos h2, if_pos (by omega)]
      · rw [if_neg h2, if_neg (by omega)]

theorem BlkRel.done {g : Nat → Bool} {w wr : World} (h : BlkRel g w 256 wr) : wr.heap[w.heap.size + 1]? = some (.cells (bc (packB g)) 23) := by
  rw [h.here, bc_ext (g := packB g)]
  intro i hi; rw [if_pos hi]
theorem BlkRel.cell {g : Nat → Bool} {w wr : World} {i : Nat} (h : BlkRel g w i wr) (j : Nat) (hj : j < 256) : ∃ v, wr.cell? ⟨w.heap.size + 1, j, none⟩ = some v := by
  rw [cell_of_row _ _ _ _ _ _ h.here]; exact ⟨_, bc_get _ j hj⟩
theorem BlkRel.frozen {g : Nat → Bool} {w wr : World} {i : Nat} (h : BlkRel g w i wr) (j : Nat) : wr.frozen? ⟨w.heap.size + 1, j, none⟩ = false := frozen_of_row _ _ _ _ _ h.here

theorem pk_succ_t (l : Nat → Bool) (i j : Nat) (h : l (8 * i + (7 - j)) = true) : pk l i (j + 1) = 2 * pk l i j + 1 := by simp [pk, h]
theorem pk_succ_f (l : Nat → Bool) (i j : Nat) (h : l (8 * i + (7 - j)) = false) : pk l i (j + 1) = 2 * pk l i j := by simp [pk, h]
theorem pk_lt8 (l : Nat → Bool) (i j : Nat) (h : j ≤ 8) : pk l i j < 256 :=
  Nat.lt_of_lt_of_le (pk_lt l i j) (Nat.pow_le_pow_right (n := 2) (by decide) h)

set_option maxRecDepth 100000 in
set_option maxHeartbeats 1000000 in
theorem block_any (S : Nat) (g : Nat → Bool) (w : World) (hS : w.heap[S]? = some (.cells (bl g) 4)) :
    Calls Try.prog 26 #[.slice (some ⟨S, 0, none⟩) 2048 2048] w fun e w' => e = .returned (.agg (bc (packB g))) ∧ Below w.heap.size w w' := by
  have hSlt : S < w.heap.size := (Array.getElem?_eq_some_iff.1 hS).1
  have HS := Lib.hid hS
  clear hS
  go_enter Try.func26, Try.ntmps26
  go_wp2_with (refine wpList_alloc0 rfl rfl ?_)
  go_loopw [4] (fun v wr => ∃ i : Nat, v = .int .i64 i ∧ i ≤ 256 ∧ BlkRel g w i wr) (fun v _ => (256 - intOf v).toNat)
  case atStart => exact ⟨0, rfl, by omega, BlkRel.start g w⟩
  case round =>
    obtain ⟨i, rfl, hi, hr⟩ := hrel
    by_cases hlt : i < 256
    · have hl3 : (i : Int) < 256 := by omega
      go_wp2
      go_loop [5, 6] (fun x k => ∃ j : Nat, j ≤ 8 ∧ k = .int .i64 (7 - (j : Int)) ∧ x = .int .i64 (pk g i j)) (fun _ k => (intOf k + 1).toNat)
      case atStart => exact ⟨0, by omega, rfl, rfl⟩
      case round =>
        obtain ⟨j, hj, rfl, rfl⟩ := hrel
        have hpl := pk_lt8 g i j hj
        by_cases hj2 : j < 8
        · have hc : wr.cell? ⟨S, 8 * i + (7 - j), none⟩ = some (.bool (g (8 * i + (7 - j)))) := by
            rw [hr.below.cell (p := ⟨S, 8 * i + (7 - j), none⟩) hSlt, cell_of_row _ _ _ _ _ _ HS.out]; exact bl_get g _ (by omega)
          cases hg : g (8 * i + (7 - j)) with
          | true =>
            have HP := Lib.hid (pk_succ_t g i j hg)
            rw [hg] at hc
            clear hg
            go_wp2
            go_round
            case rel => exact ⟨j + 1, by omega, by congr 1; omega, by rw [HP.out]; go_num⟩
            case measure => simp [intOf]; omega
          | false =>
            have HP := Lib.hid (pk_succ_f g i j hg)
            rw [hg] at hc
            clear hg
            go_wp2
            go_round
            case rel => exact ⟨j + 1, by omega, by congr 1; omega, by rw [HP.out]; go_num⟩
            case measure => simp [intOf]; omega
        · obtain rfl : j = 8 := by omega
          obtain ⟨v, hc⟩ := hr.cell i hlt
          have hz := hr.frozen i
          go_wp2
          go_roundw
          case rel => exact ⟨i + 1, by go_num, by omega, hr.next⟩
          case measure => simp [intOf]; omega
    · obtain rfl : i = 256 := by omega
      have HD := Lib.hid hr.done
      have HO := Lib.hid hr.out
      go_wp2_with (first | (refine wpList_load_block rfl _ rfl (w.heap.size + 1) rfl (packB g) HD.out ?_) | (refine wpList_store_block rfl _ _ rfl w.heap.size (packB g) rfl rfl zB HO.out ?_))
      refine bodyPost_ret (v := .agg (bc (packB g))) (results_cell_row rfl _ _ w.heap.size 23 (bc (packB g)) (0, 0) _ rfl (setRow_heap _ _ _ _ _ _ HO.out) Try.underlying23 rfl (by rw [bc_size]; exact info23)) rfl ⟨rfl, below_setRow hr.below (Nat.le_refl _) _⟩


/-- The results of Turn: a block in a cell, and a bool. -/
theorem results_two {fn : Func} {p q : Tmp} (h : fn.results = #[.cell p 23, .tmp q]) (tmps : Array Value) (w : World) (g : Nat) (f : Nat → Nat) {b : Bool}
    (hg : w.heap[g]? = some (.cells (bc f) 23)) (hp : tmps.getD p undef = .pointer (some ⟨g, 0, none⟩)) (hq : tmps.getD q undef = .bool b) :
    (results fn tmps).run Try.prog w = .ok (.tuple #[.agg (bc f), .bool b]) w := by
  have hp' : tmps[p]?.getD undef = .pointer (some ⟨g, 0, none⟩) := by simpa using hp
  have hq' : tmps[q]?.getD undef = .bool b := by simpa using hq
  simp [results, h, hp', hq', asAddr, run_loadVar_row w g 23 23 (bc f) (0, 0) _ hg Try.underlying23 rfl (by rw [bc_size]; exact info23)]

set_option maxRecDepth 100000 in
set_option maxHeartbeats 1000000 in
theorem turn_no (f : Nat → Nat) (hf : Bytes f) (i : Int) (b : Bool) (w : World) (h : isB i = false) :
    Calls Try.prog 16 #[.agg (bc f), .int .i64 i, .bool b] w fun e w' => e = .returned (.tuple #[.agg (bc f), .bool false]) ∧ Below w.heap.size w w' := by
  have HF := Lib.hid hf
  clear hf
  have hi : i < 0 ∨ 2048 ≤ i := by unfold isB at h; rw [Bool.and_eq_false_iff] at h; simp only [decide_eq_false_iff_not] at h; omega
  clear h
  have HG := Lib.hid (heap_alloc2_old w (.cells (bc f) 23) (.cells (bc zB) 23))
  have HZ := Lib.hid (heap_alloc2_new w (.cells (bc f) 23) (.cells (bc zB) 23))
  have HB : Hid (Below w.heap.size w ((w.alloc (.cells (bc f) 23)).alloc (.cells (bc zB) 23))) := Lib.hid (((Below.refl _ w).alloc (Nat.le_refl _) _).alloc (by simp) _)
  rcases hi with hi | hi
  · go_enter Try.func16, Try.ntmps16
    go_wp2_with (first | (refine wpList_alloc0 rfl rfl ?_) | (refine wpList_load_block rfl _ rfl w.heap.size rfl f HG1.out ?_) | (refine wpList_store_block rfl _ _ rfl (w.heap.size + 1) f rfl rfl zB HZ1.out ?_) | (refine wpList_load_block rfl _ rfl w.heap.size rfl f HG.out ?_) | (go_at_call 12; refine (of_at f HF.out (w.heap.size + 1 + 1) _ (by simp)).mono ?_; rintro e w1 ⟨rfl, h1⟩; have HG1 := Lib.hid ((h1.below.block w.heap.size (by simp; omega)).trans HG.out); have HZ1 := Lib.hid ((h1.below.block (w.heap.size + 1) (by simp)).trans HZ.out)))
    refine bodyPost_ret (v := .tuple #[.agg (bc f), .bool false]) (results_two rfl _ _ (w.heap.size + 1) f (setRow_heap _ _ _ _ _ _ HZ1.out) rfl rfl) rfl ⟨rfl, below_setRow (HB.out.trans (h1.below.mono (by simp; omega))) (by omega) _⟩
  · have h0 : decide (i < 0) = false := by simp; omega
    have h1 : decide (2048 ≤ i) = true := by simp; omega
    go_enter Try.func16, Try.ntmps16
    go_wp2_with (first | (refine wpList_alloc0 rfl rfl ?_) | (refine wpList_load_block rfl _ rfl w.heap.size rfl f HG1.out ?_) | (refine wpList_store_block rfl _ _ rfl (w.heap.size + 1) f rfl rfl zB HZ1.out ?_) | (refine wpList_load_block rfl _ rfl w.heap.size rfl f HG.out ?_) | (go_at_call 12; refine (of_at f HF.out (w.heap.size + 1 + 1) _ (by simp)).mono ?_; rintro e w1 ⟨rfl, h2⟩; have HG1 := Lib.hid ((h2.below.block w.heap.size (by simp; omega)).trans HG.out); have HZ1 := Lib.hid ((h2.below.block (w.heap.size + 1) (by simp)).trans HZ.out)))
    refine bodyPost_ret (v := .tuple #[.agg (bc f), .bool false]) (results_two rfl _ _ (w.heap.size + 1) f (setRow_heap _ _ _ _ _ _ HZ1.out) rfl rfl) rfl ⟨rfl, below_setRow (HB.out.trans (h2.below.mono (by simp; omega))) (by omega) _⟩

set_option maxRecDepth 100000 in
set_option maxHeartbeats 1000000 in
theorem turn_same (f : Nat → Nat) (hf : Bytes f) (n : Nat) (w : World) (hn : n < 2048) :
    Calls Try.prog 16 #[.agg (bc f), .int .i64 n, .bool (bit f n)] w fun e w' => e = .returned (.tuple #[.agg (bc f), .bool false]) ∧ Below w.heap.size w w' := by
  have HF := Lib.hid hf
  clear hf
  have hl : (n : Int) < 2048 := by omega
  have h0 : decide ((n : Int) < 0) = false := by simp
  have h3 : decide (2048 ≤ (n : Int)) = false := by simp; omega
  have HG := Lib.hid (heap_alloc2_old w (.cells (bc f) 23) (.cells (bc zB) 23))
  have HZ := Lib.hid (heap_alloc2_new w (.cells (bc f) 23) (.cells (bc zB) 23))
  have HB : Hid (Below w.heap.size w ((w.alloc (.cells (bc f) 23)).alloc (.cells (bc zB) 23))) := Lib.hid (((Below.refl _ w).alloc (Nat.le_refl _) _).alloc (by simp) _)
  go_enter Try.func16, Try.ntmps16
  go_wp2_with (first | (refine wpList_alloc0 rfl rfl ?_) | (refine wpList_load_block rfl _ rfl w.heap.size rfl f HG1.out ?_) | (refine wpList_store_block rfl _ _ rfl (w.heap.size + 1) f rfl rfl zB HZ1.out ?_) | (refine wpList_load_block rfl _ rfl w.heap.size rfl f HG.out ?_) | (go_at_call 12; refine (of_at f HF.out (w.heap.size + 1 + 1) _ (by simp)).mono ?_; rintro e w1 ⟨rfl, h1⟩; have HG1 := Lib.hid ((h1.below.block w.heap.size (by simp; omega)).trans HG.out); have HZ1 := Lib.hid ((h1.below.block (w.heap.size + 1) (by simp)).trans HZ.out); have hc := h1.cell n hn))
  refine bodyPost_ret (v := .tuple #[.agg (bc f), .bool false]) (results_two rfl _ _ (w.heap.size + 1) f (setRow_heap _ _ _ _ _ _ HZ1.out) rfl rfl) rfl ⟨rfl, below_setRow (HB.out.trans (h1.below.mono (by simp; omega))) (by omega) _⟩

/-- The bits g with the bit n turned into b. -/
def turned (g : Nat → Bool) (n : Nat) (b : Bool) : Nat → Bool := fun i => if i = n then b else g i

set_option maxRecDepth 100000 in
set_option maxHeartbeats 1000000 in
theorem turn_does (f : Nat → Nat) (hf : Bytes f) (n : Nat) (b : Bool) (w : World) (hn : n < 2048) (hb : bit f n = !b) :
    Calls Try.prog 16 #[.agg (bc f), .int .i64 n, .bool b] w fun e w' => e = .returned (.tuple #[.agg (bc (packB (turned (bit f) n b))), .bool true]) ∧ Below w.heap.size w w' := by
  have HF := Lib.hid hf
  clear hf
  have hl : (n : Int) < 2048 := by omega
  have h0 : decide ((n : Int) < 0) = false := by simp
  have h3 : decide (2048 ≤ (n : Int)) = false := by simp; omega
  have hne : ((!b) == b) = false := by cases b <;> rfl
  have HG := Lib.hid (heap_alloc2_old w (.cells (bc f) 23) (.cells (bc zB) 23))
  have HZ := Lib.hid (heap_alloc2_new w (.cells (bc f) 23) (.cells (bc zB) 23))
  have HB : Hid (Below w.heap.size w ((w.alloc (.cells (bc f) 23)).alloc (.cells (bc zB) 23))) := Lib.hid (((Below.refl _ w).alloc (Nat.le_refl _) _).alloc (by simp) _)
  go_enter Try.func16, Try.ntmps16
  go_wp2_with (first | (refine wpList_alloc0 rfl rfl ?_) | (refine wpList_load_block rfl _ rfl w.heap.size rfl f HG.out ?_) | (go_at_call 12; refine (of_at f HF.out (w.heap.size + 1 + 1) _ (by simp)).mono ?_; rintro e w1 ⟨rfl, h1⟩; have HZ1 := Lib.hid ((h1.below.block (w.heap.size + 1) (by simp)).trans HZ.out); have hc := h1.cell n hn; have hz := frozen_of_row _ _ n _ _ h1.row; rw [hb] at hc) | fail)
  have hS : (w1.setCell ⟨w.heap.size + 1 + 1 + 1, n, none⟩ (.bool b)).heap[w.heap.size + 1 + 1 + 1]? = some (.cells (bl (turned (bit f) n b)) 4) := by
    rw [heap_setCell_same w1 (w.heap.size + 1 + 1 + 1) n _ 4 _ h1.row, bl_set]; rfl
  have HZ2 : Hid ((w1.setCell ⟨w.heap.size + 1 + 1 + 1, n, none⟩ (.bool b)).heap[w.heap.size + 1]? = some (.cells (bc zB) 23)) :=
    Lib.hid ((heap_setCell_other _ _ _ _ (by simp)).trans HZ1.out)
  have hlt1 : w.heap.size + 1 < (w1.setCell ⟨w.heap.size + 1 + 1 + 1, n, none⟩ (.bool b)).heap.size := (Array.getElem?_eq_some_iff.1 HZ2.out).1
  have HB1 : Hid (Below w.heap.size w (w1.setCell ⟨w.heap.size + 1 + 1 + 1, n, none⟩ (.bool b))) :=
    Lib.hid ((HB.out.trans (h1.below.mono (by simp; omega))).setCell (p := ⟨w.heap.size + 1 + 1 + 1, n, none⟩) (by simp; omega) _)
  refine (block_any _ _ _ hS).mono ?_
  rintro e w3 ⟨rfl, h4⟩
  have HZ3 : Hid (w3.heap[w.heap.size + 1]? = some (.cells (bc zB) 23)) := Lib.hid ((h4.block _ hlt1).trans HZ2.out)
  have HB3 : Hid (Below w.heap.size w w3) := Lib.hid (HB1.out.trans (h4.mono (by omega)))
  clear hS hlt1 hc hz
  go_wp2_with (first | (refine wpList_store_block rfl _ _ rfl (w.heap.size + 1) _ rfl rfl zB HZ3.out ?_))
  refine bodyPost_ret (v := .tuple #[.agg (bc (packB (turned (bit f) n b))), .bool true]) (results_two rfl _ _ (w.heap.size + 1) _ (setRow_heap _ _ _ _ _ _ HZ3.out) rfl rfl) rfl ⟨rfl, below_setRow HB3.out (by omega) _⟩

/-- Is there something to turn? -/
def turnB (f : Nat → Nat) (i : Int) (b : Bool) : Bool := isB i && (bit f i.toNat == !b)
/-- The block behind Turn. -/
def turnF (f : Nat → Nat) (i : Int) (b : Bool) : Nat → Nat := if turnB f i b then packB (turned (bit f) i.toNat b) else f

/-- Turn, of any block, number and bool. -/
theorem turn_any (f : Nat → Nat) (hf : Bytes f) (i : Int) (b : Bool) (w : World) :
    Calls Try.prog 16 #[.agg (bc f), .int .i64 i, .bool b] w fun e w' => e = .returned (.tuple #[.agg (bc (turnF f i b)), .bool (turnB f i b)]) ∧ Below w.heap.size w w' := by
  rcases isB_cases i with h | ⟨n, h, rfl⟩
  · have e : turnB f i b = false := by unfold turnB; rw [h]; rfl
    have e2 : turnF f i b = f := by unfold turnF; rw [e]; rfl
    rw [e, e2]; exact turn_no f hf i b w h
  · by_cases hb : bit f n = b
    · have e : turnB f n b = false := by unfold turnB; rw [Int.toNat_natCast, hb]; cases b <;> simp
      have e2 : turnF f n b = f := by unfold turnF; rw [e]; rfl
      rw [e, e2, ← hb]; exact turn_same f hf n w h
    · have hb2 : bit f n = !b := by revert hb; cases bit f n <;> cases b <;> simp
      have e : turnB f n b = true := by unfold turnB; rw [Int.toNat_natCast, hb2, isB_nat n h]; simp
      have e2 : turnF f n b = packB (turned (bit f) n b) := by unfold turnF; rw [e]; simp
      rw [e, e2]; exact turn_does f hf n b w h hb2

theorem eqB_set (f : Nat → Nat) (hf : Bytes f) (i : Int) : eqB (setI f i) (turnF f i true) = true := by
  rw [eqB_iff]
  unfold setI turnF turnB
  have e : (bit f i.toNat == !true) = !bit f i.toNat := by cases bit f i.toNat <;> rfl
  rw [e]
  split
  · refine block_ext (setB_bytes hf _) (packB_bytes _) fun k _ => ?_
    rw [bit_setB, bit_packB]
    unfold turned
    by_cases h : k = i.toNat <;> simp [h]
  · intro _ _; rfl

theorem eqB_clr (f : Nat → Nat) (hf : Bytes f) (i : Int) : eqB (clrI f i) (turnF f i false) = true := by
  rw [eqB_iff]
  unfold clrI turnF turnB
  have e : (bit f i.toNat == !false) = bit f i.toNat := by cases bit f i.toNat <;> rfl
  rw [e]
  split
  · refine block_ext (clrB_bytes hf _) (packB_bytes _) fun k _ => ?_
    rw [bit_clrB, bit_packB]
    unfold turned
    by_cases h : k = i.toNat <;> simp [h]
  · intro _ _; rfl

theorem turn_one (f : Nat → Nat) (i : Int) : turnB f i true = (isB i && !bit f i.toNat) := by
  unfold turnB; cases bit f i.toNat <;> rfl
theorem turn_two (f : Nat → Nat) (i : Int) : turnB f i false = (isB i && bit f i.toNat) := by
  unfold turnB; cases bit f i.toNat <;> rfl

end Go.Proofs.Ytiajohnnmnoijaa
