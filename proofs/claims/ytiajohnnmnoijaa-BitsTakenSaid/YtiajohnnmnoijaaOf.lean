/-
  The contract of quernref04.Of: the block's bits, in a new slice of 2048 bools; nothing that was there is changed.
  Conditions: none.
-/
import Derived.Test.YtiajohnnmnoijaaCount
namespace Go.Proofs.Ytiajohnnmnoijaa
open Go.RowKit

/-- The cells of 2048 bools. -/
def bl (g : Nat → Bool) : Array Value := ((List.range 2048).map fun i => Value.bool (g i)).toArray

theorem bl_size (g : Nat → Bool) : (bl g).size = 2048 := by simp [bl]
theorem bl_get (g : Nat → Bool) (j : Nat) (h : j < 2048) : (bl g)[j]? = some (.bool (g j)) := by simp [bl, h]
theorem bl_ext {g h : Nat → Bool} (e : ∀ i, i < 2048 → g i = h i) : bl g = bl h := by
  unfold bl
  rw [List.map_congr_left (g := fun i => Value.bool (h i)) (fun i hi => by rw [e i (List.mem_range.1 hi)])]
theorem bl_set (g : Nat → Bool) (j : Nat) (v : Bool) : (bl g).setIfInBounds j (.bool v) = bl (fun i => if i = j then v else g i) := by
  apply Array.ext
  · simp [bl]
  · intro i h1 h2
    have hi : i < 2048 := by simpa [bl] using h2
    rw [Array.getElem_setIfInBounds (by rw [bl_size]; exact hi)]
    simp only [bl]
    by_cases e : j = i
    · subst e; simp
    · have e' : ¬ i = j := fun x => e x.symm
      simp [e, e']

theorem Try.info4 : (Try.prog.info? 4).map (fun i => (i.zero, i.size, i.bytes)) = some (some (.bool false), 1, 1) := by kernel_rfl

theorem made_false (n : Nat) : (madeCells #[Value.bool false] n).toList = (List.range n).map fun _ => Value.bool false := by
  rw [toList_madeCells_one, List.map_const', List.length_range]

theorem run_make2048 (w : World) : (Instr.makeSlice 27 (.int .i64 2048) (.int .i64 2048)).run Try.prog w =
    .ok (.slice (some ⟨w.heap.size, 0, none⟩) 2048 2048) (w.alloc (.cells (bl fun _ => false) 4)) := by
  obtain ⟨i0, hi, hz0, hz1, hz2⟩ := info_parts Try.info4
  have h := run_make (P := Try.prog) w 27 4 i0 (.bool false) Try.underlying27 hi hz0 .i64 .i64 2048 2048 (by omega) (by omega) (by rw [hz2]; omega) (by omega)
  rw [hz1] at h
  have e : madeCells (Value.bool false).cells ((2048 : Int).toNat * 1) = bl fun _ => false := by
    unfold bl
    rw [← made_false 2048, Array.toArray_toList]
    rfl
  rw [e] at h
  exact h

/-- What holds where Of comes to the bit i: the block in its box, the first i bits in the slice. -/
structure OfRel (f : Nat → Nat) (w : World) (i : Nat) (wr : World) : Prop where
  box : Boxes f w wr
  row : wr.heap[w.heap.size + 1]? = some (.cells (bl fun k => decide (k < i) && bit f k) 4)

theorem OfRel.start (f : Nat → Nat) (w : World) : OfRel f w 0 ((w.alloc (.cells (bc f) 23)).alloc (.cells (bl fun _ => false) 4)) :=
  ⟨⟨((Boxes.mk1 f w).below).alloc (by simp) _, heap_alloc2_old w _ _⟩, by
    rw [heap_alloc2_new, bl_ext (g := fun _ => false) (h := fun k => decide (k < 0) && bit f k) (fun i _ => by simp)]⟩

theorem OfRel.next {f : Nat → Nat} {w wr : World} {i : Nat} (h : OfRel f w i wr) : OfRel f w (i + 1) (wr.setCell ⟨w.heap.size + 1, i, none⟩ (.bool (bit f i))) := by
  refine ⟨⟨h.box.below.setCell (p := ⟨w.heap.size + 1, i, none⟩) (by simp) _, ?_⟩, ?_⟩
  · rw [heap_setCell_other _ _ _ _ (by simp)]; exact h.box.box
  · rw [heap_setCell_same wr (w.heap.size + 1) i _ 4 _ h.row, bl_set]
    rw [bl_ext (h := fun k => decide (k < i + 1) && bit f k)]
    intro k _
    by_cases e : k = i
    · subst e; simp
    · rw [if_neg e]
      have : decide (k < i) = decide (k < i + 1) := by rw [Bool.eq_iff_iff]; simp; omega
      rw [this]

theorem OfRel.done {f : Nat → Nat} {w wr : World} (h : OfRel f w 2048 wr) : wr.heap[w.heap.size + 1]? = some (.cells (bl (bit f)) 4) := by
  rw [h.row, bl_ext (h := bit f)]
  intro i hi; simp [hi]

theorem OfRel.cell {f : Nat → Nat} {w wr : World} {i : Nat} (h : OfRel f w i wr) (j : Nat) (hj : j < 2048) : wr.cell? ⟨w.heap.size + 1, j, none⟩ = some (.bool (decide (j < i) && bit f j)) := by
  rw [cell_of_row _ _ _ _ _ _ h.row]; exact bl_get _ j hj
theorem OfRel.frozen {f : Nat → Nat} {w wr : World} {i : Nat} (h : OfRel f w i wr) (j : Nat) : wr.frozen? ⟨w.heap.size + 1, j, none⟩ = false := frozen_of_row _ _ _ _ _ h.row

/-- A byte, halved m times. -/
def sh (x m : Nat) : Nat := x / 2 ^ m
theorem sh_succ (x m : Nat) : sh x (m + 1) = sh x m / 2 := by unfold sh; rw [Nat.pow_succ, Nat.div_div_eq_div_mul]
theorem sh_le (x m : Nat) : sh x m ≤ x := Nat.div_le_self _ _
theorem sh_bit (f : Nat → Nat) (i : Nat) : ((sh (f (i / 8)) (i % 8) : Int) % 2 == 1) = bit f i := by
  unfold bit sh
  rw [Bool.eq_iff_iff]; simp only [beq_iff_eq]; omega

set_option maxRecDepth 100000 in
set_option maxHeartbeats 1000000 in
theorem of_any (f : Nat → Nat) (hf : Bytes f) (w : World) :
    Calls Try.prog 12 #[.agg (bc f)] w fun e w' => e = .returned (.slice (some ⟨w.heap.size + 1, 0, none⟩) 2048 2048) ∧ OfRel f w 2048 w' := by
  have HF := Lib.hid hf
  clear hf
  have hmk := run_make2048 (w.alloc (.cells (bc f) 23))
  rw [World.size_alloc] at hmk
  go_enter Try.func12, Try.ntmps12
  go_wp2
  clear hmk
  go_loopw [4] (fun v wr => ∃ i : Nat, v = .int .i64 i ∧ i ≤ 2048 ∧ OfRel f w i wr) (fun v _ => (2048 - intOf v).toNat)
  case atStart => exact ⟨0, rfl, by omega, OfRel.start f w⟩
  case round =>
    obtain ⟨i, rfl, hi, hr⟩ := hrel
    by_cases hlt : i < 2048
    · have hc := hr.box.cell (i / 8) (by omega)
      have h8 : (i : Int) / 8 < 256 := by omega
      have hl3 : (i : Int) < 2048 := by omega
      have hb := HF.out (i / 8)
      go_wp2
      clear hc
      go_loop [5, 6] (fun x k => ∃ m : Nat, m ≤ i % 8 ∧ k = .int .i64 m ∧ x = .int .i64 (sh (f (i / 8)) m)) (fun _ k => i % 8 - (intOf k).toNat)
      case atStart => exact ⟨0, Nat.zero_le _, rfl, by simp [sh]⟩
      case round =>
        obtain ⟨m, hm, rfl, rfl⟩ := hrel
        have hsl := sh_le (f (i / 8)) m
        by_cases hm2 : m < i % 8
        · have HS := Lib.hid (sh_succ (f (i / 8)) m)
          go_wp2
          go_round
          case rel => exact ⟨m + 1, by omega, by go_num, by rw [HS.out]; go_num⟩
          case measure => simp [intOf]; omega
        · obtain rfl : m = i % 8 := by omega
          have HB := Lib.hid (sh_bit f i)
          have hc := hr.cell i hlt
          have hz := hr.frozen i
          go_wp2
          go_roundw
          case rel => exact ⟨i + 1, by go_num, by omega, by rw [HB.out]; exact hr.next⟩
          case measure => simp [intOf]; omega
    · obtain rfl : i = 2048 := by omega
      go_wp2
      go_ret
      exact ⟨rfl, hr⟩
end Go.Proofs.Ytiajohnnmnoijaa
