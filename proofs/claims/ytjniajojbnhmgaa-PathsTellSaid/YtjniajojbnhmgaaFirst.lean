/-
  The contract of paths.First.
  Conditions: none.
-/
import Derived.Test.YtjniajojbnhmgaaPtrs
import Derived.StillTailTactics
import Derived.OrdersHeld
import Derived.Deep.RegionHeld3
namespace Go.Proofs.Ytjniajojbnhmgaa
open Go.RowKit Go.Shelf
attribute [local go_sem] Oper.semAt_some
set_option linter.unusedVariables false

/-- A block of cells is as it was where new blocks are laid and a block that is no cells is turned. -/
theorem heap_kept {A B : World} {row : Option Nat} (hg : A.grownBy B row) (hr : ∀ r, row = some r → ∃ o : Obj, A.heap[r]? = some o ∧ o.isCells = false) {g : Nat} {c : Array Value} {t : TypeId} {fr : Nat × Nat}
    (h : A.heap[g]? = some (.cells c t fr)) : B.heap[g]? = some (.cells c t fr) := by
  rw [hg.block g (Array.getElem?_eq_some_iff.1 h).1 ?_]
  · exact h
  · intro e
    obtain ⟨o, ho, hc⟩ := hr g e.symm
    rw [h] at ho
    cases Option.some.inj ho
    cases hc

theorem keeps_of_below {A B : World} (h : Below A.heap.size A B) : KeepsOthers A B :=
  ⟨h.size, fun k o hk _ => (h.block k (Array.getElem?_eq_some_iff.1 hk).1).trans hk⟩

theorem cell_of_one' {W : World} {g : Nat} {v : Value} {t : TypeId} (h : W.heap[g]? = some (.cells #[v] t)) : W.cell? ⟨g, 0, none⟩ = some v := by
  rw [cell_of_row _ _ _ _ _ _ h]; rfl

/-- The variables of First, in memory. -/
structure FVars (p : Int) (w : World) (r : Int) (W : World) : Prop where
  box : W.heap[w.heap.size]? = some (.cells #[.int .i64 p] 3)
  res : W.heap[w.heap.size + 1]? = some (.cells #[.int .i64 r] 3)
  below : Below w.heap.size w W

theorem FVars.kept {p : Int} {w : World} {r : Int} {B : Nat} (hB : w.heap.size ≤ B) {A A' : World} {row : Option Nat} (h : FVars p w r A) (hg : A.grownBy A' row)
    (hr : ∀ r, row = some r → B ≤ r ∧ ∃ o : Obj, A.heap[r]? = some o ∧ o.isCells = false) : FVars p w r A' :=
  ⟨heap_kept hg (fun r e => (hr r e).2) h.box, heap_kept hg (fun r e => (hr r e).2) h.res, h.below.grown hg h.below.size (fun k e => Nat.le_trans hB (hr k e).1)⟩

theorem FVars.set {p : Int} {w : World} {r : Int} {W : World} (h : FVars p w r W) (u : Int) : FVars p w u (W.setCell ⟨w.heap.size + 1, 0, none⟩ (.int .i64 u)) :=
  ⟨(heap_setCell_other _ _ _ _ (by simp)).trans h.box, heap_setCell_same W (w.heap.size + 1) 0 _ 3 _ h.res, h.below.setCell (p := ⟨w.heap.size + 1, 0, none⟩) (by simp) _⟩

set_option maxRecDepth 100000 in
set_option maxHeartbeats 2000000 in
theorem first_any (p : Int) (w : World) : Calls Try.prog 22 #[.int .i64 p] w fun e w' => e = .returned (.int .i64 (frst p)) ∧ Below w.heap.size w w' := by
  refine callsIn_wide (n := 10).1 ?_
  refine callsIn_of_wp_marks Try.func22 rfl trivial ?_ rfl
  refine wpIn_wide.2 ?_
  simp only [Try.ntmps22, List.size_toArray, List.length_cons, List.length_nil, Nat.reduceAdd, Nat.reduceSub, Array.replicate_succ, Array.replicate_zero, List.push_toArray, List.append_toArray, List.nil_append, List.cons_append]
  go_wp2_with (go_at_call 29; refine (ptrs_any _).mono ?_; rintro e w2 ⟨rfl, hw2⟩; rw [hw2]; clear hw2)
  have V0 : Hid (FVars p w 0 ((w.alloc (.cells #[.int .i64 p] 3)).alloc (.cells #[.int .i64 0] 3))) :=
    Lib.hid ⟨heap_alloc2_old _ _ _, heap_alloc2_new _ _ _, ((Below.refl w.heap.size w).alloc (Nat.le_refl _) _).alloc (by simp) _⟩
  obtain ⟨W0, hW0⟩ : ∃ W0, W0 = (w.alloc (.cells #[.int .i64 p] 3)).alloc (.cells #[.int .i64 0] 3) := ⟨_, rfl⟩
  have hsz : W0.heap.size = w.heap.size + 1 + 1 := by rw [hW0]; simp
  rw [← hW0] at V0 ⊢
  clear hW0
  refine wpIn_wide (n := 10).1 ?_
  refine wpIn_rangeFunc_ownF rfl (by omega) (gf := 31) (lb := #[]) rfl trivial (enters_of Try.func31 (by kernel_rfl) rfl)
    (ptr_stops (10 - 1) (by omega) 0 W0) belowK_t (belowK_b (by omega)) (Below.refl _ _) (fun _ => rfl)
    (fun pre W => (∀ x ∈ pre, (x : Int) ≠ p) ∧ FVars p w 0 W)
    (fun c pre W => c = .ret ∧ ∃ x : Nat, x ∈ pre ∧ (x : Int) = p ∧ FVars p w (fst x) W)
    (fun s A A' row hs hg hr => ⟨hs.1, hs.2.kept (by omega) hg hr⟩) (fun c s A A' row hs hg hr => ⟨hs.1, let ⟨x, h1, h2, h3⟩ := hs.2; ⟨x, h1, h2, h3.kept (by omega) hg hr⟩⟩) ⟨(fun x h => by cases h), V0.out⟩
    (fun x => { tmps := #[.int .i64 p, .pointer (some ⟨w.heap.size, 0, none⟩), .pointer (some ⟨w.heap.size + 1, 0, none⟩), .int .i64 x, .int .i64 (fst x), .func (.func 31) #[] #[], .int .i64 x, .int .i64 (fst x), undef, undef, undef, undef], defers := [] }) ?assign ?body ?done ?stop
  case assign =>
    intro l x W K hK
    gi_wp2
    exact hK
  case body =>
    rintro l pre x W ⟨hall, hV⟩ hlen
    have HA := Lib.hid hall
    have hcb := cell_of_one' hV.box
    have hcr := cell_of_one' hV.res
    have hzr := frozen_of_row _ _ 0 _ _ hV.res
    have HV := Lib.hid hV
    clear hall hV
    by_cases hx : (x : Int) = p
    · have hxb : ((x : Int) == p) = true := by simpa using hx
      gi_wp2
      exact ⟨KeepsOthers.setCell _ _ _, rfl, x, by simp, hx, HV.out.set _⟩
    · have hxb : ((x : Int) == p) = false := by simpa using hx
      gi_wp2
      refine ⟨keeps_of_below (Below.refl _ _), Below.refl _ _, ?_, HV.out⟩
      intro y hy
      rcases List.mem_append.1 hy with hy | hy
      · exact HA.out y hy
      · obtain rfl : y = x := by simpa using hy
        exact hx
  case done =>
    rintro D ys W hD rfl ⟨hall, hV⟩ hK
    have hf : frst p = -1 := by
      unfold frst
      by_cases h : p < 0 ∨ 10 < p
      · rw [if_pos h]
      · exact absurd (show ((p.toNat : Nat) : Int) = p by omega) (hall p.toNat (List.mem_range.2 (by omega)))
    have hcr := cell_of_one' hV.res
    have hzr := frozen_of_row _ _ 0 _ _ hV.res
    have HV := Lib.hid hV
    have HK := Lib.hid hK
    clear hV hK hall
    go_wp2
    have hV2 := HV.out.set (-1)
    have hDr : D ≠ w.heap.size + 1 := fun e => by have h1 := HK.out; rw [e, HV.out.res] at h1; cases h1
    have HD3 := Lib.hid ((heap_setCell_other W ⟨w.heap.size + 1, 0, none⟩ D (.int .i64 (-1)) hDr).trans HK.out)
    obtain ⟨W3, hW3⟩ : ∃ W3, W3 = W.setCell ⟨w.heap.size + 1, 0, none⟩ (.int .i64 (-1)) := ⟨_, rfl⟩
    rw [← hW3] at hV2 HD3 ⊢
    clear hW3
    refine ⟨by simp, .inl ⟨_, _, rfl, run_takeDeferred HD3.out, ?_⟩⟩
    have hc5 := cell_of_one' (heap_kept (grownBy_putObj' W3 D (.deferred none)) (fun r e => by cases e; exact ⟨_, HD3.out, rfl⟩) hV2.res)
    refine ⟨.int .i64 (-1), ?_, by rw [hf], hV2.below.trans (belowK_b (w := w) (Nat.le_refl _) _ D _ _ (by omega) HD3.out rfl rfl)⟩
    simp [results, Try.f22, go_sem, hc5]
  case stop =>
    rintro D c pre W hD hSp ⟨rfl, x, hxp, hx, hV⟩ hK
    have hx11 : x < 11 := List.mem_range.1 (hSp.subset hxp)
    have hf : frst p = fst x := by
      subst hx
      unfold frst
      rw [if_neg (by omega)]; rfl
    gi_wp2
    refine ⟨by simp, .inl ⟨_, _, rfl, run_takeDeferred hK, ?_⟩⟩
    have hc5 := cell_of_one' (heap_kept (grownBy_putObj' W D (.deferred none)) (fun r e => by cases e; exact ⟨_, hK, rfl⟩) hV.res)
    refine ⟨.int .i64 (fst x), ?_, by rw [hf], hV.below.trans (belowK_b (w := w) (Nat.le_refl _) _ D _ _ (by omega) hK rfl rfl)⟩
    simp [results, Try.f22, go_sem, hc5]
end Go.Proofs.Ytjniajojbnhmgaa
