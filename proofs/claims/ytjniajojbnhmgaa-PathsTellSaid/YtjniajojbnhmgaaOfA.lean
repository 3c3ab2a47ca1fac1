/-
  The contract of paths.Of.
  Conditions: none.
-/
import Derived.Test.YtjniajojbnhmgaaFirst
import Derived.Deep.AppendLies
import Derived.WalkMore
import Derived.StillTailTactics
namespace Go.Proofs.Ytjniajojbnhmgaa
open Go.RowKit Go.Shelf
attribute [local go_sem] Oper.semAt_some
set_option linter.unusedVariables false

abbrev vs (l : List Int) : List Value := l.map fun x => .int .i64 x

/-- The digits of a, as the program reckons them. -/
def dg : Nat → Int → List Int
  | 0, _ => []
  | l + 1, a => a.tdiv (spn l) :: dg l (a.tmod (spn l))

/-- The variables of Of, in memory. -/
structure OVars (k : Int) (w : World) (p : Int) (v : Value) (a : Int) (W : World) : Prop where
  box : W.heap[w.heap.size]? = some (.cells #[.int .i64 k] 3)
  ptr : W.heap[w.heap.size + 1]? = some (.cells #[.int .i64 p] 3)
  bel : W.heap[w.heap.size + 1 + 1]? = some (.cells #[v] 22)
  at' : W.heap[w.heap.size + 1 + 1 + 1]? = some (.cells #[.int .i64 a] 3)
  below : Below w.heap.size w W

theorem OVars.kept {k : Int} {w : World} {p : Int} {v : Value} {a : Int} {B : Nat} (hB : w.heap.size ≤ B) {A A' : World} {row : Option Nat} (h : OVars k w p v a A) (hg : A.grownBy A' row)
    (hr : ∀ r, row = some r → B ≤ r ∧ ∃ o : Obj, A.heap[r]? = some o ∧ o.isCells = false) : OVars k w p v a A' :=
  ⟨heap_kept hg (fun r e => (hr r e).2) h.box, heap_kept hg (fun r e => (hr r e).2) h.ptr, heap_kept hg (fun r e => (hr r e).2) h.bel, heap_kept hg (fun r e => (hr r e).2) h.at', h.below.grown hg h.below.size (fun k e => Nat.le_trans hB (hr k e).1)⟩

/-- What stays where a row of its own is grown. -/
theorem OVars.grown {k : Int} {w : World} {p : Int} {v : Value} {a : Int} {A A' : World} {row : Option Nat} (h : OVars k w p v a A) (hg : A.grownBy A' row) (hr : ∀ r, row = some r → w.heap.size + 4 ≤ r) : OVars k w p v a A' := by
  have key : ∀ (j : Nat) (o : Obj), j < w.heap.size + 4 → A.heap[j]? = some o → A'.heap[j]? = some o := fun j o hj ho => by
    rw [hg.block j (Array.getElem?_eq_some_iff.1 ho).1 (fun e => by have := hr j e.symm; omega)]; exact ho
  exact ⟨key _ _ (by omega) h.box, key _ _ (by omega) h.ptr, key _ _ (by omega) h.bel, key _ _ (by omega) h.at', h.below.grown hg h.below.size (fun k e => by have := hr k e; omega)⟩

theorem OVars.setPtr {k : Int} {w : World} {p : Int} {v : Value} {a : Int} {W : World} (h : OVars k w p v a W) (u : Int) : OVars k w u v a (W.setCell ⟨w.heap.size + 1, 0, none⟩ (.int .i64 u)) :=
  ⟨(heap_setCell_other _ _ _ _ (by simp)).trans h.box, heap_setCell_same W (w.heap.size + 1) 0 _ 3 _ h.ptr, (heap_setCell_other _ _ _ _ (by simp)).trans h.bel, (heap_setCell_other _ _ _ _ (by simp <;> omega)).trans h.at', h.below.setCell (p := ⟨w.heap.size + 1, 0, none⟩) (by simp) _⟩
theorem OVars.setBel {k : Int} {w : World} {p : Int} {v : Value} {a : Int} {W : World} (h : OVars k w p v a W) (u : Value) : OVars k w p u a (W.setCell ⟨w.heap.size + 1 + 1, 0, none⟩ u) :=
  ⟨(heap_setCell_other _ _ _ _ (by simp <;> omega)).trans h.box, (heap_setCell_other _ _ _ _ (by simp)).trans h.ptr, heap_setCell_same W (w.heap.size + 1 + 1) 0 _ 22 _ h.bel, (heap_setCell_other _ _ _ _ (by simp)).trans h.at', h.below.setCell (p := ⟨w.heap.size + 1 + 1, 0, none⟩) (by simp <;> omega) _⟩
theorem OVars.setAt {k : Int} {w : World} {p : Int} {v : Value} {a : Int} {W : World} (h : OVars k w p v a W) (u : Int) : OVars k w p v u (W.setCell ⟨w.heap.size + 1 + 1 + 1, 0, none⟩ (.int .i64 u)) :=
  ⟨(heap_setCell_other _ _ _ _ (by simp <;> omega)).trans h.box, (heap_setCell_other _ _ _ _ (by simp <;> omega)).trans h.ptr, (heap_setCell_other _ _ _ _ (by simp)).trans h.bel, heap_setCell_same W (w.heap.size + 1 + 1 + 1) 0 _ 3 _ h.at', h.below.setCell (p := ⟨w.heap.size + 1 + 1 + 1, 0, none⟩) (by simp <;> omega) _⟩
theorem OVars.drew {k : Int} {w : World} {p : Int} {v : Value} {a : Int} {W : World} (h : OVars k w p v a W) : OVars k w p v a { W with drawn := W.drawn + 1 } :=
  ⟨h.box, h.ptr, h.bel, h.at', ⟨h.below.os, h.below.tape, h.below.output, h.below.size, h.below.block⟩⟩

abbrev w3 (k : Int) (w : World) : World := ((w.alloc (.cells #[.int .i64 k] 3)).alloc (.cells #[.int .i64 0] 3)).alloc (.cells #[.slice none 0 0] 22)
theorem w3_box (k : Int) (w : World) : (w3 k w).heap[w.heap.size]? = some (.cells #[.int .i64 k] 3) := (Below.heap_alloc _ _ _ (by simp <;> omega)).trans (heap_alloc2_old _ _ _)
theorem w3_ptr (k : Int) (w : World) : (w3 k w).heap[w.heap.size + 1]? = some (.cells #[.int .i64 0] 3) := (Below.heap_alloc _ _ _ (by simp)).trans (heap_alloc2_new _ _ _)
theorem w3_bel (k : Int) (w : World) : (w3 k w).heap[w.heap.size + 1 + 1]? = some (.cells #[.slice none 0 0] 22) := by
  have := heap_alloc_new ((w.alloc (.cells #[.int .i64 k] 3)).alloc (.cells #[.int .i64 0] 3)) (.cells #[.slice none 0 0] 22)
  simpa using this
theorem w3_below (k : Int) (w : World) : Below w.heap.size w (w3 k w) := (((Below.refl w.heap.size w).alloc (Nat.le_refl _) _).alloc (by simp) _).alloc (by simp; omega) _

theorem Try.info3 : (Try.prog.info? 3).map (fun i => (i.zero, i.size, i.bytes)) = some (some (.int .i64 0), 1, 8) := by kernel_rfl

theorem owns_kept {A A' : World} {row : Option Nat} {B : Nat} {v : Value} {n : Nat} {xs : List Value} (h : A.ownsRow B 3 1 v n xs) (hg : A.grownBy A' row)
    (hr : ∀ r, row = some r → ∃ o : Obj, A.heap[r]? = some o ∧ o.isCells = false) : A'.ownsRow B 3 1 v n xs := by
  refine ⟨h.1, ?_⟩
  rcases h.2 with h0 | ⟨g, cap, cur, hv, hb, hgg, rest⟩
  · exact .inl h0
  · exact .inr ⟨g, cap, cur, hv, hb, heap_kept hg hr hgg, rest⟩
theorem owns_same {A A' : World} {B : Nat} {v : Value} {n : Nat} {xs : List Value} (h : A.ownsRow B 3 1 v n xs) (hs : ∀ g, B ≤ g → g < A.heap.size → A'.heap[g]? = A.heap[g]?) : A'.ownsRow B 3 1 v n xs := by
  refine ⟨h.1, ?_⟩
  rcases h.2 with h0 | ⟨g, cap, cur, hv, hb, hgg, rest⟩
  · exact .inl h0
  · exact .inr ⟨g, cap, cur, hv, hb, (hs g hb (Array.getElem?_eq_some_iff.1 hgg).1).trans hgg, rest⟩

theorem lev_bd (p : Int) : -1 ≤ lev p ∧ lev p ≤ 3 := by unfold lev; (repeat' split) <;> omega

theorem tq_bd {a P : Int} (hP : P = 1 ∨ P = 64 ∨ P = 4096) (h1 : -300000 ≤ a) (h2 : a ≤ 300000) : (-300000 ≤ a.tdiv P ∧ a.tdiv P ≤ 300000) ∧ -300000 ≤ a.tmod P ∧ a.tmod P ≤ 300000 := by
  by_cases h : 0 ≤ a
  · rw [Int.tdiv_eq_ediv_of_nonneg h, Int.tmod_eq_emod_of_nonneg h]
    rcases hP with rfl | rfl | rfl <;> omega
  · obtain ⟨b, rfl⟩ : ∃ b, a = -b := ⟨-a, by omega⟩
    rw [Int.neg_tdiv, Int.neg_tmod, Int.tdiv_eq_ediv_of_nonneg (by omega), Int.tmod_eq_emod_of_nonneg (by omega)]
    rcases hP with rfl | rfl | rfl <;> omega
theorem spn_three {m : Nat} (h : m < 3) : spn m = 1 ∨ spn m = 64 ∨ spn m = 4096 := by
  have : m = 0 ∨ m = 1 ∨ m = 2 := by omega
  rcases this with rfl | rfl | rfl <;> decide

theorem OVars.alloc {k : Int} {w : World} {p : Int} {v : Value} {a : Int} {W : World} (h : OVars k w p v a W) (o : Obj) : OVars k w p v a (W.alloc o) := by
  have key : ∀ (j : Nat) (o' : Obj), W.heap[j]? = some o' → (W.alloc o).heap[j]? = some o' := fun j o' ho => (Below.heap_alloc _ _ _ (Array.getElem?_eq_some_iff.1 ho).1).trans ho
  exact ⟨key _ _ h.box, key _ _ h.ptr, key _ _ h.bel, key _ _ h.at', h.below.alloc h.below.size _⟩
theorem keeps_grown {A B : World} {row : Option Nat} (hg : A.grownBy B row) (hr : ∀ r, row = some r → ∃ c t fr, A.heap[r]? = some (.cells c t fr)) : KeepsOthers A B := by
  refine ⟨hg.size, fun j o hj ho => ?_⟩
  rw [hg.block j (Array.getElem?_eq_some_iff.1 hj).1 ?_]
  · exact hj
  · intro e
    obtain ⟨c, t, fr, h⟩ := hr j e.symm
    rw [h] at hj
    cases Option.some.inj hj
    cases ho
theorem own_block {W : World} {B : Nat} {v : Value} {n : Nat} {xs : List Value} (h : W.ownsRow B 3 1 v n xs) {r : Nat} (e : v.ownBlock = some r) : B ≤ r ∧ ∃ c t fr, W.heap[r]? = some (.cells c t fr) := by
  rcases h.2 with ⟨rfl, _⟩ | ⟨g, cap, cur, rfl, hb, hg, _⟩
  · cases e
  · cases e; exact ⟨hb, _, _, _, hg⟩

/-- What holds at the head of Of's inner loop. -/
structure ORel (k : Int) (w W : World) (x : Nat) (l : Int) (wr : World) : Prop where
  lo : -2 ≤ l
  hi : l < 3
  rest : ∃ (xs : List Int) (v : Value) (a : Int), OVars k w x v a wr ∧ wr.ownsRow (w.heap.size + 4) 3 1 v xs.length (vs xs) ∧ xs ++ dg (l + 1).toNat a = dg (lev x).toNat (k - fst x) ∧ xs.length ≤ 3 - (l + 1).toNat ∧ -300000 ≤ a ∧ a ≤ 300000
  keeps : KeepsOthers W wr
  below : Below 0 W wr

section
variable {n l : Nat} {P : Program} {Q : Exit → Act → World → Prop}
/-- A region that draws its order, in a round: reads and quiet calls ahead of a tail. -/
theorem round_still_tail {id : Nat} {a : Act} {w : World} {l' : List Oper} (m : Nat) (hm : P.follows .mixedOrders = true) (hB : Region.lexTailB .any l'.toArray m = true) (hd : noDefer l'.toArray = true)
    (h : wpStill P l'.toArray { w with drawn := w.drawn + 1 } (fun a' => wpList P l'.toArray (Norm Q) (l'.drop m) a' { w with drawn := w.drawn + 1 }) (l'.take m) a) : (Code.region id l'.toArray true).wpIn (Fence.wide.inRound l) n P Q a w := by
  simp only [Region.lexTailB, Bool.and_eq_true, decide_eq_true_eq] at hB
  obtain ⟨⟨⟨⟨hsel, hn⟩, hs⟩, hc⟩, hlex⟩ := hB
  have hn' : m < l'.length := by simpa using hn
  have htl : (l'.take m).length = m := by simp; omega
  have hdl : (l'.drop m).length = l'.toArray.size - m := by simp
  have inv0 : HeadInv .any l'.toArray m (Array.replicate l'.toArray.size false) :=
    ⟨by simp, fun j oj _ hl => (by rw [getD_replicate_false] at hl; cases hl), fun t _ ht => getD_in (by simpa using ht) (getD_replicate_false _ _)⟩
  have H := wpAnyL_lex (md := .any) (g := l'.toArray.size - m) hsel hs hc hn (l'.take m) 0 _ a (fun j hj => by
    have hj' : j < m := by rw [htl] at hj; exact hj
    simp [hj']) (by simpa using htl) inv0 (by rw [htl]; exact hlex) h
  refine wpIn_region_any hm (anyIn_of hd _ _ _ _ ?_)
  have := wpAny_of_head (Q' := Norm Q) (g := l'.toArray.size - m) (fun listed a' hL => by
    have := wpAny_of_seq (md := .any) (Q' := Norm Q) (l'.drop m) m listed a' { w with drawn := w.drawn + 1 } (fun j => by simp [List.getElem?_drop]) (by rw [hdl]; exact hL.1) hL.2
    rwa [hdl] at this) _ _ _ H
  rw [htl, show m + (l'.toArray.size - m) = l'.toArray.size by omega] at this
  exact this
end

/-- What holds behind the append of Of's inner loop. -/
structure OfAfter (k : Int) (w W1 : World) (x : Nat) (a : Int) (xs : List Int) (q : Int) (V : Value) (w' : World) : Prop where
  vars : OVars k w x V a w'
  keeps : KeepsOthers W1 w'
  below : Below 0 W1 w'
  own : w'.ownsRow (w.heap.size + 4) 3 1 V (xs.length + 1) (vs xs ++ [.int .i64 q])
theorem two_stores {W : World} {B : Nat} {p v : Value} (hp : W.cell? ⟨B + 1, 0, none⟩ = some p) (hv : W.cell? ⟨B + 1 + 1, 0, none⟩ = some v) (p' v' : Value) :
    ((W.setCell ⟨B + 1, 0, none⟩ p').setCell ⟨B + 1 + 1, 0, none⟩ v').cell? ⟨B + 1, 0, none⟩ = some p' ∧ ((W.setCell ⟨B + 1, 0, none⟩ p').setCell ⟨B + 1 + 1, 0, none⟩ v').cell? ⟨B + 1 + 1, 0, none⟩ = some v' := by
  refine ⟨(World.cell?_setCell_far _ _ _ _ (by simp)).trans (World.cell?_setCell_same _ _ _ hp), World.cell?_setCell_same _ _ _ (u := v) ?_⟩
  exact (World.cell?_setCell_far _ _ _ _ (by simp)).trans hv
end Go.Proofs.Ytjniajojbnhmgaa
