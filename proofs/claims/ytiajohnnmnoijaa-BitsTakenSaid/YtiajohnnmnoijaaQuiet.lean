/-
  Steps for a statement that leaves its order open, where blocks are loaded whole and callees make memory: one walk in the text's order serves every order.
  Conditions: none but those that each lemma names.
-/
import Derived.Test.YtiajohnnmnoijaaRef
import Derived.Lib.QuietBelow
namespace Go.Proofs.Ytiajohnnmnoijaa
open Go.RowKit Go.Sort

/-- The worlds that are w with blocks laid behind it and any count of draws. -/
abbrev Cls (w : World) : World → Prop := fun w' => ∃ p : Regrown, w' = grow (redrawn w p.d) p.os

theorem heap_regrown {w : World} {g : Nat} {o : Obj} (h : w.heap[g]? = some o) (d : Nat) (os : Array Obj) : (grow (redrawn w d) os).heap[g]? = some o := by
  rw [(below_regrown w d os).block g (Array.getElem?_eq_some_iff.1 h).1]; exact h

section
variable {ops : Array Oper} {rest : List Oper} {o : Oper} {a : Act} {w : World} {Q : Act → Prop}

/-- A whole block loaded, as one operation. -/
theorem quiet_load_block {K : Act → Prop} (x : Operand) (ho : o.op = .load 23 x) (g : Nat) (hx : a.eval x = .pointer (some ⟨g, 0, none⟩)) (f : Nat → Nat)
    (hg : w.heap[g]? = some (.cells (bc f) 23)) (h : K (a.put o.dst (.agg (bc f)))) : o.quiet Try.prog a (Cls w) K := by
  refine ⟨.agg (bc f), ?_, h⟩
  rintro w' ⟨p, rfl⟩
  unfold Oper.quietAt Oper.quietUpon execOp
  simp only [ho, hx, Instr.loadAt, Instr.sureAddr, Sem.run_bind, Sem.run_pure, Result.andThen_ok, run_loadVar_row _ g 23 23 (bc f) (0, 0) _ (heap_regrown hg p.d p.os) Try.underlying23 rfl (by rw [bc_size]; exact info23)]
  exact ⟨trivial, trivial⟩

/-- A whole block loaded. -/
theorem wpQuiet_load_block (hgd : Region.wanted o (yielded ops a.tmps) = true) (x : Operand) (ho : o.op = .load 23 x) (g : Nat) (hx : a.eval x = .pointer (some ⟨g, 0, none⟩)) (f : Nat → Nat)
    (hg : w.heap[g]? = some (.cells (bc f) 23)) (h : wpQuiet Try.prog ops (Cls w) Q rest (a.put o.dst (.agg (bc f)))) : wpQuiet Try.prog ops (Cls w) Q (o :: rest) a := by
  refine wpQuiet_step fun K hK => ?_
  rw [if_pos hgd]
  refine ⟨.agg (bc f), ?_, hK _ h⟩
  rintro w' ⟨p, rfl⟩
  unfold Oper.quietAt Oper.quietUpon execOp
  simp only [ho, hx, Instr.loadAt, Instr.sureAddr, Sem.run_bind, Sem.run_pure, Result.andThen_ok, run_loadVar_row _ g 23 23 (bc f) (0, 0) _ (heap_regrown hg p.d p.os) Try.underlying23 rfl (by rw [bc_size]; exact info23)]
  exact ⟨trivial, trivial⟩
end

end Go.Proofs.Ytiajohnnmnoijaa
