/-
  Two blocks compared with == or !=: the answer is whether all bytes are the same; nothing is changed.
  Conditions: none.
-/
import Derived.Test.YtiajohnnmnoijaaBase
namespace Go.Proofs.Ytiajohnnmnoijaa
open Go.RowKit

theorem run_sizeOf5 (w : World) : (sizeOf 5).run Try.prog w = .ok 1 w := by kernel_rfl
theorem run_isAgg5 (w : World) : (isAgg 5).run Try.prog w = .ok false w := by kernel_rfl

theorem run_part5 (f : Nat → Nat) (w : World) (i : Nat) (h : i < 256) : (part 5 (bc f) i).run Try.prog w = .ok (.int .u8 (f i)) w := by
  have hg := bc_get f i h
  simp only [part, Sem.run_bind, run_isAgg5, Result.andThen_ok, hg, Bool.false_eq_true, if_false, Sem.run_pure]

theorem eqB_range (f g : Nat → Nat) : eqB f g = (List.range' 0 256 1).all fun i => f i == g i := by
  unfold eqB; rw [List.range_eq_range']

/-- The comparison's loop, from the byte s on. -/
theorem run_eqLoop (d : Nat) (f g : Nat → Nat) (w : World) : ∀ n s, s + n ≤ 256 →
    (forIn (m := Sem) (List.range' s n 1) ((none, ()) : Option Bool × Unit) fun i _ => do
      let a ← part 5 (bc f) (i * 1)
      let b ← part 5 (bc g) (i * 1)
      let r ← Op.equalIn (d + 1) 5 a b
      if (!r) = true then pure (ForInStep.done (some false, ())) else pure (ForInStep.yield (none, ()))).run Try.prog w
    = .ok ((if (List.range' s n 1).all (fun i => f i == g i) then none else some false), ()) w
  | 0, s, _ => by simp
  | n + 1, s, h => by
    rw [List.range'_succ, List.forIn_cons]
    simp only [Sem.run_bind, Nat.mul_one, run_part5 f w s (by omega), run_part5 g w s (by omega), Result.andThen_ok, run_equalIn_int w d 5 .u8 .u8 _ _ Try.underlying5, Sem.run_ite]
    by_cases e : f s = g s
    · have e' : ((f s : Int) == (g s : Int)) = true := by simp [e]
      have ih := run_eqLoop d f g w n (s + 1) (by omega)
      simp only [Nat.mul_one] at ih
      rw [e']
      simp only [Bool.not_true, Bool.false_eq_true, if_false, Sem.run_pure, Result.andThen_ok, ih, List.all_cons, e, beq_self_eq_true, Bool.true_and]
    · have e' : ((f s : Int) == (g s : Int)) = false := by simp; omega
      have e2 : (f s == g s) = false := by simp [e]
      rw [e']
      simp only [Bool.not_false, if_true, Sem.run_pure, Result.andThen_ok, List.all_cons, e2, Bool.false_and, Bool.false_eq_true, if_false]

theorem run_equalIn_block (d : Nat) (f g : Nat → Nat) (w : World) :
    (Op.equalIn (d + 2) 23 (.agg (bc f)) (.agg (bc g))).run Try.prog w = .ok (eqB f g) w := by
  rw [eqB_range]
  have h := run_eqLoop d f g w 256 0 (by omega)
  unfold Op.equalIn
  simp only [Sem.run_bind, run_underlying Try.underlying23, Result.andThen_ok, run_sizeOf5]
  rw [Std.Legacy.Range.forIn_eq_forIn_range']
  have e1 : List.range' [:256].start [:256].size [:256].step = List.range' 0 256 1 := rfl
  rw [e1]
  rw [h]
  simp only [Result.andThen_ok]
  cases (List.range' 0 256 1).all (fun i => f i == g i) <;> simp

/-- x == y of two blocks. -/
theorem run_eql_block (f g : Nat → Nat) (w : World) : (binOp .eql 23 (.agg (bc f)) (.agg (bc g))).run Try.prog w = .ok (.bool (eqB f g)) w := by
  rw [run_eql_struct, run_equalIn_block 9998 f g w]; rfl
/-- x != y of two blocks. -/
theorem run_neq_block (f g : Nat → Nat) (w : World) : (binOp .neq 23 (.agg (bc f)) (.agg (bc g))).run Try.prog w = .ok (.bool (!eqB f g)) w := by
  rw [run_neq_struct, run_equalIn_block 9998 f g w]; rfl

/-- The block of noughts. -/
def zB : Nat → Nat := fun _ => 0
theorem zB_bytes : Bytes zB := fun _ => by unfold zB; omega

theorem run_build0 (w : World) : (Instr.build 23 #[]).run Try.prog w = .ok (.agg (bc zB)) w := by kernel_rfl
theorem info23 : (Try.prog.info? 23).map (·.size) = some 256 := by kernel_rfl

section
variable {ops : Array Oper} {rest : List Oper} {o : Oper} {a : Act} {w : World} {Q : Exit → Act → World → Prop}

/-- A whole block loaded. -/
theorem wpList_load_block (hgd : Region.wanted o (yielded ops a.tmps) = true) (x : Operand) (ho : o.op = .load 23 x) (g : Nat) (hx : a.eval x = .pointer (some ⟨g, 0, none⟩)) (f : Nat → Nat)
    (hg : w.heap[g]? = some (.cells (bc f) 23)) (h : wpList Try.prog ops Q rest (a.put o.dst (.agg (bc f))) w) : wpList Try.prog ops Q (o :: rest) a w :=
  wpList_step fun K hK => by
    rw [if_pos hgd]
    exact wp_load_row 23 x ho g hx 23 (bc f) (0, 0) _ hg Try.underlying23 rfl (by rw [bc_size]; exact info23) (hK _ _ h)

/-- The block of noughts built. -/
theorem wpList_build0 (hgd : Region.wanted o (yielded ops a.tmps) = true) (ho : o.op = .build 23 #[])
    (h : wpList Try.prog ops Q rest (a.put o.dst (.agg (bc zB))) w) : wpList Try.prog ops Q (o :: rest) a w :=
  wpList_step fun K hK => by
    rw [if_pos hgd]
    unfold Oper.wp execOp
    simp only [ho, Array.map_empty, Sem.run_bind, run_build0, Result.andThen_ok, Sem.run_pure]
    exact hK _ _ h

theorem bc_one (f : Nat → Nat) : (bc f).all (·.oneCell') = true := by simp [bc, Value.oneCell']

/-- A whole block stored. -/
theorem wpList_store_block (hgd : o.guard = none) (x y : Operand) (ho : o.op = .store 23 x y) (g : Nat) (f : Nat → Nat) (hx : a.eval x = .pointer (some ⟨g, 0, none⟩)) (hy : a.eval y = .agg (bc f))
    (old : Nat → Nat) (hg : w.heap[g]? = some (.cells (bc old) 23)) (h : wpList Try.prog ops Q rest (a.put o.dst undef) (w.setRow g (bc f))) : wpList Try.prog ops Q (o :: rest) a w :=
  wpList_store_row hgd 23 x y ho g (bc f) hx hy 23 (bc old) hg (by rw [bc_size]; exact info23) (by rw [bc_size, bc_size]) (bc_one f) h

theorem run_alloc0 (w : World) : (Instr.alloc 23 true (.tuple #[])).run Try.prog w = .ok (.pointer (some ⟨w.heap.size, 0, none⟩)) (w.alloc (.cells (bc zB) 23)) := by kernel_rfl

/-- A new block of noughts. -/
theorem wpList_alloc0 (hgd : o.guard = none) (ho : o.op = .alloc 23)
    (h : wpList Try.prog ops Q rest (a.put o.dst (.pointer (some ⟨w.heap.size, 0, none⟩))) (w.alloc (.cells (bc zB) 23))) : wpList Try.prog ops Q (o :: rest) a w :=
  wpList_plain hgd fun _ hK => by
    unfold Oper.wp execOp
    simp only [ho, Sem.run_bind, run_alloc0, Result.andThen_ok, Sem.run_pure]
    exact hK _ _ h
end

theorem run_equalIn_top (f g : Nat → Nat) (w : World) : (Op.equalIn 10000 23 (.agg (bc f)) (.agg (bc g))).run Try.prog w = .ok (eqB f g) w := run_equalIn_block 9998 f g w

end Go.Proofs.Ytiajohnnmnoijaa
