/-
  The walk of quernlaw04.BitsTurn: it returns true, of any block and number, and changes nothing that was there.
  Conditions: none.
-/
import Derived.Test.YtiajohnnmnoijaaTurnC
import Derived.OrdersHeld
import Derived.Deep.RegionHeld
import Derived.Deep.DeepCutAuto
namespace Go.Proofs.Ytiajohnnmnoijaa
open Go.RowKit
attribute [local go_sem] run_equalIn_top

section
variable {ops : Array Oper} {o : Oper} {a : Act} {w : World} {K : Act → World → Prop} {Q : Exit → Act → World → Prop}

theorem wp_alloc0 (ho : o.op = .alloc 23) (h : K (a.put o.dst (.pointer (some ⟨w.heap.size, 0, none⟩))) (w.alloc (.cells (bc zB) 23))) : o.wp Try.prog a w K Q := by
  unfold Oper.wp execOp
  simp only [ho, Sem.run_bind, run_alloc0, Result.andThen_ok, Sem.run_pure]
  exact h

theorem wp_store_block (x y : Operand) (ho : o.op = .store 23 x y) (g : Nat) (f : Nat → Nat) (hx : a.eval x = .pointer (some ⟨g, 0, none⟩)) (hy : a.eval y = .agg (bc f))
    (old : Nat → Nat) (hg : w.heap[g]? = some (.cells (bc old) 23)) (h : K (a.put o.dst undef) (w.setRow g (bc f))) : o.wp Try.prog a w K Q :=
  wp_store_row 23 x y ho g (bc f) hx hy 23 (bc old) hg (by rw [bc_size]; exact info23) (by rw [bc_size, bc_size]) (bc_one f) h

theorem step_alloc0 {i : Nat} (ho : ops[i]? = some o) (hgd : Region.wanted o (yielded ops a.tmps) = true) (hop : o.op = .alloc 23)
    (h : K (a.put o.dst (.pointer (some ⟨w.heap.size, 0, none⟩))) (w.alloc (.cells (bc zB) 23))) : wpOp Try.prog ops Q i K a w :=
  wpOp_step ho fun K' hK => by rw [if_pos hgd]; exact wp_alloc0 hop (hK _ _ h)

theorem step_store_block {i : Nat} (ho : ops[i]? = some o) (hgd : Region.wanted o (yielded ops a.tmps) = true) (x y : Operand) (hop : o.op = .store 23 x y) (g : Nat) (f : Nat → Nat) (hx : a.eval x = .pointer (some ⟨g, 0, none⟩)) (hy : a.eval y = .agg (bc f))
    (old : Nat → Nat) (hg : w.heap[g]? = some (.cells (bc old) 23)) (h : K (a.put o.dst undef) (w.setRow g (bc f))) : wpOp Try.prog ops Q i K a w :=
  wpOp_step ho fun K' hK => by rw [if_pos hgd]; exact wp_store_block x y hop g f hx hy old hg (hK _ _ h)

theorem yields_load (f : Nat → Nat) (g : Nat) (x : Operand) (hgd : Region.wanted o (yielded ops a.tmps) = true) (ho : o.op = .load 23 x) (hx : a.eval x = .pointer (some ⟨g, 0, none⟩)) :
    YieldsIf Try.prog ops (fun w' => w'.heap[g]? = some (.cells (bc f) 23)) o (.agg (bc f)) a := by
  refine .inl ⟨hgd, fun w' hw' => ?_⟩
  unfold execOp
  simp only [ho, hx, Instr.loadAt, Instr.sureAddr, Sem.run_bind, Sem.run_pure, Result.andThen_ok, run_loadVar_row _ g 23 23 (bc f) (0, 0) _ hw' Try.underlying23 rfl (by rw [bc_size]; exact info23)]
end

theorem _root_.Go.RowKit.Below.get {w w' : World} (h : Below w.heap.size w w') {g : Nat} {o : Obj} (hg : w.heap[g]? = some o) : w'.heap[g]? = some o :=
  (h.block g (Array.getElem?_eq_some_iff.1 hg).1).trans hg

/-- What holds behind 'x, y := b, b': two boxes, each with the block. -/
def TurnMid (f : Nat → Nat) (w : World) (s5 s6 : Value) (wx : World) : Prop :=
  ∃ p5 p6 : Nat, s5 = .pointer (some ⟨p5, 0, none⟩) ∧ s6 = .pointer (some ⟨p6, 0, none⟩) ∧ p5 ≠ p6 ∧ w.heap.size < p5 ∧ w.heap.size < p6 ∧
    wx.heap[w.heap.size]? = some (.cells (bc f) 23) ∧ wx.heap[p5]? = some (.cells (bc f) 23) ∧ wx.heap[p6]? = some (.cells (bc f) 23) ∧ Below w.heap.size w wx

theorem turnMid_of {f : Nat → Nat} {w W : World} (p q : Nat) (hne : p ≠ q) (hp : w.heap.size < p) (hq : w.heap.size < q) (hg : W.heap[w.heap.size]? = some (.cells (bc f) 23))
    (h1 : W.heap[p]? = some (.cells (bc zB) 23)) (h2 : W.heap[q]? = some (.cells (bc zB) 23)) (hb : Below w.heap.size w W) :
    TurnMid f w (.pointer (some ⟨p, 0, none⟩)) (.pointer (some ⟨q, 0, none⟩)) ((W.setRow p (bc f)).setRow q (bc f)) := by
  have e1 := setRow_heap W p _ (bc f) _ _ h1
  have e2 : (W.setRow p (bc f)).heap[q]? = some (.cells (bc zB) 23) := (setRow_other _ _ _ _ (fun e => hne e.symm)).trans h2
  exact ⟨p, q, rfl, rfl, hne, hp, hq, (setRow_other _ _ _ _ (by omega)).trans ((setRow_other _ _ _ _ (by omega)).trans hg), (setRow_other _ _ _ _ hne).trans e1, setRow_heap _ q _ (bc f) _ _ e2,
    below_setRow (below_setRow hb (by omega) _) (by omega) _⟩

set_option maxRecDepth 100000 in
set_option maxHeartbeats 1000000 in
theorem bturn_walk (f : Nat → Nat) (hf : Bytes f) (i : Int) (w : World) :
    Calls Try.prog 4 #[.agg (bc f), .int .i64 i] w fun e w' => e = .returned (.bool true) ∧ Below w.heap.size w w' := by
  have HF := Lib.hid hf
  clear hf
  have HG := Lib.hid (heap_alloc_new w (.cells (bc f) 23))
  have HB := Lib.hid (Boxes.mk1 f w).below
  go_enter Try.func4, Try.ntmps4
  go_upto_region 1 with fail
  go_cut [5, 6] (fun s5 s6 wx => TurnMid f w s5 s6 wx)
  case first =>
    refine wp_region_held (S := fun w' => w'.heap[w.heap.size]? = some (.cells (bc f) 23)) (by kernel_rfl) ?_
    refine wpAnyH_take (i := 0) (v := .agg (bc f)) rfl (by kernel_rfl) (by kernel_rfl) (by kernel_rfl) (fun _ _ _ h => h) (yields_load f w.heap.size _ rfl rfl rfl) HG.out ?_
    refine wpAnyH_take (i := 1) (v := .agg (bc f)) rfl (by kernel_rfl) (by kernel_rfl) (by kernel_rfl) (fun _ _ _ h => h) (yields_load f w.heap.size _ rfl rfl rfl) HG.out ?_
    obtain ⟨W0, hW0⟩ : ∃ W0 : World, W0 = { w.alloc (.cells (bc f) 23) with drawn := (w.alloc (.cells (bc f) 23)).drawn + 1 } := ⟨_, rfl⟩
    rw [← hW0]
    have hs0 : W0.heap.size = w.heap.size + 1 := by rw [hW0]; simp
    have HG0 : Hid (W0.heap[w.heap.size]? = some (.cells (bc f) 23)) := by rw [hW0]; exact HG
    have HB0 : Hid (Below w.heap.size w W0) := by rw [hW0]; exact Lib.hid ⟨HB.out.os, HB.out.tape, HB.out.output, HB.out.size, HB.out.block⟩
    clear hW0 HG HB
    have hs1 : (W0.alloc (.cells (bc zB) 23)).heap.size = w.heap.size + 1 + 1 := by rw [World.size_alloc, hs0]
    have HG1 : Hid ((W0.alloc (.cells (bc zB) 23)).heap[w.heap.size]? = some (.cells (bc f) 23)) := Lib.hid ((heap_alloc_old _ _ (by omega)).trans HG0.out)
    have HG2 : Hid (((W0.alloc (.cells (bc zB) 23)).alloc (.cells (bc zB) 23)).heap[w.heap.size]? = some (.cells (bc f) 23)) := Lib.hid ((heap_alloc_old _ _ (by omega)).trans HG1.out)
    have HA2 : Hid (((W0.alloc (.cells (bc zB) 23)).alloc (.cells (bc zB) 23)).heap[W0.heap.size]? = some (.cells (bc zB) 23)) := Lib.hid (heap_alloc2_old _ _ _)
    have HZ2 : Hid (((W0.alloc (.cells (bc zB) 23)).alloc (.cells (bc zB) 23)).heap[(W0.alloc (.cells (bc zB) 23)).heap.size]? = some (.cells (bc zB) 23)) := Lib.hid (heap_alloc_new _ _)
    have HB2 : Hid (Below w.heap.size w ((W0.alloc (.cells (bc zB) 23)).alloc (.cells (bc zB) 23))) := Lib.hid ((HB0.out.alloc (by omega) _).alloc (by omega) _)
    have M23 := Lib.hid (turnMid_of W0.heap.size (W0.alloc (.cells (bc zB) 23)).heap.size (by omega) (by omega) (by omega) HG2.out HA2.out HZ2.out HB2.out)
    have M32 := Lib.hid (turnMid_of (W0.alloc (.cells (bc zB) 23)).heap.size W0.heap.size (by omega) (by omega) (by omega) HG2.out HZ2.out HA2.out HB2.out)
    refine wpAnyH_all (rs := [2, 3]) (by kernel_rfl) (by simp) ?_
    intro j hj
    simp only [List.mem_cons, List.not_mem_nil, or_false] at hj
    rcases hj with rfl | rfl
    · refine step_alloc0 rfl rfl rfl ⟨HG1.out, ?_⟩
      refine wpAnyH_all (rs := [3]) (by kernel_rfl) (by simp) ?_
      intro j hj
      obtain rfl : j = 3 := by simpa using hj
      refine step_alloc0 rfl rfl rfl ⟨HG2.out, ?_⟩
      refine wpAnyH_all (rs := [4]) (by kernel_rfl) (by simp) ?_
      intro j hj
      obtain rfl : j = 4 := by simpa using hj
      refine step_store_block rfl rfl _ _ rfl W0.heap.size f rfl rfl zB HA2.out ⟨(setRow_other _ _ _ _ (by omega)).trans HG2.out, ?_⟩
      refine wpAnyH_all (rs := [5]) (by kernel_rfl) (by simp) ?_
      intro j hj
      obtain rfl : j = 5 := by simpa using hj
      refine step_store_block rfl rfl _ _ rfl (W0.alloc (.cells (bc zB) 23)).heap.size f rfl rfl zB ((setRow_other _ _ _ _ (by omega)).trans HZ2.out) ⟨(setRow_other _ _ _ _ (by omega)).trans ((setRow_other _ _ _ _ (by omega)).trans HG2.out), ?_⟩
      refine wpAnyH_done (by kernel_rfl) ?_ _
      go_wp2_with fail
      go_meet
      exact M23.out
    · refine step_alloc0 rfl rfl rfl ⟨HG1.out, ?_⟩
      refine wpAnyH_all (rs := [2]) (by kernel_rfl) (by simp) ?_
      intro j hj
      obtain rfl : j = 2 := by simpa using hj
      refine step_alloc0 rfl rfl rfl ⟨HG2.out, ?_⟩
      refine wpAnyH_all (rs := [4]) (by kernel_rfl) (by simp) ?_
      intro j hj
      obtain rfl : j = 4 := by simpa using hj
      refine step_store_block rfl rfl _ _ rfl (W0.alloc (.cells (bc zB) 23)).heap.size f rfl rfl zB HZ2.out ⟨(setRow_other _ _ _ _ (by omega)).trans HG2.out, ?_⟩
      refine wpAnyH_all (rs := [5]) (by kernel_rfl) (by simp) ?_
      intro j hj
      obtain rfl : j = 5 := by simpa using hj
      refine step_store_block rfl rfl _ _ rfl W0.heap.size f rfl rfl zB ((setRow_other _ _ _ _ (by omega)).trans HA2.out) ⟨(setRow_other _ _ _ _ (by omega)).trans ((setRow_other _ _ _ _ (by omega)).trans HG2.out), ?_⟩
      refine wpAnyH_done (by kernel_rfl) ?_ _
      go_wp2_with fail
      go_meet
      exact M32.out
  case rest =>
    obtain ⟨p5, p6, rfl, rfl, hne, hp5, hp6, hg0, hg5, hg6, hb⟩ := hcut
    have G0 := Lib.hid hg0
    have G6 := Lib.hid hg6
    have HBc := Lib.hid hb
    clear hg0 hg6 hb HG HB
    go_wp2_with fail
    refine (set_any p5 f HF.out i _ hg5).mono ?_
    rintro e w2 ⟨rfl, hw2⟩
    clear hg5
    have A0 : Hid (w2.heap[w.heap.size]? = _) := Lib.hid ((hw2.block _ (by omega)).trans G0.out)
    have A5 : Hid (w2.heap[p5]? = some (.cells (bc (setI f i)) 23)) := Lib.hid hw2.here
    have hA6 : w2.heap[p6]? = some (.cells (bc f) 23) := (hw2.block _ (by omega)).trans G6.out
    have AB : Hid (Below w.heap.size w w2) := Lib.hid (HBc.out.trans (hw2.below (by omega)))
    clear hw2 G0 G6 HBc
    go_wp2_with fail
    refine (clear_any p6 f HF.out i _ hA6).mono ?_
    rintro e w3 ⟨rfl, hw3⟩
    clear hA6
    have B0 : Hid (w3.heap[w.heap.size]? = some (.cells (bc f) 23)) := Lib.hid ((hw3.block _ (by omega)).trans A0.out)
    have B5 : Hid (w3.heap[p5]? = some (.cells (bc (setI f i)) 23)) := Lib.hid ((hw3.block _ (by omega)).trans A5.out)
    have B6 : Hid (w3.heap[p6]? = some (.cells (bc (clrI f i)) 23)) := Lib.hid hw3.here
    have BB : Hid (Below w.heap.size w w3) := Lib.hid (AB.out.trans (hw3.below (by omega)))
    clear hw3 A0 A5 AB
    go_wp2_with (refine wpList_load_block rfl _ rfl w.heap.size rfl f B0.out ?_)
    refine (turn_any f HF.out i true _).mono ?_
    rintro e w4 ⟨rfl, hw4⟩
    have C0 : Hid (w4.heap[w.heap.size]? = some (.cells (bc f) 23)) := Lib.hid (hw4.get B0.out)
    have C5 : Hid (w4.heap[p5]? = some (.cells (bc (setI f i)) 23)) := Lib.hid (hw4.get B5.out)
    have C6 : Hid (w4.heap[p6]? = some (.cells (bc (clrI f i)) 23)) := Lib.hid (hw4.get B6.out)
    have CB : Hid (Below w.heap.size w w4) := Lib.hid (BB.out.trans (hw4.mono BB.out.size))
    clear hw4 B0 B5 B6 BB
    have hN := heap_alloc_new w4 (.cells (bc zB) 23)
    have HN := Lib.hid hN
    have D9 := Lib.hid (setRow_heap _ _ _ (bc (turnF f i true)) _ _ hN)
    have l0 : w.heap.size < w4.heap.size := (Array.getElem?_eq_some_iff.1 C0.out).1
    have l5 : p5 < w4.heap.size := (Array.getElem?_eq_some_iff.1 C5.out).1
    have l6 : p6 < w4.heap.size := (Array.getElem?_eq_some_iff.1 C6.out).1
    have D0 := Lib.hid ((setRow_other (w4.alloc (.cells (bc zB) 23)) w4.heap.size _ (bc (turnF f i true)) (by omega)).trans ((heap_alloc_old _ _ l0).trans C0.out))
    have D5 := Lib.hid ((setRow_other (w4.alloc (.cells (bc zB) 23)) w4.heap.size _ (bc (turnF f i true)) (by omega)).trans ((heap_alloc_old _ _ l5).trans C5.out))
    have D6 := Lib.hid ((setRow_other (w4.alloc (.cells (bc zB) 23)) w4.heap.size _ (bc (turnF f i true)) (by omega)).trans ((heap_alloc_old _ _ l6).trans C6.out))
    have DB := Lib.hid (below_setRow (CB.out.alloc CB.out.size (.cells (bc zB) 23)) (Nat.le_of_lt l0) (bc (turnF f i true)))
    clear hN C0 C5 C6 CB
    go_wp2_with (first | (refine wpList_alloc0 rfl rfl ?_) | (refine wpList_store_block rfl _ _ rfl w4.heap.size (turnF f i true) rfl rfl zB HN.out ?_) | (refine wpList_load_block rfl _ rfl w.heap.size rfl f D0.out ?_))
    obtain ⟨w5, hw5⟩ : ∃ w5, w5 = (w4.alloc (.cells (bc zB) 23)).setRow w4.heap.size (bc (turnF f i true)) := ⟨_, rfl⟩
    rw [← hw5] at D0 D5 D6 D9 DB ⊢
    clear hw5 HN
    refine (turn_any f HF.out i false _).mono ?_
    rintro e w6 ⟨rfl, hw6⟩
    have E0 := Lib.hid (hw6.get D0.out)
    have E5 := Lib.hid (hw6.get D5.out)
    have E6 := Lib.hid (hw6.get D6.out)
    have E9 := Lib.hid (hw6.get D9.out)
    have EB := Lib.hid (DB.out.trans (hw6.mono DB.out.size))
    have m5 : p5 < w6.heap.size := (Array.getElem?_eq_some_iff.1 E5.out).1
    have m6 : p6 < w6.heap.size := (Array.getElem?_eq_some_iff.1 E6.out).1
    have m9 : w4.heap.size < w6.heap.size := (Array.getElem?_eq_some_iff.1 E9.out).1
    clear hw6 D0 D5 D6 D9 DB
    have hN := heap_alloc_new w6 (.cells (bc zB) 23)
    have HN := Lib.hid hN
    have F11 := Lib.hid (setRow_heap _ _ _ (bc (turnF f i false)) _ _ hN)
    have F5 := Lib.hid ((setRow_other (w6.alloc (.cells (bc zB) 23)) w6.heap.size _ (bc (turnF f i false)) (by omega)).trans ((heap_alloc_old _ _ m5).trans E5.out))
    have F6 := Lib.hid ((setRow_other (w6.alloc (.cells (bc zB) 23)) w6.heap.size _ (bc (turnF f i false)) (by omega)).trans ((heap_alloc_old _ _ m6).trans E6.out))
    have F9 := Lib.hid ((setRow_other (w6.alloc (.cells (bc zB) 23)) w6.heap.size _ (bc (turnF f i false)) (by omega)).trans ((heap_alloc_old _ _ m9).trans E9.out))
    have FB := Lib.hid (below_setRow (EB.out.alloc EB.out.size (.cells (bc zB) 23)) EB.out.size (bc (turnF f i false)))
    clear hN E0 E5 E6 E9 EB
    have h1 := turn_one f i
    have h2 := turn_two f i
    have hx := eqB_set f HF.out i
    have hy := eqB_clr f HF.out i
    go_wp2_with (first | (refine wpList_alloc0 rfl rfl ?_) | (refine wpList_store_block rfl _ _ rfl w6.heap.size (turnF f i false) rfl rfl zB HN.out ?_) | (refine wpList_load_block rfl _ rfl p5 rfl _ F5.out ?_) | (refine wpList_load_block rfl _ rfl p6 rfl _ F6.out ?_) | (refine wpList_load_block rfl _ rfl w4.heap.size rfl _ F9.out ?_) | (refine wpList_load_block rfl _ rfl w6.heap.size rfl _ F11.out ?_) | (go_at_call 14; refine (set_nil i _).mono ?_; rintro e w7 ⟨rfl, k7, rfl⟩) | (go_at_call 15; refine (clear_nil i _).mono ?_; rintro e w8 ⟨rfl, k8, rfl⟩))
    go_ret
    exact ⟨rfl, below_drewN FB.out _⟩
end Go.Proofs.Ytiajohnnmnoijaa
