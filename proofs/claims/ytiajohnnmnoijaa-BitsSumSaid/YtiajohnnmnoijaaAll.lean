/-
  The contracts of bits.All and of the function that it returns: it hands the set bits of the block, rising, to any loop body, as far as the body goes.
  Conditions: none.
-/
import Derived.Test.YtiajohnnmnoijaaCount
import Derived.RangeFuncNested
import Derived.RangeFuncBound
import Derived.RangeFuncCalls
import Derived.RangeFuncLeaves
import Derived.Shelf.Abstract
import Derived.Shelf.RegionOpen
import Derived.OwnWalkIn
import Derived.TacticsInMore
import Derived.LoopNIn
import Derived.LoopIn
namespace Go.Proofs.Ytiajohnnmnoijaa
open Go.RowKit Go.Shelf
attribute [local go_sem] Oper.semAt_some run_equalIn_top

/-- The set bits below k, rising. -/
def onesTo (f : Nat → Nat) : Nat → List Nat
  | 0 => []
  | k + 1 => if bit f k then onesTo f k ++ [k] else onesTo f k

theorem onesTo_len (f : Nat → Nat) : ∀ k, (onesTo f k).length ≤ k
  | 0 => Nat.le_refl _
  | k + 1 => by have := onesTo_len f k; unfold onesTo; split <;> simp <;> omega

theorem onesTo_no (f : Nat → Nat) (k : Nat) (h : bit f k = false) : onesTo f (k + 1) = onesTo f k := by simp [onesTo, h]
theorem onesTo_yes (f : Nat → Nat) (k : Nat) (h : bit f k = true) : onesTo f (k + 1) = onesTo f k ++ [k] := by simp [onesTo, h]

theorem onesTo_step (f : Nat → Nat) (k : Nat) : onesTo f k <+: onesTo f (k + 1) := by
  cases h : bit f k with
  | true => rw [onesTo_yes f k h]; exact List.prefix_append _ _
  | false => rw [onesTo_no f k h]; exact List.prefix_refl _
theorem onesTo_prefix (f : Nat → Nat) {a b : Nat} (h : a ≤ b) : onesTo f a <+: onesTo f b := by
  induction h with
  | refl => exact List.prefix_refl _
  | step _ ih => exact ih.trans (onesTo_step f _)
theorem onesTo_zero (f : Nat → Nat) (h : eqB f zB = true) : ∀ k, k ≤ 2048 → onesTo f k = []
  | 0, _ => rfl
  | k + 1, hk => by
    have e := (eqB_iff f zB).1 h (k / 8) (by omega)
    have hb : bit f k = false := by unfold bit; rw [e]; simp [zB]
    rw [onesTo_no f k hb]; exact onesTo_zero f h k (by omega)

/-- The numbers that a loop's body is handed. -/
abbrev encN (x : Nat) : Array Value := #[.int .i64 (x : Int)]

theorem run_yield_nil (l : Nat) (w : World) : (binOp .eql 41 (.func (.yield l) #[] #[]) .nilFunc).run Try.prog w = .ok (.bool false) w := by kernel_rfl
theorem run_seq_nil (B : Nat) (w : World) : (binOp .eql 25 (.func (.func 23) #[] #[.pointer (some ⟨B, 0, none⟩)]) .nilFunc).run Try.prog w = .ok (.bool false) w := by kernel_rfl

section
variable {F : Fence} {n : Nat} {ops : Array Oper} {rest : List Oper} {o : Oper} {a : Act} {w : World} {Q : Exit → Act → World → Prop}

/-- A whole block loaded, inside a fence. -/
theorem wpListIn_load_block (hgd : Region.wanted o (yielded ops a.tmps) = true) (x : Operand) (ho : o.op = .load 23 x) (g : Nat) (hx : a.eval x = .pointer (some ⟨g, 0, none⟩)) (f : Nat → Nat)
    (hg : w.heap[g]? = some (.cells (bc f) 23)) (h : wpListIn F n Try.prog ops Q rest (a.put o.dst (.agg (bc f))) w) : wpListIn F n Try.prog ops Q (o :: rest) a w := by
  unfold wpListIn
  rw [if_pos hgd]
  refine ⟨fun f' hf' => ?_, ?_⟩
  · simp [Oper.about, ho] at hf'
  · rw [Oper.semAt_eq _ _ _ (fun c => by rw [ho]; exact fun e => by cases e)]
    simp only [execOp, ho, hx, Instr.loadAt, Instr.sureAddr, Sem.run_bind, Sem.run_pure, Result.andThen_ok, run_loadVar_row w g 23 23 (bc f) (0, 0) _ hg Try.underlying23 rfl (by rw [bc_size]; exact info23)]
    exact h

/-- The block of noughts built, inside a fence. -/
theorem wpListIn_build0 (hgd : Region.wanted o (yielded ops a.tmps) = true) (ho : o.op = .build 23 #[])
    (h : wpListIn F n Try.prog ops Q rest (a.put o.dst (.agg (bc zB))) w) : wpListIn F n Try.prog ops Q (o :: rest) a w := by
  unfold wpListIn
  rw [if_pos hgd]
  refine ⟨fun f' hf' => ?_, ?_⟩
  · simp [Oper.about, ho] at hf'
  · rw [Oper.semAt_eq _ _ _ (fun c => by rw [ho]; exact fun e => by cases e)]
    simp only [execOp, ho, Array.map_empty, Sem.run_bind, run_build0, Result.andThen_ok, Sem.run_pure]
    exact h
end

set_option maxRecDepth 100000 in
set_option maxHeartbeats 4000000 in
theorem all1_in (f : Nat → Nat) (hf : Bytes f) (n : Nat) (hn : 1 ≤ n) (l B n₀ : Nat) (hB : B < n₀) (J Jx : List Nat → World → Prop)
    (hY : ∀ pre x W, J pre W → pre.length < 2049 → YieldAt Fence.wide (n - 1) Try.prog l (encN x) W fun e W' =>
      (e = .returned (.bool true) ∧ J (pre ++ [x]) W' ∧ Below n₀ W W') ∨ (e = .returned (.bool false) ∧ Jx (pre ++ [x]) W'))
    (hJd : ∀ pre W, J pre W → J pre W.drew)
    (W : World) (hb : W.heap[B]? = some (.cells (bc f) 23)) (h0 : J [] W) (hz : eqB f zB = false) :
    CallsIn Fence.wide n Try.prog 23 #[.func (.yield l) #[] #[], .pointer (some ⟨B, 0, none⟩)] W fun e W' => (∃ v, e = .returned v) ∧
      ((∃ ys, ys = onesTo f 2048 ∧ J ys W') ∨ (∃ pre, pre <+: onesTo f 2048 ∧ Jx pre W')) := by
  have HF := Lib.hid hf
  have HG := Lib.hid hb
  clear hf hb
  have hyn := run_yield_nil l
  refine callsIn_of_wp Try.func23 rfl trivial ?_ rfl
  simp only [Try.ntmps23, List.size_toArray, List.length_cons, List.length_nil, Nat.reduceAdd, Nat.reduceSub, Array.replicate_succ, Array.replicate_zero, List.push_toArray, List.append_toArray, List.nil_append, List.cons_append]
  gi_wp2_with (first | (refine wpListIn_load_block rfl _ rfl B rfl f HG.out ?_) | (refine wpListIn_build0 rfl rfl ?_))
  gi_loopw [11] (fun v wr => ∃ k : Nat, v = .int .i64 k ∧ k ≤ 2048 ∧ J (onesTo f k) wr ∧ wr.heap[B]? = some (.cells (bc f) 23)) (fun v _ => (2048 - intOf v).toNat)
  case atStart => exact ⟨0, rfl, by omega, h0, HG.out⟩
  case round =>
    obtain ⟨k, rfl, hk, hJ, hbx⟩ := hrel
    have HJ := Lib.hid hJ
    have HX := Lib.hid hbx
    clear hJ hbx
    by_cases hlt : k < 2048
    · have hl3 : (k : Int) < 2048 := by omega
      have hc : wr.cell? ⟨B, k / 8, none⟩ = some (.int .u8 (f (k / 8))) := by rw [cell_of_row _ _ _ _ _ _ HX.out]; exact bc_get f _ (by omega)
      have HU := Lib.hid (u8_bit f HF.out k)
      have hq : IntKind.i64.wrap ((k : Int) / 8) = (k : Int) / 8 := IntWalk.i64_in _ (by omega)
      have hq0 : 0 ≤ (k : Int) / 8 := by omega
      have hq1 : (k : Int) / 8 < 256 := by omega
      have hqt : ((k : Int) / 8).toNat = k / 8 := by omega
      gi_wp2
      refine wpIn_region_any (by kernel_rfl) ?_
      refine wpAnyIn_take (i := 0) (v := .int .i64 k) rfl rfl (by kernel_rfl) (by kernel_rfl) (by kernel_rfl) (fun _ _ _ h => h) ⟨.inl ⟨by rfl, fun w => rfl⟩, fun w => rfl⟩ ?_
      refine wpAnyIn_take (i := 1) (v := .int .i64 ((k : Int) / 8)) rfl rfl (by kernel_rfl) (by kernel_rfl) (by kernel_rfl) (fun _ _ _ h => h) ⟨.inl ⟨by rfl, fun w => by go_simp⟩, fun w => rfl⟩ ?_
      refine wpAnyIn_take (i := 2) (v := .pointer (some ⟨B, k / 8, none⟩)) rfl rfl (by kernel_rfl) (by kernel_rfl) (by kernel_rfl) (fun _ _ _ h => h) ⟨.inl ⟨by rfl, fun w => by go_simp⟩, fun w => rfl⟩ ?_
      refine wpAnyIn_take (i := 4) (v := .int .i64 k) rfl rfl (by kernel_rfl) (by kernel_rfl) (by kernel_rfl) (fun _ _ _ h => h) ⟨.inl ⟨by rfl, fun w => rfl⟩, fun w => rfl⟩ ?_
      obtain ⟨W0, hW0⟩ : ∃ W0 : World, W0 = { wr with drawn := wr.drawn + 1 } := ⟨_, rfl⟩
      rw [← hW0]
      have hc0 : W0.cell? ⟨B, k / 8, none⟩ = some (.int .u8 (f (k / 8))) := by rw [hW0]; exact hc
      have HJ0 : Hid (J (onesTo f k) W0) := by rw [hW0]; exact Lib.hid (hJd _ _ HJ.out)
      have HX0 : Hid (W0.heap[B]? = some (.cells (bc f) 23)) := by rw [hW0]; exact HX
      clear hc hq hqt hW0 HJ HX
      refine wpAnyIn_all (rs := [3, 5]) (by kernel_rfl) (by simp) ?_
      intro j hj
      simp only [List.mem_cons, List.not_mem_nil, or_false] at hj
      rcases hj with rfl | rfl
      · refine wpOpIn_step rfl fun K' hK => ?_
        go_simp
        refine hK _ _ ?_
        clear hK
        refine wpAnyIn_all (rs := [5]) (by kernel_rfl) (by simp) ?_
        intro j hj
        obtain rfl : j = 5 := by simpa using hj
        refine wpOpIn_step rfl fun K' hK => ?_
        go_simp
        refine ⟨trivial, ?_⟩
        refine (callsIn_wide.2 (mask_any k _ (by omega))).mono ?_
        rintro e w' ⟨rfl, hw'⟩
        rw [hw']
        clear hw' w'
        refine hK _ _ ?_
        clear hK
        refine wpAnyIn_take (i := 6) (v := .int .u8 (bits .and .u8 (f (k / 8) : Int) (mk k))) rfl rfl (by kernel_rfl) (by kernel_rfl) (by kernel_rfl) (fun _ _ _ h => h) ⟨.inl ⟨by rfl, fun w => by go_simp⟩, fun w => rfl⟩ ?_
        have hu := HU.out
        refine wpAnyIn_take (i := 7) (v := .bool (bit f k)) rfl rfl (by kernel_rfl) (by kernel_rfl) (by kernel_rfl) (fun _ _ _ h => h) ⟨.inl ⟨by rfl, fun w => by go_simp⟩, fun w => rfl⟩ ?_
        refine wpAnyIn_take (i := 8) (v := .bool (bit f k)) rfl rfl (by kernel_rfl) (by kernel_rfl) (by kernel_rfl) (fun _ _ _ h => h) ⟨.inl ⟨by rfl, fun w => rfl⟩, fun w => rfl⟩ ?_
        clear hu
        simp only [List.getElem_toArray, List.getElem_cons_succ, List.getElem_cons_zero, Act.put, List.setIfInBounds_toArray, List.set_cons_succ, List.set_cons_zero]
        cases hbit : bit f k with
        | false =>
          refine wpAnyIn_take (i := 9) (v := undef) rfl rfl (by kernel_rfl) (by kernel_rfl) (by kernel_rfl) (fun _ _ _ h => h) ⟨.inr ⟨by rfl, rfl⟩, fun w => rfl⟩ ?_
          refine wpAnyIn_take (i := 10) (v := undef) rfl rfl (by kernel_rfl) (by kernel_rfl) (by kernel_rfl) (fun _ _ _ h => h) ⟨.inr ⟨by rfl, rfl⟩, fun w => rfl⟩ ?_
          refine wpAnyIn_take (i := 11) (v := undef) rfl rfl (by kernel_rfl) (by kernel_rfl) (by kernel_rfl) (fun _ _ _ h => h) ⟨.inr ⟨by rfl, rfl⟩, fun w => rfl⟩ ?_
          refine wpAnyIn_take (i := 12) (v := undef) rfl rfl (by kernel_rfl) (by kernel_rfl) (by kernel_rfl) (fun _ _ _ h => h) ⟨.inr ⟨by rfl, rfl⟩, fun w => rfl⟩ ?_
          refine wpAnyIn_take (i := 13) (v := .bool false) rfl rfl (by kernel_rfl) (by kernel_rfl) (by kernel_rfl) (fun _ _ _ h => h) ⟨.inl ⟨by rfl, fun w => by go_simp⟩, fun w => rfl⟩ ?_
          refine wpAnyIn_done (by kernel_rfl) ?_ _
          go_simp
          gi_wp2
          go_roundw
          case rel => exact ⟨k + 1, by go_num, by omega, by rw [onesTo_no f k hbit]; exact HJ0.out, HX0.out⟩
          case measure => simp [intOf]; omega
        | true =>
          refine wpAnyIn_take (i := 9) (v := .func (.yield l) #[] #[]) rfl rfl (by kernel_rfl) (by kernel_rfl) (by kernel_rfl) (fun _ _ _ h => h) ⟨.inl ⟨by rfl, fun w => rfl⟩, fun w => rfl⟩ ?_
          refine wpAnyIn_take (i := 10) (v := .int .i64 k) rfl rfl (by kernel_rfl) (by kernel_rfl) (by kernel_rfl) (fun _ _ _ h => h) ⟨.inl ⟨by rfl, fun w => rfl⟩, fun w => rfl⟩ ?_
          refine wpAnyIn_all (rs := [11]) (by kernel_rfl) (by simp) ?_
          intro j hj
          obtain rfl : j = 11 := by simpa using hj
          obtain ⟨fn, tmps, assign, body, hy, hR⟩ := hY (onesTo f k) k W0 HJ0.out (by have := onesTo_len f k; omega)
          refine wpOpIn_step rfl fun K' hK => ?_
          go_simp
          refine hR.mono ?_
          rintro e W3 (⟨rfl, hJ3, hk3⟩ | ⟨rfl, hJx3⟩)
          · refine hK _ _ ?_
            clear hK hY
            refine wpAnyIn_take (i := 12) (v := .bool false) rfl rfl (by kernel_rfl) (by kernel_rfl) (by kernel_rfl) (fun _ _ _ h => h) ⟨.inl ⟨by rfl, fun w => by go_simp⟩, fun w => rfl⟩ ?_
            refine wpAnyIn_take (i := 13) (v := .bool false) rfl rfl (by kernel_rfl) (by kernel_rfl) (by kernel_rfl) (fun _ _ _ h => h) ⟨.inl ⟨by rfl, fun w => by go_simp⟩, fun w => rfl⟩ ?_
            refine wpAnyIn_done (by kernel_rfl) ?_ _
            go_simp
            gi_wp2
            go_roundw
            case rel => exact ⟨k + 1, by go_num, by omega, by rw [onesTo_yes f k hbit]; exact hJ3, (hk3.block B hB).trans HX0.out⟩
            case measure => simp [intOf]; omega
          · refine hK _ _ ?_
            clear hK hY
            refine wpAnyIn_take (i := 12) (v := .bool true) rfl rfl (by kernel_rfl) (by kernel_rfl) (by kernel_rfl) (fun _ _ _ h => h) ⟨.inl ⟨by rfl, fun w => by go_simp⟩, fun w => rfl⟩ ?_
            refine wpAnyIn_take (i := 13) (v := .bool true) rfl rfl (by kernel_rfl) (by kernel_rfl) (by kernel_rfl) (fun _ _ _ h => h) ⟨.inl ⟨by rfl, fun w => by go_simp⟩, fun w => rfl⟩ ?_
            refine wpAnyIn_done (by kernel_rfl) ?_ _
            go_simp
            gi_wp2
            refine bodyPost_ret (results_none rfl _ _ _) rfl ?_
            exact ⟨⟨_, rfl⟩, .inr ⟨onesTo f k ++ [k], by rw [← onesTo_yes f k hbit]; exact onesTo_prefix f (by omega), hJx3⟩⟩
      · refine wpOpIn_step rfl fun K' hK => ?_
        go_simp
        refine ⟨trivial, ?_⟩
        refine (callsIn_wide.2 (mask_any k _ (by omega))).mono ?_
        rintro e w' ⟨rfl, hw'⟩
        rw [hw']
        clear hw' w'
        refine hK _ _ ?_
        clear hK
        refine wpAnyIn_all (rs := [3]) (by kernel_rfl) (by simp) ?_
        intro j hj
        obtain rfl : j = 3 := by simpa using hj
        refine wpOpIn_step rfl fun K' hK => ?_
        go_simp
        refine hK _ _ ?_
        clear hK
        refine wpAnyIn_take (i := 6) (v := .int .u8 (bits .and .u8 (f (k / 8) : Int) (mk k))) rfl rfl (by kernel_rfl) (by kernel_rfl) (by kernel_rfl) (fun _ _ _ h => h) ⟨.inl ⟨by rfl, fun w => by go_simp⟩, fun w => rfl⟩ ?_
        have hu := HU.out
        refine wpAnyIn_take (i := 7) (v := .bool (bit f k)) rfl rfl (by kernel_rfl) (by kernel_rfl) (by kernel_rfl) (fun _ _ _ h => h) ⟨.inl ⟨by rfl, fun w => by go_simp⟩, fun w => rfl⟩ ?_
        refine wpAnyIn_take (i := 8) (v := .bool (bit f k)) rfl rfl (by kernel_rfl) (by kernel_rfl) (by kernel_rfl) (fun _ _ _ h => h) ⟨.inl ⟨by rfl, fun w => rfl⟩, fun w => rfl⟩ ?_
        clear hu
        simp only [List.getElem_toArray, List.getElem_cons_succ, List.getElem_cons_zero, Act.put, List.setIfInBounds_toArray, List.set_cons_succ, List.set_cons_zero]
        cases hbit : bit f k with
        | false =>
          refine wpAnyIn_take (i := 9) (v := undef) rfl rfl (by kernel_rfl) (by kernel_rfl) (by kernel_rfl) (fun _ _ _ h => h) ⟨.inr ⟨by rfl, rfl⟩, fun w => rfl⟩ ?_
          refine wpAnyIn_take (i := 10) (v := undef) rfl rfl (by kernel_rfl) (by kernel_rfl) (by kernel_rfl) (fun _ _ _ h => h) ⟨.inr ⟨by rfl, rfl⟩, fun w => rfl⟩ ?_
          refine wpAnyIn_take (i := 11) (v := undef) rfl rfl (by kernel_rfl) (by kernel_rfl) (by kernel_rfl) (fun _ _ _ h => h) ⟨.inr ⟨by rfl, rfl⟩, fun w => rfl⟩ ?_
          refine wpAnyIn_take (i := 12) (v := undef) rfl rfl (by kernel_rfl) (by kernel_rfl) (by kernel_rfl) (fun _ _ _ h => h) ⟨.inr ⟨by rfl, rfl⟩, fun w => rfl⟩ ?_
          refine wpAnyIn_take (i := 13) (v := .bool false) rfl rfl (by kernel_rfl) (by kernel_rfl) (by kernel_rfl) (fun _ _ _ h => h) ⟨.inl ⟨by rfl, fun w => by go_simp⟩, fun w => rfl⟩ ?_
          refine wpAnyIn_done (by kernel_rfl) ?_ _
          go_simp
          gi_wp2
          go_roundw
          case rel => exact ⟨k + 1, by go_num, by omega, by rw [onesTo_no f k hbit]; exact HJ0.out, HX0.out⟩
          case measure => simp [intOf]; omega
        | true =>
          refine wpAnyIn_take (i := 9) (v := .func (.yield l) #[] #[]) rfl rfl (by kernel_rfl) (by kernel_rfl) (by kernel_rfl) (fun _ _ _ h => h) ⟨.inl ⟨by rfl, fun w => rfl⟩, fun w => rfl⟩ ?_
          refine wpAnyIn_take (i := 10) (v := .int .i64 k) rfl rfl (by kernel_rfl) (by kernel_rfl) (by kernel_rfl) (fun _ _ _ h => h) ⟨.inl ⟨by rfl, fun w => rfl⟩, fun w => rfl⟩ ?_
          refine wpAnyIn_all (rs := [11]) (by kernel_rfl) (by simp) ?_
          intro j hj
          obtain rfl : j = 11 := by simpa using hj
          obtain ⟨fn, tmps, assign, body, hy, hR⟩ := hY (onesTo f k) k W0 HJ0.out (by have := onesTo_len f k; omega)
          refine wpOpIn_step rfl fun K' hK => ?_
          go_simp
          refine hR.mono ?_
          rintro e W3 (⟨rfl, hJ3, hk3⟩ | ⟨rfl, hJx3⟩)
          · refine hK _ _ ?_
            clear hK hY
            refine wpAnyIn_take (i := 12) (v := .bool false) rfl rfl (by kernel_rfl) (by kernel_rfl) (by kernel_rfl) (fun _ _ _ h => h) ⟨.inl ⟨by rfl, fun w => by go_simp⟩, fun w => rfl⟩ ?_
            refine wpAnyIn_take (i := 13) (v := .bool false) rfl rfl (by kernel_rfl) (by kernel_rfl) (by kernel_rfl) (fun _ _ _ h => h) ⟨.inl ⟨by rfl, fun w => by go_simp⟩, fun w => rfl⟩ ?_
            refine wpAnyIn_done (by kernel_rfl) ?_ _
            go_simp
            gi_wp2
            go_roundw
            case rel => exact ⟨k + 1, by go_num, by omega, by rw [onesTo_yes f k hbit]; exact hJ3, (hk3.block B hB).trans HX0.out⟩
            case measure => simp [intOf]; omega
          · refine hK _ _ ?_
            clear hK hY
            refine wpAnyIn_take (i := 12) (v := .bool true) rfl rfl (by kernel_rfl) (by kernel_rfl) (by kernel_rfl) (fun _ _ _ h => h) ⟨.inl ⟨by rfl, fun w => by go_simp⟩, fun w => rfl⟩ ?_
            refine wpAnyIn_take (i := 13) (v := .bool true) rfl rfl (by kernel_rfl) (by kernel_rfl) (by kernel_rfl) (fun _ _ _ h => h) ⟨.inl ⟨by rfl, fun w => by go_simp⟩, fun w => rfl⟩ ?_
            refine wpAnyIn_done (by kernel_rfl) ?_ _
            go_simp
            gi_wp2
            refine bodyPost_ret (results_none rfl _ _ _) rfl ?_
            exact ⟨⟨_, rfl⟩, .inr ⟨onesTo f k ++ [k], by rw [← onesTo_yes f k hbit]; exact onesTo_prefix f (by omega), hJx3⟩⟩
    · obtain rfl : k = 2048 := by omega
      gi_wp2
      go_end0
      exact ⟨⟨_, rfl⟩, .inl ⟨_, rfl, HJ.out⟩⟩

set_option maxRecDepth 100000 in
set_option maxHeartbeats 1000000 in
theorem all1_zero (f : Nat → Nat) (n : Nat) (l B : Nat) (W : World) (hb : W.heap[B]? = some (.cells (bc f) 23)) (hz : eqB f zB = true) :
    CallsIn Fence.wide n Try.prog 23 #[.func (.yield l) #[] #[], .pointer (some ⟨B, 0, none⟩)] W fun e W' => (∃ v, e = .returned v) ∧ W' = W := by
  have HG := Lib.hid hb
  clear hb
  have hyn := run_yield_nil l
  refine callsIn_of_wp Try.func23 rfl trivial ?_ rfl
  simp only [Try.ntmps23, List.size_toArray, List.length_cons, List.length_nil, Nat.reduceAdd, Nat.reduceSub, Array.replicate_succ, Array.replicate_zero, List.push_toArray, List.append_toArray, List.nil_append, List.cons_append]
  gi_wp2_with (first | (refine wpListIn_load_block rfl _ rfl B rfl f HG.out ?_) | (refine wpListIn_build0 rfl rfl ?_))
  refine bodyPost_ret (results_none rfl _ _ _) rfl ?_
  exact ⟨⟨_, rfl⟩, rfl⟩

/-- The function that All returns has its contract: the set bits, rising; it stops where a round says 'no more'. -/
theorem all_stops (f : Nat → Nat) (hf : Bytes f) (n : Nat) (hn : 1 ≤ n) (B n₀ : Nat) (hB : B < n₀) (w : World) (hb : w.heap[B]? = some (.cells (bc f) 23)) :
    SeqStopsK Fence.wide n Try.prog 23 #[.pointer (some ⟨B, 0, none⟩)] encN (Below n₀) (fun xs => xs = onesTo f 2048) (fun pre => pre <+: onesTo f 2048) 2049 w := by
  intro l J Jx W hW hJ hJx hY h0
  have hbW : W.heap[B]? = some (.cells (bc f) 23) := (hW.block B (Array.getElem?_eq_some_iff.1 hb).1).trans hb
  cases hz : eqB f zB with
  | true =>
    refine (all1_zero f n l B W hbW hz).mono ?_
    rintro e W' ⟨hv, rfl⟩
    exact ⟨hv, .inl ⟨[], (onesTo_zero f hz 2048 (Nat.le_refl _)).symm, h0⟩⟩
  | false =>
    exact all1_in f hf n hn l B n₀ hB J Jx hY (fun pre W1 h => hJ pre W1 W1.drew none h ⟨rfl, rfl, rfl, Nat.le_refl _, fun _ _ _ => rfl⟩ (fun r e => by cases e)) W hbW h0 hz

set_option maxHeartbeats 400000 in
/-- All: the function that goes over the set bits of its own copy of the block. -/
theorem all_any (f : Nat → Nat) (w : World) :
    Calls Try.prog 11 #[.agg (bc f)] w fun e w' => e = .returned (.func (.func 23) #[] #[.pointer (some ⟨w.heap.size, 0, none⟩)]) ∧ w' = w.alloc (.cells (bc f) 23) := by
  go_enter Try.func11, Try.ntmps11
  go_wp2
  go_ret
  exact ⟨rfl, rfl⟩

end Go.Proofs.Ytiajohnnmnoijaa
