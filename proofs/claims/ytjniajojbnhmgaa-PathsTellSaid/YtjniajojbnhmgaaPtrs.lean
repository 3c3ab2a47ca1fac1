/-
  The contract of the function that pointers returns: it hands the pointers 0 .. 10, each with its first index, to any loop body, as far as the body goes.
  Conditions: none.
-/
import Derived.Test.YtjniajojbnhmgaaBase
import Derived.Test.YtjniajojbnhmgaaRound
import Derived.RangeFuncNested
import Derived.RangeFuncBound
import Derived.RangeFuncCalls
import Derived.RangeFuncLeaves
import Derived.Shelf.Abstract
import Derived.Shelf.RegionOpen
import Derived.OwnWalkIn
import Derived.TacticsInMore
import Derived.LoopNIn
import Derived.LoopIn
namespace Go.Proofs.Ytjniajojbnhmgaa
open Go.RowKit Go.Shelf
attribute [local go_sem] Oper.semAt_some
set_option linter.unusedVariables false

/-- What a loop's body is handed: a pointer's number and its first index. -/
abbrev encP (x : Nat) : Array Value := #[.int .i64 (x : Int), .int .i64 (fst x)]

theorem range_prefix {a b : Nat} (h : a ≤ b) : List.range a <+: List.range b := by
  obtain ⟨d, rfl⟩ := Nat.exists_eq_add_of_le h
  rw [List.range_add]
  exact List.prefix_append _ _

set_option maxRecDepth 100000 in
set_option maxHeartbeats 4000000 in
theorem ptr1_in (n : Nat) (hn : 1 ≤ n) (l n₀ : Nat) (J Jx : List Nat → World → Prop)
    (hY : ∀ pre x W, J pre W → pre.length < 12 → YieldAt Fence.wide (n - 1) Try.prog l (encP x) W fun e W' =>
      (e = .returned (.bool true) ∧ J (pre ++ [x]) W' ∧ Below n₀ W W') ∨ (e = .returned (.bool false) ∧ Jx (pre ++ [x]) W'))
    (W : World) (h0 : J [] W) :
    CallsIn Fence.wide n Try.prog 31 #[.func (.yield l) #[] #[]] W fun e W' => (∃ v, e = .returned v) ∧
      ((∃ ys, ys = List.range 11 ∧ J ys W') ∨ (∃ pre, pre <+: List.range 11 ∧ Jx pre W')) := by
  refine callsIn_of_wp Try.func31 rfl trivial ?_ rfl
  simp only [Try.ntmps31, List.size_toArray, List.length_cons, List.length_nil, Nat.reduceAdd, Nat.reduceSub, Array.replicate_succ, Array.replicate_zero, List.push_toArray, List.append_toArray, List.nil_append, List.cons_append]
  gi_wp2
  gi_loopw [2, 4] (fun s v wr => ∃ k : Nat, v = .int .i64 k ∧ s = .int .i64 (fst k) ∧ k ≤ 11 ∧ J (List.range k) wr) (fun _ v _ => (11 - intOf v).toNat)
  case atStart => exact ⟨0, rfl, rfl, by omega, h0⟩
  case round =>
    obtain ⟨k, rfl, rfl, hk, hJ⟩ := hrel
    have HJ := Lib.hid hJ
    clear hJ
    by_cases hlt : k < 11
    · have hl3 : (k : Int) < 11 := by omega
      have HF := Lib.hid (fst_succ k (by omega))
      have hfl := fst_le k
      have hsb := spn_bd (lev k)
      have HP : Hid (List.range k ++ [k] <+: List.range 11) := Lib.hid (by rw [← List.range_succ]; exact range_prefix (by omega))
      obtain ⟨fn, tmps, assign, body, hy, hR⟩ := hY (List.range k) k wr HJ.out (by simp; omega)
      gi_wp2
      refine hR.mono ?_
      rintro e W3 (⟨rfl, hJ3, hk3⟩ | ⟨rfl, hJx3⟩)
      · clear hY hR hy
        generalize fst k = y at HF hfl
        gi_wp2_with (first | (refine ⟨trivial, ?_⟩; gi_at_call 18; refine (callsIn_wide.2 (level_any _ _)).mono ?_; rintro e w1 ⟨rfl, hw1⟩; rw [hw1]; clear hw1) | (refine ⟨trivial, ?_⟩; gi_at_call 20; refine (callsIn_wide.2 (span_any _ _)).mono ?_; rintro e w2 ⟨rfl, hw2⟩; rw [hw2]; clear hw2))
        go_roundw
        case rel => exact ⟨k + 1, by go_num, by rw [HF.out], by omega, by rw [List.range_succ]; exact hJ3⟩
        case measure => simp [intOf]; omega
      · clear hY hR hy
        gi_wp2
        refine bodyPost_ret (results_none rfl _ _ _) rfl ?_
        exact ⟨⟨_, rfl⟩, .inr ⟨List.range k ++ [k], HP.out, hJx3⟩⟩
    · obtain rfl : k = 11 := by omega
      gi_wp2
      go_end0
      exact ⟨⟨_, rfl⟩, .inl ⟨_, rfl, HJ.out⟩⟩

/-- The function that pointers returns has its contract; it stops where a round says 'no more'. -/
theorem ptr_stops (n : Nat) (hn : 1 ≤ n) (n₀ : Nat) (w : World) :
    SeqStopsK Fence.wide n Try.prog 31 #[] encP (Below n₀) (fun xs => xs = List.range 11) (fun pre => pre <+: List.range 11) 12 w := by
  intro l J Jx W hW hJ hJx hY h0
  exact ptr1_in n hn l n₀ J Jx hY W h0

set_option maxHeartbeats 400000 in
theorem ptrs_any (w : World) : Calls Try.prog 29 #[] w fun e w' => e = .returned (.func (.func 31) #[] #[]) ∧ w' = w := by
  go_enter Try.func29, Try.ntmps29
  go_wp2
  go_ret
  exact ⟨rfl, rfl⟩
end Go.Proofs.Ytjniajojbnhmgaa
