/-
  The walk of quernlaw04.BitsTell: it returns true, of any block and numbers, and changes nothing that was there.
  Conditions: none.
-/
import Derived.Test.YtiajohnnmnoijaaQuiet
namespace Go.Proofs.Ytiajohnnmnoijaa
open Go.RowKit Go.Sort

set_option maxRecDepth 100000 in
set_option maxHeartbeats 1000000 in
theorem tell_walk (f : Nat → Nat) (hf : Bytes f) (i lo hi : Int) (w : World) :
    Calls Try.prog 5 #[.agg (bc f), .int .i64 i, .int .i64 lo, .int .i64 hi] w fun e w' => e = .returned (.bool true) ∧ Below w.heap.size w w' := by
  have HG := Lib.hid (heap_alloc_new w (.cells (bc f) 23))
  have HF := Lib.hid hf
  clear hf
  have HB := Lib.hid (Boxes.mk1 f w).below
  go_enter Try.func5, Try.ntmps5
  go_wp2
  refine wp_region_quiet_below (by kernel_rfl) (by kernel_rfl) ?_
  repeat (first | (refine wpQuiet_load_block rfl _ rfl w.heap.size rfl f HG.out ?_) | quiet_step (first | (go_at_call 17; exact Calls.regrown_of (has_any f HF.out _ _)) | (go_at_call 18; exact Calls.regrown_of (rhas_any f HF.out _ _)) | (go_at_call 19; exact Calls.regrown_of (first_any f HF.out _ _ _)) | (go_at_call 20; exact Calls.regrown_of (rfirst_any f HF.out _ _ _)) | (go_at_call 21; exact Calls.regrown_of (count_any f HF.out _ _)) | (go_at_call 13; exact Calls.regrown_of (rcount_any f HF.out _ _))))
  refine wpQuiet_nil ?_
  rintro _ ⟨p, rfl⟩
  go_wp2
  go_ret
  exact ⟨rfl, HB.out.trans ((below_regrown _ _ _).mono (by simp))⟩

end Go.Proofs.Ytiajohnnmnoijaa
