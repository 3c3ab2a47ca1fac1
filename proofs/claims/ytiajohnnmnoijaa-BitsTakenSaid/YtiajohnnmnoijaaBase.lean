/-
  The contracts of bits.mask, bits.is and bits.Has: what each returns of any block and number, and that it changes nothing that was there.
  Conditions: mask is asked at a number that is not negative.
-/
import Derived.Test.YtiajohnnmnoijaaRows
import Derived.Test.YtiajohnnmnoijaaMath
import Derived.WalkKit
import Derived.WalkSpells
import Derived.WalkLawsBesides
import Derived.Deep.QuietTactic
import Derived.BigQuiet
import Derived.Lib.Hide
namespace Go.Proofs.Ytiajohnnmnoijaa
open Go.RowKit

/-- The cells of a block: 256 bytes. -/
def bc (f : Nat → Nat) : Array Value := ((List.range 256).map fun i => Value.int .u8 (f i)).toArray

theorem bc_size (f : Nat → Nat) : (bc f).size = 256 := by simp [bc]
theorem bc_get (f : Nat → Nat) (j : Nat) (h : j < 256) : (bc f)[j]? = some (.int .u8 (f j)) := by simp [bc, h]

theorem ret_int {k : IntKind} {a b : Int} (h : a = b) : Ending.returned (.int k a) = .returned (.int k b) := by rw [h]
theorem ret_bool {a b : Bool} (h : a = b) : Ending.returned (.bool a) = .returned (.bool b) := by rw [h]

/-- The bit i in its byte. -/
def mk (i : Nat) : Int := ((2 ^ (i % 8) : Nat) : Int)

theorem pow_mod (i : Nat) : (2 : Int) ^ (i % 8) % 256 = mk i := by
  unfold mk
  have := pow_lt i
  rw [Int.natCast_pow]
  have h2 : ((2 ^ (i % 8) : Nat) : Int) < 256 := by omega
  rw [Int.natCast_pow] at h2
  exact Int.emod_eq_of_lt (Int.pow_nonneg (by decide)) h2

set_option maxHeartbeats 400000 in
theorem mask_any (i : Nat) (w : World) (h : i ≤ 9223372036854775807) :
    Calls Try.prog 24 #[.int .i64 i] w fun e w' => e = .returned (.int .u8 (mk i)) ∧ w' = w := by
  go_enter Try.func24, Try.ntmps24
  go_wp2
  go_ret
  exact ⟨ret_int (pow_mod i), rfl⟩

/-- Is there a bit of that number? -/
def isB (i : Int) : Bool := decide (0 ≤ i) && decide (i < 2048)

set_option maxHeartbeats 400000 in
theorem is_any (i : Int) (w : World) :
    Calls Try.prog 25 #[.int .i64 i] w fun e w' => e = .returned (.bool (isB i)) ∧ w' = w := by
  go_enter Try.func25, Try.ntmps25
  go_wp2
  · go_ret
    refine ⟨ret_bool ?_, rfl⟩
    simp [isB, *]
  · go_ret
    refine ⟨ret_bool ?_, rfl⟩
    rename_i h
    unfold isB; rw [decide_eq_false (by omega)]; rfl

theorem is_yes (i : Int) (w : World) (h : isB i = true) :
    Calls Try.prog 25 #[.int .i64 i] w fun e w' => e = .returned (.bool true) ∧ w' = w := by rw [← h]; exact is_any i w
theorem is_no (i : Int) (w : World) (h : isB i = false) :
    Calls Try.prog 25 #[.int .i64 i] w fun e w' => e = .returned (.bool false) ∧ w' = w := by rw [← h]; exact is_any i w

/-- A cell of a new block. -/
theorem cell_bc (w : World) (f : Nat → Nat) (t : TypeId) (j : Nat) (h : j < 256) : (w.alloc (.cells (bc f) t)).cell? ⟨w.heap.size, j, none⟩ = some (.int .u8 (f j)) := by
  rw [cell_of_row _ _ _ _ _ _ (heap_alloc_new w _)]
  exact bc_get f j h

theorem mk_bd (n : Nat) : 0 ≤ mk n ∧ mk n < 256 := ⟨Int.natCast_nonneg _, Int.ofNat_lt.2 (pow_lt n)⟩

theorem u8_bit (f : Nat → Nat) (hf : Bytes f) (n : Nat) : (bits .and .u8 (f (n / 8) : Int) (mk n) != 0) = bit f n := by
  unfold mk
  rw [u8_and_nat _ _ (hf _) (pow_lt n), bit_test, ← and_pow_ne]
  simp only [bne]
  congr 1
  rw [Bool.eq_iff_iff]; simp only [beq_iff_eq]; omega

theorem u8_bit0 (f : Nat → Nat) (hf : Bytes f) (n : Nat) : (bits .and .u8 (f (n / 8) : Int) (mk n) == 0) = !bit f n := by
  rw [← u8_bit f hf n]; simp [bne]

set_option maxHeartbeats 400000 in
theorem has_yes (f : Nat → Nat) (hf : Bytes f) (n : Nat) (w : World) (h : n < 2048) :
    Calls Try.prog 17 #[.agg (bc f), .int .i64 n] w fun e w' => e = .returned (.bool (bit f n)) ∧ ∃ k, w' = (w.alloc (.cells (bc f) 23)).drewN k := by
  have hc := cell_bc w f 23 (n / 8) (by omega)
  have hi : isB n = true := by unfold isB; simp; omega
  have HB := Lib.hid (u8_bit f hf n)
  have hlt : (n : Int) < 2048 := by omega
  have h8 : (n : Int) / 8 < 256 := by omega
  clear hf
  go_enter Try.func17, Try.ntmps17
  go_wp2
  go_quiet (first | (go_at_call 25; exact Calls.quiet_of_same (is_yes _ _ hi)) | (go_at_call 24; exact Calls.quiet_of_same (mask_any _ _ (by omega))))
  go_wp2
  go_ret
  exact ⟨ret_bool HB.out, _, rfl⟩

set_option maxHeartbeats 400000 in
theorem has_no (f : Nat → Nat) (i : Int) (w : World) (hi : isB i = false) :
    Calls Try.prog 17 #[.agg (bc f), .int .i64 i] w fun e w' => e = .returned (.bool false) ∧ ∃ k, w' = (w.alloc (.cells (bc f) 23)).drewN k := by
  go_enter Try.func17, Try.ntmps17
  go_wp2
  go_quiet (first | (go_at_call 25; exact Calls.quiet_of_same (is_no _ _ hi)))
  go_wp2
  go_ret
  exact ⟨rfl, _, rfl⟩

theorem below_alloc_drewN (w : World) (o : Obj) (k : Nat) : Below w.heap.size w ((w.alloc o).drewN k) := by
  have h : Below w.heap.size w (w.alloc o) := (Below.refl _ _).alloc (Nat.le_refl _) _
  exact ⟨h.os, h.tape, h.output, h.size, h.block⟩

theorem hasB_nat (f : Nat → Nat) (n : Nat) (h : n < 2048) : hasB f n = bit f n := by
  unfold hasB; have : (n : Int) < 2048 := by omega
  simp [this]
theorem isB_cases (i : Int) : isB i = false ∨ ∃ n : Nat, n < 2048 ∧ i = n := by
  by_cases h : 0 ≤ i ∧ i < 2048
  · exact .inr ⟨i.toNat, by omega, by omega⟩
  · left; unfold isB; rw [Bool.and_eq_false_iff]; simp only [decide_eq_false_iff_not]; omega
theorem hasB_no (f : Nat → Nat) (i : Int) (h : isB i = false) : hasB f i = false := by
  unfold hasB; unfold isB at h; rw [h]; rfl

/-- Has: whether bit i is set, of any block and number; nothing that was there is changed. -/
theorem has_any (f : Nat → Nat) (hf : Bytes f) (i : Int) (w : World) :
    Calls Try.prog 17 #[.agg (bc f), .int .i64 i] w fun e w' => e = .returned (.bool (hasB f i)) ∧ Below w.heap.size w w' := by
  rcases isB_cases i with h | ⟨n, h, rfl⟩
  · refine (has_no f i w h).mono ?_
    rintro e w' ⟨rfl, k, rfl⟩
    exact ⟨by rw [hasB_no f i h], below_alloc_drewN _ _ _⟩
  · refine (has_yes f hf n w h).mono ?_
    rintro e w' ⟨rfl, k, rfl⟩
    exact ⟨by rw [hasB_nat f n h], below_alloc_drewN _ _ _⟩
end Go.Proofs.Ytiajohnnmnoijaa
