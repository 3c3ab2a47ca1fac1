/-
  The contracts of bits.Set and bits.Clear: at nil and where nothing is to be done false, and nothing is changed; else true, and the one bit is turned.
  Conditions: the pointer leads to a whole block that is not frozen.
-/
import Derived.Test.YtiajohnnmnoijaaBase
import Derived.StillTailTactics
import Derived.Deep.RegionWith
namespace Go.Proofs.Ytiajohnnmnoijaa
open Go.RowKit

set_option maxRecDepth 100000 in
set_option maxHeartbeats 400000 in
theorem set_nil (i : Int) (w : World) :
    Calls Try.prog 14 #[.pointer none, .int .i64 i] w fun e w' => e = .returned (.bool false) ∧ ∃ k, w' = w.drewN k := by
  go_enter Try.func14, Try.ntmps14
  go_wp2
  go_quiet (first | (go_at_call 25; exact Calls.quiet_of_same (is_any _ _)))
  go_wp2
  go_ret
  exact ⟨rfl, _, rfl⟩

set_option maxRecDepth 100000 in
set_option maxHeartbeats 400000 in
theorem set_out (b : Nat) (i : Int) (w : World) (hi : isB i = false) :
    Calls Try.prog 14 #[.pointer (some ⟨b, 0, none⟩), .int .i64 i] w fun e w' => e = .returned (.bool false) ∧ ∃ k, w' = w.drewN k := by
  go_enter Try.func14, Try.ntmps14
  go_wp2
  go_quiet (first | (go_at_call 25; exact Calls.quiet_of_same (is_no _ _ hi)))
  go_wp2
  go_ret
  exact ⟨rfl, _, rfl⟩

set_option maxRecDepth 100000 in
set_option maxHeartbeats 400000 in
theorem set_is (b : Nat) (f : Nat → Nat) (hf : Bytes f) (n : Nat) (w : World) (h : n < 2048) (hb : w.heap[b]? = some (.cells (bc f) 23)) (hs : bit f n = true) :
    Calls Try.prog 14 #[.pointer (some ⟨b, 0, none⟩), .int .i64 n] w fun e w' => e = .returned (.bool false) ∧ ∃ k, w' = w.drewN k := by
  have hc : w.cell? ⟨b, n / 8, none⟩ = some (.int .u8 (f (n / 8))) := by
    rw [cell_of_row _ _ _ _ _ _ hb]; exact bc_get f _ (by omega)
  have hi : isB n = true := by unfold isB; simp; omega
  have hbit := u8_bit f hf n
  rw [hs] at hbit
  have hlt : (n : Int) < 2048 := by omega
  have h8 : (n : Int) / 8 < 256 := by omega
  clear hf hb
  go_enter Try.func14, Try.ntmps14
  go_wp2
  go_quiet (first | (go_at_call 25; exact Calls.quiet_of_same (is_yes _ _ hi)) | (go_at_call 24; exact Calls.quiet_of_same (mask_any _ _ (by omega))))
  go_wp2
  go_ret
  exact ⟨rfl, _, rfl⟩

set_option maxRecDepth 100000 in
set_option maxHeartbeats 400000 in
theorem set_yes (b : Nat) (f : Nat → Nat) (hf : Bytes f) (n : Nat) (w : World) (h : n < 2048) (hb : w.heap[b]? = some (.cells (bc f) 23)) (hs : bit f n = false) :
    Calls Try.prog 14 #[.pointer (some ⟨b, 0, none⟩), .int .i64 n] w fun e w' => e = .returned (.bool true) ∧ ∃ k, w' = (w.setCell ⟨b, n / 8, none⟩ (.int .u8 (bits .or .u8 (f (n / 8) : Int) (mk n)))).drewN k := by
  have hc : w.cell? ⟨b, n / 8, none⟩ = some (.int .u8 (f (n / 8))) := by
    rw [cell_of_row _ _ _ _ _ _ hb]; exact bc_get f _ (by omega)
  have hz : w.frozen? ⟨b, n / 8, none⟩ = false := frozen_of_row _ _ _ _ _ hb
  have hi : isB n = true := by unfold isB; simp; omega
  have hbit := u8_bit f hf n
  rw [hs] at hbit
  have hlt : (n : Int) < 2048 := by omega
  have h8 : (n : Int) / 8 < 256 := by omega
  clear hf hb
  go_enter Try.func14, Try.ntmps14
  go_wp2
  go_quiet (first | (go_at_call 25; exact Calls.quiet_of_same (is_yes _ _ hi)) | (go_at_call 24; exact Calls.quiet_of_same (mask_any _ _ (by omega))))
  go_wp2
  have hc1 : (w.drewN nq).cell? ⟨b, n / 8, none⟩ = some (.int .u8 (f (n / 8))) := hc
  have hz1 : (w.drewN nq).frozen? ⟨b, n / 8, none⟩ = false := hz
  clear hc hz
  have hq : IntKind.i64.wrap ((n : Int) / 8) = (n : Int) / 8 := IntWalk.i64_in _ (by omega)
  have hq0 : 0 ≤ (n : Int) / 8 := by omega
  have hqt : ((n : Int) / 8).toNat = n / 8 := by omega
  obtain ⟨w1, hw1⟩ : ∃ w1, w.drewN nq = w1 := ⟨_, rfl⟩
  rw [hw1] at hc1 hz1 ⊢
  have HW := Lib.hid hw1
  clear hw1
  go_still_tail 11, (by kernel_rfl)
  still_call (mask_any _ _ (by omega))
  repeat still_step
  refine wpStill_nil ?_
  go_wp2
  go_ret
  obtain rfl := HW.out
  exact ⟨rfl, nq + 1, rfl⟩

set_option maxRecDepth 100000 in
set_option maxHeartbeats 400000 in
theorem clear_nil (i : Int) (w : World) :
    Calls Try.prog 15 #[.pointer none, .int .i64 i] w fun e w' => e = .returned (.bool false) ∧ ∃ k, w' = w.drewN k := by
  go_enter Try.func15, Try.ntmps15
  go_wp2
  go_quiet (first | (go_at_call 25; exact Calls.quiet_of_same (is_any _ _)))
  go_wp2
  go_ret
  exact ⟨rfl, _, rfl⟩

set_option maxRecDepth 100000 in
set_option maxHeartbeats 400000 in
theorem clear_out (b : Nat) (i : Int) (w : World) (hi : isB i = false) :
    Calls Try.prog 15 #[.pointer (some ⟨b, 0, none⟩), .int .i64 i] w fun e w' => e = .returned (.bool false) ∧ ∃ k, w' = w.drewN k := by
  go_enter Try.func15, Try.ntmps15
  go_wp2
  go_quiet (first | (go_at_call 25; exact Calls.quiet_of_same (is_no _ _ hi)))
  go_wp2
  go_ret
  exact ⟨rfl, _, rfl⟩

set_option maxRecDepth 100000 in
set_option maxHeartbeats 400000 in
theorem clear_is (b : Nat) (f : Nat → Nat) (hf : Bytes f) (n : Nat) (w : World) (h : n < 2048) (hb : w.heap[b]? = some (.cells (bc f) 23)) (hs : bit f n = false) :
    Calls Try.prog 15 #[.pointer (some ⟨b, 0, none⟩), .int .i64 n] w fun e w' => e = .returned (.bool false) ∧ ∃ k, w' = w.drewN k := by
  have hc : w.cell? ⟨b, n / 8, none⟩ = some (.int .u8 (f (n / 8))) := by
    rw [cell_of_row _ _ _ _ _ _ hb]; exact bc_get f _ (by omega)
  have hi : isB n = true := by unfold isB; simp; omega
  have hbit := u8_bit0 f hf n
  rw [hs] at hbit
  have hlt : (n : Int) < 2048 := by omega
  have h8 : (n : Int) / 8 < 256 := by omega
  clear hf hb
  go_enter Try.func15, Try.ntmps15
  go_wp2
  go_quiet (first | (go_at_call 25; exact Calls.quiet_of_same (is_yes _ _ hi)) | (go_at_call 24; exact Calls.quiet_of_same (mask_any _ _ (by omega))))
  go_wp2
  go_ret
  exact ⟨rfl, _, rfl⟩

set_option maxRecDepth 100000 in
set_option maxHeartbeats 400000 in
theorem clear_yes (b : Nat) (f : Nat → Nat) (hf : Bytes f) (n : Nat) (w : World) (h : n < 2048) (hb : w.heap[b]? = some (.cells (bc f) 23)) (hs : bit f n = true) :
    Calls Try.prog 15 #[.pointer (some ⟨b, 0, none⟩), .int .i64 n] w fun e w' => e = .returned (.bool true) ∧ ∃ k, w' = (w.setCell ⟨b, n / 8, none⟩ (.int .u8 (bits .andNot .u8 (f (n / 8) : Int) (mk n)))).drewN k := by
  have hc : w.cell? ⟨b, n / 8, none⟩ = some (.int .u8 (f (n / 8))) := by
    rw [cell_of_row _ _ _ _ _ _ hb]; exact bc_get f _ (by omega)
  have hz : w.frozen? ⟨b, n / 8, none⟩ = false := frozen_of_row _ _ _ _ _ hb
  have hi : isB n = true := by unfold isB; simp; omega
  have hbit := u8_bit0 f hf n
  rw [hs] at hbit
  have hlt : (n : Int) < 2048 := by omega
  have h8 : (n : Int) / 8 < 256 := by omega
  clear hf hb
  go_enter Try.func15, Try.ntmps15
  go_wp2
  go_quiet (first | (go_at_call 25; exact Calls.quiet_of_same (is_yes _ _ hi)) | (go_at_call 24; exact Calls.quiet_of_same (mask_any _ _ (by omega))))
  go_wp2
  have hc1 : (w.drewN nq).cell? ⟨b, n / 8, none⟩ = some (.int .u8 (f (n / 8))) := hc
  have hz1 : (w.drewN nq).frozen? ⟨b, n / 8, none⟩ = false := hz
  clear hc hz
  have hq : IntKind.i64.wrap ((n : Int) / 8) = (n : Int) / 8 := IntWalk.i64_in _ (by omega)
  have hq0 : 0 ≤ (n : Int) / 8 := by omega
  have hqt : ((n : Int) / 8).toNat = n / 8 := by omega
  obtain ⟨w1, hw1⟩ : ∃ w1, w.drewN nq = w1 := ⟨_, rfl⟩
  rw [hw1] at hc1 hz1 ⊢
  have HW := Lib.hid hw1
  clear hw1
  go_still_tail 11, (by kernel_rfl)
  still_call (mask_any _ _ (by omega))
  repeat still_step
  refine wpStill_nil ?_
  go_wp2
  go_ret
  obtain rfl := HW.out
  exact ⟨rfl, nq + 1, rfl⟩

/-- What w' is where block b alone was written: it holds the bytes f. -/
structure Wrote (b : Nat) (f : Nat → Nat) (w w' : World) : Prop where
  os : w'.os = w.os
  tape : w'.tape = w.tape
  output : w'.output = w.output
  size : w'.heap.size = w.heap.size
  block : ∀ k, k ≠ b → w'.heap[k]? = w.heap[k]?
  here : w'.heap[b]? = some (.cells (bc f) 23)

theorem Wrote.below {b : Nat} {f : Nat → Nat} {w w' : World} (h : Wrote b f w w') {B : Nat} (hB : B ≤ b) : Below B w w' :=
  ⟨h.os, h.tape, h.output, by rw [h.size]; exact Nat.le_refl _, fun k hk => h.block k (by omega)⟩

theorem wrote_same (b : Nat) (f : Nat → Nat) (w : World) (k : Nat) (hb : w.heap[b]? = some (.cells (bc f) 23)) : Wrote b f w (w.drewN k) :=
  ⟨rfl, rfl, rfl, rfl, fun _ _ => rfl, hb⟩

theorem bc_set (f : Nat → Nat) (j v : Nat) : (bc f).setIfInBounds j (.int .u8 v) = bc (upd f j v) := by
  apply Array.ext
  · simp [bc]
  · intro i h1 h2
    have hi : i < 256 := by simpa [bc] using h2
    rw [Array.getElem_setIfInBounds (by rw [bc_size]; exact hi)]
    simp only [bc, upd]
    by_cases e : j = i
    · subst e; simp
    · have e' : ¬ i = j := fun x => e x.symm
      simp [e, e']

theorem wrote_cell (b : Nat) (f : Nat → Nat) (w : World) (k j v : Nat) (hb : w.heap[b]? = some (.cells (bc f) 23)) :
    Wrote b (upd f j v) w ((w.setCell ⟨b, j, none⟩ (.int .u8 v)).drewN k) :=
  ⟨rfl, rfl, rfl, by simp [World.setCell, World.drewN], fun _ hk => heap_setCell_other w _ _ _ hk, by
    have := heap_setCell_same w b j (bc f) 23 (.int .u8 v) hb
    rw [bc_set f j v] at this
    exact this⟩

/-- The block behind Set. -/
def setI (f : Nat → Nat) (i : Int) : Nat → Nat := if isB i && !bit f i.toNat then setB f i.toNat else f
/-- The block behind Clear. -/
def clrI (f : Nat → Nat) (i : Int) : Nat → Nat := if isB i && bit f i.toNat then clrB f i.toNat else f

theorem setI_bytes {f : Nat → Nat} (h : Bytes f) (i : Int) : Bytes (setI f i) := by
  unfold setI; split
  · exact setB_bytes h _
  · exact h
theorem clrI_bytes {f : Nat → Nat} (h : Bytes f) (i : Int) : Bytes (clrI f i) := by
  unfold clrI; split
  · exact clrB_bytes h _
  · exact h

theorem isB_nat (n : Nat) (h : n < 2048) : isB n = true := by unfold isB; simp; omega

/-- Set, of any block behind a pointer and any number: whether the bit was clear; it is set; nothing else is changed. -/
theorem set_any (b : Nat) (f : Nat → Nat) (hf : Bytes f) (i : Int) (w : World) (hb : w.heap[b]? = some (.cells (bc f) 23)) :
    Calls Try.prog 14 #[.pointer (some ⟨b, 0, none⟩), .int .i64 i] w fun e w' => e = .returned (.bool (isB i && !bit f i.toNat)) ∧ Wrote b (setI f i) w w' := by
  rcases isB_cases i with h | ⟨n, h, rfl⟩
  · refine (set_out b i w h).mono ?_
    rintro e w' ⟨rfl, k, rfl⟩
    refine ⟨by rw [h]; rfl, ?_⟩
    unfold setI; rw [h]
    exact wrote_same b f w k hb
  · have hi := isB_nat n h
    cases hs : bit f n with
    | true =>
      refine (set_is b f hf n w h hb hs).mono ?_
      rintro e w' ⟨rfl, k, rfl⟩
      refine ⟨by rw [hi, Int.toNat_natCast, hs]; rfl, ?_⟩
      unfold setI; rw [hi, Int.toNat_natCast, hs]
      exact wrote_same b f w k hb
    | false =>
      refine (set_yes b f hf n w h hb hs).mono ?_
      rintro e w' ⟨rfl, k, rfl⟩
      refine ⟨by rw [hi, Int.toNat_natCast, hs]; rfl, ?_⟩
      unfold setI; rw [hi, Int.toNat_natCast, hs]
      have := wrote_cell b f w k (n / 8) (f (n / 8) ||| 2 ^ (n % 8)) hb
      rw [← u8_or_nat _ _ (hf _) (pow_lt n)] at this
      exact this

/-- Clear, of any block behind a pointer and any number: whether the bit was set; it is clear; nothing else is changed. -/
theorem clear_any (b : Nat) (f : Nat → Nat) (hf : Bytes f) (i : Int) (w : World) (hb : w.heap[b]? = some (.cells (bc f) 23)) :
    Calls Try.prog 15 #[.pointer (some ⟨b, 0, none⟩), .int .i64 i] w fun e w' => e = .returned (.bool (isB i && bit f i.toNat)) ∧ Wrote b (clrI f i) w w' := by
  rcases isB_cases i with h | ⟨n, h, rfl⟩
  · refine (clear_out b i w h).mono ?_
    rintro e w' ⟨rfl, k, rfl⟩
    refine ⟨by rw [h]; rfl, ?_⟩
    unfold clrI; rw [h]
    exact wrote_same b f w k hb
  · have hi := isB_nat n h
    cases hs : bit f n with
    | false =>
      refine (clear_is b f hf n w h hb hs).mono ?_
      rintro e w' ⟨rfl, k, rfl⟩
      refine ⟨by rw [hi, Int.toNat_natCast, hs]; rfl, ?_⟩
      unfold clrI; rw [hi, Int.toNat_natCast, hs]
      exact wrote_same b f w k hb
    | true =>
      refine (clear_yes b f hf n w h hb hs).mono ?_
      rintro e w' ⟨rfl, k, rfl⟩
      refine ⟨by rw [hi, Int.toNat_natCast, hs]; rfl, ?_⟩
      unfold clrI; rw [hi, Int.toNat_natCast, hs]
      have := wrote_cell b f w k (n / 8) (f (n / 8) &&& (255 - 2 ^ (n % 8))) hb
      rw [← u8_andNot_nat _ _ (hf _) (pow_lt n)] at this
      exact this

end Go.Proofs.Ytiajohnnmnoijaa
