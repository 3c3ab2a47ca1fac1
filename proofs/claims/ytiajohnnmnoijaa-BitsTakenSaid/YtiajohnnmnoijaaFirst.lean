/-
  The contract of bits.First: of any block and any two numbers the first clear bit from the one on, ahead of the other, or -1; nothing that was there is changed.
  Conditions: the two numbers are ints.
-/
import Derived.Test.YtiajohnnmnoijaaBase
namespace Go.Proofs.Ytiajohnnmnoijaa
open Go.RowKit

/-- The world wr is w with a new block that holds f, and whatever else is new. -/
structure Boxes (f : Nat → Nat) (w wr : World) : Prop where
  below : Below w.heap.size w wr
  box : wr.heap[w.heap.size]? = some (.cells (bc f) 23)

theorem Boxes.mk1 (f : Nat → Nat) (w : World) : Boxes f w (w.alloc (.cells (bc f) 23)) := ⟨(Below.refl _ _).alloc (Nat.le_refl _) _, heap_alloc_new w _⟩
theorem below_drewN {B : Nat} {a w : World} (h : Below B a w) (n : Nat) : Below B a (w.drewN n) := ⟨h.os, h.tape, h.output, h.size, h.block⟩
theorem Boxes.drewN {f : Nat → Nat} {w wr : World} (h : Boxes f w wr) (n : Nat) : Boxes f w (wr.drewN n) := ⟨below_drewN h.below n, h.box⟩
theorem Boxes.cell {f : Nat → Nat} {w wr : World} (h : Boxes f w wr) (j : Nat) (hj : j < 256) : wr.cell? ⟨w.heap.size, j, none⟩ = some (.int .u8 (f j)) := by
  rw [cell_of_row _ _ _ _ _ _ h.box]; exact bc_get f j hj

/-- What holds where the loop of First comes to the bit k. -/
def FirstRel (f : Nat → Nat) (lo : Int) (w : World) (v : Value) (wr : World) : Prop :=
  ∃ k : Nat, v = .int .i64 k ∧ lo ≤ k ∧ (∀ j : Nat, lo ≤ j → j < k → bit f j = true) ∧ Boxes f w wr

theorem FirstRel.next {f : Nat → Nat} {lo : Int} {w : World} {k : Nat} (h1 : lo ≤ k) (h2 : ∀ j : Nat, lo ≤ j → j < k → bit f j = true) (h3 : bit f k = true) {wr : World} (hw : Boxes f w wr) :
    FirstRel f lo w (.int .i64 ((k : Int) + 1)) wr :=
  ⟨k + 1, by simp, by omega, fun j a b => by
    by_cases e : j = k
    · rw [e]; exact h3
    · exact h2 j a (by omega), hw⟩

set_option maxRecDepth 100000 in
set_option maxHeartbeats 1000000 in
theorem first_any (f : Nat → Nat) (hf : Bytes f) (lo hi : Int) (w : World) :
    Calls Try.prog 19 #[.agg (bc f), .int .i64 lo, .int .i64 hi] w fun e w' => e = .returned (.int .i64 (firstB f lo hi)) ∧ Below w.heap.size w w' := by
  have HF := Lib.hid hf
  clear hf
  rcases Int.lt_or_le lo 0 with h0 | h0 <;> rcases Int.lt_or_le 2048 hi with h1 | h1
  all_goals
    go_enter Try.func19, Try.ntmps19
    go_wp2
    go_loopw [7] (fun v wr => FirstRel f lo w v wr) (fun v _ => (2048 - intOf v).toNat)
    case atStart =>
      first
      | exact ⟨0, rfl, by omega, fun j a b => by omega, Boxes.mk1 f w⟩
      | exact ⟨lo.toNat, by rw [Int.toNat_of_nonneg h0], by omega, fun j a b => by omega, Boxes.mk1 f w⟩
    case round =>
      obtain ⟨k, rfl, hk1, hk2, hw⟩ := hrel
      have HK := Lib.hid hk2
      clear hk2
      by_cases hlt : (k : Int) < hi ∧ k < 2048
      · obtain ⟨hl1, hl2⟩ := hlt
        have hc := hw.cell (k / 8) (by omega)
        have h8 : (k : Int) / 8 < 256 := by omega
        have hl3 : (k : Int) < 2048 := by omega
        have HB := Lib.hid (u8_bit0 f HF.out k)
        have hq0 : 0 ≤ (k : Int) / 8 := by omega
        cases hb : bit f k with
        | true =>
          rw [hb] at HB
          have hbit := HB.out
          have hq : IntKind.i64.wrap ((k : Int) / 8) = (k : Int) / 8 := IntWalk.i64_in _ (by omega)
          have hqt : ((k : Int) / 8).toNat = k / 8 := by omega
          go_wp2
          go_quiet (first | (go_at_call 24; exact Calls.quiet_of_same (mask_any _ _ (by omega))))
          clear hq hqt hc
          go_wp2
          go_roundw
          case rel => exact FirstRel.next hk1 HK.out hb (hw.drewN _)
          case measure => simp [intOf]; omega
        | false =>
          rw [hb] at HB
          have hbit := HB.out
          have hq : IntKind.i64.wrap ((k : Int) / 8) = (k : Int) / 8 := IntWalk.i64_in _ (by omega)
          have hqt : ((k : Int) / 8).toNat = k / 8 := by omega
          go_wp2
          go_quiet (first | (go_at_call 24; exact Calls.quiet_of_same (mask_any _ _ (by omega))))
          clear hq hqt hc
          go_wp2
          go_ret
          exact ⟨ret_int (first_some f lo hi k hk1 hl1 hl2 hb HK.out).symm, (hw.drewN _).below⟩
      · have hge : hi ≤ (k : Int) ∨ 2048 ≤ (k : Int) := by omega
        clear hlt
        have hdec : ¬ (k : Int) < min hi 2048 := by omega
        go_wp2
        go_ret
        exact ⟨ret_int (first_none f lo hi (fun j a b c => HK.out j a (by omega))).symm, hw.below⟩
end Go.Proofs.Ytiajohnnmnoijaa
