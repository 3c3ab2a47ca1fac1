/-
  A slice of acts that came in as an argument; a row of numbers in the midst of a block, cut and appended to.
  Conditions: none but those that each lemma names.
-/
import Derived.Test.YtlccgphblbdjkaaRoomWalk
import Derived.Deep.SlicePairs
import Derived.Deep.AppendSrc
import Derived.ProofKit
import Derived.OpenShut
import Derived.ShutString
import Derived.ChangeOld
import Derived.Below
namespace Go.Proofs.Ytlccgphblbdjkaa
open Go.ChangeShapes Go.WideShapes Go.ChangeAt Go.RowKit Go.Deep

/-- What a walk is told of a slice of acts that came in: it is empty, or its acts lie in a row. -/
def IsActs (W : World) (a : Option Addr) (len : Nat) (z : (Nat → Bool) × (Nat → Int)) : Prop :=
  len = 0 ∨ ∃ blk off, a = some ⟨blk, off, none⟩ ∧ blk < W.heap.size ∧ ∀ i, i < len → W.cell? ⟨blk, off + i * 2, none⟩ = some (.bool (z.1 i)) ∧ W.cell? ⟨blk, off + i * 2 + 1, none⟩ = some (.int .i64 (z.2 i)) ∧ -9223372036854775808 ≤ z.2 i ∧ z.2 i ≤ 9223372036854775807

theorem open_acts {H : Type} {enc : TypeId × Value → H} {W : World} {b0 : Nat} {spare : Nat → Bool} {held : Bool} {a : Option Addr} {len cap : Nat} {d : DataW H} {p : List MemPlace}
    (h : DataW.Trod enc Try.prog W b0 spare held 22 (.slice a len cap) d p) : ∃ z, IsActs W a len z := by
  obtain ⟨fuel, hf⟩ := h
  rcases open_slice_pairs Try.underlying22 Try.underlying30 (by kernel_rfl) rfl rfl (by kernel_rfl) (by kernel_rfl) hf with ⟨hcs, _⟩ | ⟨x, l, c, m, n, V0, V1, D0, D1, P0, P1, hcs, _, hl, hm, hmm, _, hcell⟩
  · simp [Value.cells] at hcs
    obtain ⟨rfl, rfl, rfl⟩ := hcs
    exact ⟨(fun _ => false, fun _ => 0), .inl rfl⟩
  · simp [Value.cells] at hcs
    obtain ⟨rfl, rfl, rfl⟩ := hcs
    have hlm : len ≤ m := by rw [hmm]; split <;> omega
    by_cases h0 : len = 0
    · exact ⟨(fun _ => false, fun _ => 0), .inl h0⟩
    · obtain ⟨blk, off, spot⟩ := x
      have hc := (hcell 0 (by omega)).1
      have hspot : spot = none := by simpa [Addr.add] using World.cell?_spot hc
      subst hspot
      have e : ∀ k, (⟨blk, off, none⟩ : Addr).add k = ⟨blk, off + k, none⟩ := fun k => by unfold Addr.add; split <;> simp_all
      have hc0 : W.cell? ⟨blk, off, none⟩ = some (V0 0) := by simpa [e] using hc
      have each : ∀ i, ∃ q : Bool × Int, i < len → V0 i = .bool q.1 ∧ V1 i = .int .i64 q.2 ∧ -9223372036854775808 ≤ q.2 ∧ q.2 ≤ 9223372036854775807 := fun i => by
        by_cases hi : i < len
        · obtain ⟨_, _, t0, t1⟩ := hcell i (by omega)
          obtain ⟨b, hb, _⟩ := DataW.trod_bool Try.underlying4 t0
          obtain ⟨y, hy, _, hw⟩ := DataW.trod_int Try.underlying3 t1
          have := bounds_i64 hw
          exact ⟨(b, y), fun _ => ⟨by simpa using hb, by simpa using hy, this⟩⟩
        · exact ⟨(false, 0), fun h => absurd h hi⟩
      refine ⟨(fun i => (each i).choose.1, fun i => (each i).choose.2), .inr ⟨blk, off, rfl, block_lt_of_cell hc0, fun i hi => ?_⟩⟩
      obtain ⟨q0, q1, q2⟩ := (each i).choose_spec hi
      obtain ⟨c0, c1, _, _⟩ := hcell i (by omega)
      rw [e, q0] at c0
      rw [e, q1] at c1
      exact ⟨c0, c1, q2⟩
end Go.Proofs.Ytlccgphblbdjkaa
