/-
  A block that came in as an argument is 256 bytes.
  Conditions: none.
-/
import Derived.Test.YtiajohnnmnoijaaBase
import Derived.ProofKit
import Derived.OpenShut
import Derived.ChangeOld
import Derived.Below
namespace Go.Proofs.Ytiajohnnmnoijaa
open Go.ChangeShapes Go.WideShapes Go.ChangeAt Go.RowKit

theorem own : ownKnob Try.prog.godebug = none := by kernel_rfl
theorem laidOut : laidOutB Try.prog = true := by kernel_rfl
theorem cells23 : Try.prog.cellsOf 23 = 256 := by kernel_rfl
theorem cells5 : Try.prog.cellsOf 5 = 1 := by kernel_rfl

/-- The byte at i of some cells. -/
def byteAt (cs : Array Value) (i : Nat) : Nat :=
  match cs[i]? with
  | some (.int _ n) => if n.toNat < 256 then n.toNat else 0
  | _ => 0

theorem byteAt_bytes (cs : Array Value) : Bytes (byteAt cs) := by
  intro i
  unfold byteAt
  split
  · split <;> omega
  · omega

theorem open_block {H : Type} {enc : TypeId × Value → H} {W : World} {base b0 : Nat} {spare : Nat → Bool} {held : Bool} {v : Value} {d : DataW H} {p : List MemPlace}
    (hv : Value.okWide Try.prog W .any base 23 v) (h : DataW.Trod enc Try.prog W b0 spare held 23 v d p) : ∃ f, Bytes f ∧ v = .agg (bc f) := by
  obtain ⟨cs, rfl, hsz, _⟩ : ∃ cs, v = .agg cs ∧ cs.size = Try.prog.cellsOf 23 ∧ Row.okWide Try.prog W .any base 23 cs := by
    simpa [Value.okWide, Try.underlying23] using hv
  rw [cells23] at hsz
  obtain ⟨fuel, hf⟩ := h
  obtain ⟨xs, m, _, _, hl, hx, hi⟩ := DataW.trod_array Try.underlying23 hf
  refine ⟨byteAt cs, byteAt_bytes cs, ?_⟩
  congr 1
  apply Array.ext
  · rw [hsz, bc_size]
  · intro i h1 h2
    have hlt : i < 256 := by omega
    have ht := hi i hlt
    rw [List.getElem?_eq_getElem (by omega)] at ht
    obtain ⟨n, hn, _, hw⟩ := DataW.trod_int Try.underlying5 ht
    rw [cells5] at hn
    have hcell : cs[i]? = some (.int .u8 n) := by
      have h3 := congrArg List.head? hn
      simp only [Nat.mul_one, List.head?_take, List.head?_drop, List.head?_cons, Value.cells] at h3
      simpa using h3
    have hn2 : 0 ≤ n ∧ n < 256 := by
      have := bounds_u8 hw
      omega
    have e1 : cs[i] = .int .u8 n := by
      rw [Array.getElem?_eq_getElem h1] at hcell
      exact Option.some.inj hcell
    have e2 := bc_get (byteAt cs) i hlt
    rw [Array.getElem?_eq_getElem h2] at e2
    rw [e1, Option.some.inj e2]
    unfold byteAt
    rw [hcell]
    simp only []
    rw [if_pos (by omega)]
    congr 1
    omega
end Go.Proofs.Ytiajohnnmnoijaa
