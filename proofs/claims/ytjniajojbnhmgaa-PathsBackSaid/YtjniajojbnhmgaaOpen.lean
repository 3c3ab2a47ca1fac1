/-
  A slice of ints that came in as an argument; a row that was built by append.
  Conditions: none.
-/
import Derived.Test.YtjniajojbnhmgaaWay
import Derived.ProofKit
import Derived.OpenShut
import Derived.ShutString
import Derived.ChangeOld
import Derived.Below
namespace Go.Proofs.Ytjniajojbnhmgaa
open Go.ChangeShapes Go.WideShapes Go.ChangeAt Go.RowKit

/-- What a walk is told of a slice of ints that came in. -/
def Arg (W : World) (a : Option Addr) (len cap : Nat) (z : Nat → Int) : Prop := (a = none → len = 0 ∧ cap = 0) ∧ Sl W a len z

theorem open_row {H : Type} {enc : TypeId × Value → H} {W : World} {b0 : Nat} {spare : Nat → Bool} {held : Bool} {a : Option Addr} {len cap : Nat} {d : DataW H} {p : List MemPlace}
    (h : DataW.Trod enc Try.prog W b0 spare held 22 (.slice a len cap) d p) : ∃ z, Arg W a len cap z := by
  obtain ⟨fuel, hf⟩ := h
  rcases open_ints Try.underlying22 Try.underlying3 (by kernel_rfl) hf with ⟨hcs, _⟩ | ⟨x, l, c, zs, hcs, _, hl, hm, hz, _, hcell, hwz⟩
  · simp [Value.cells] at hcs
    obtain ⟨rfl, rfl, rfl⟩ := hcs
    exact ⟨fun _ => 0, fun _ => ⟨rfl, rfl⟩, .inl rfl⟩
  · simp [Value.cells] at hcs
    obtain ⟨rfl, rfl, rfl⟩ := hcs
    have hz' : len ≤ zs.length := by rw [hz]; split <;> omega
    refine ⟨fun i => zs.getD i 0, (fun h => by cases h), ?_⟩
    by_cases h0 : len = 0
    · exact .inl h0
    · right
      obtain ⟨blk, off, spot⟩ := x
      have hc := hcell 0 (by omega)
      have hspot : spot = none := by simpa [Addr.add] using World.cell?_spot hc
      subst hspot
      have hc0 : W.cell? ⟨blk, off, none⟩ = some (.int .i64 (zs.getD 0 0)) := by simpa [Addr.add] using hc
      refine ⟨blk, off, rfl, block_lt_of_cell hc0, fun i hi => ?_⟩
      have hci := hcell i (by omega)
      have e : (⟨blk, off, none⟩ : Addr).add i = ⟨blk, off + i, none⟩ := by unfold Addr.add; split <;> simp_all
      rw [e] at hci
      exact hci

/-- The cells of n numbers. -/
abbrev row (n : Nat) (z : Nat → Int) : List Value := (List.range n).map fun i => .int .i64 (z i)

theorem own_of_row {B : Nat} {W : World} {v : Value} {n : Nat} {z : Nat → Int} (h : W.ownsRow B 3 1 v n (row n z)) : ∃ a cap, v = .slice a n cap ∧ Own B W a n z := by
  obtain ⟨_, hr⟩ := h
  rcases hr with ⟨rfl, rfl⟩ | ⟨g, cap, cur, rfl, hB, hg, hn, _, hs, ht⟩
  · exact ⟨none, 0, rfl, .inl ⟨rfl, rfl⟩⟩
  · refine ⟨_, _, rfl, .inr ⟨g, cur, rfl, hB, hg, by omega, fun i hi => ?_⟩⟩
    have : (cur.toList.take (n * 1))[i]? = some (.int .i64 (z i)) := by rw [ht]; simp [hi]
    rw [List.getElem?_take_of_lt (by omega)] at this
    simpa using this

theorem news_of_sl {W : World} {ad : Addr} {n : Nat} {z : Nat → Int} (h : Sl W (some ad) n z) : ∀ j u, (row n z)[j]? = some u → W.cell? (ad.add j) = some u := by
  intro j u hu
  rcases h with rfl | ⟨g, o, ha, _, hc⟩
  · simp at hu
  · cases ha
    have hj : j < n := by
      rcases Nat.lt_or_ge j n with h | h
      · exact h
      · rw [List.getElem?_eq_none (by simpa using h)] at hu; cases hu
    have e : (⟨g, o, none⟩ : Addr).add j = ⟨g, o + j, none⟩ := by unfold Addr.add; split <;> simp_all
    rw [e, hc j hj]
    simp [hj] at hu
    rw [hu]
end Go.Proofs.Ytjniajojbnhmgaa
