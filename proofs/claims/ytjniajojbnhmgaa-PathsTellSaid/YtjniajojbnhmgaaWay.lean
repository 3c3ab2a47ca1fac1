/-
  The way to a block, in plain numbers; the contracts of paths.Of, quernref10.Of and quernref10.Same over it.
  Conditions: none.
-/
import Derived.Test.YtjniajojbnhmgaaOf
namespace Go.Proofs.Ytjniajojbnhmgaa
open Go.RowKit
set_option linter.unusedVariables false

/-- The pointer of a block's way. -/
def ofP (k : Int) : Int := if k < 8 then k else if k < 72 then 8 else if k < 4168 then 9 else 10
/-- How many numbers a block's way has. -/
def ofN (k : Int) : Nat := if k < 8 then 0 else if k < 72 then 1 else if k < 4168 then 2 else 3
/-- The numbers of a block's way. -/
def ofZ (k : Int) (i : Nat) : Int :=
  if k < 72 then k - 8 else if k < 4168 then (if i = 0 then (k - 72) / 64 else (k - 72) % 64)
  else if i = 0 then (k - 4168) / 4096 else if i = 1 then (k - 4168) / 64 % 64 else (k - 4168) % 64

theorem pre_range {ini : List Nat} {x : Nat} (h : ini ++ [x] <+: List.range 11) : ini = List.range x ∧ x < 11 := by
  have hl := h.length_le
  simp only [List.length_append, List.length_cons, List.length_nil, List.length_range] at hl
  have he := List.prefix_iff_eq_take.1 h
  rw [List.take_range, List.length_append, List.length_singleton, Nat.min_eq_left hl, List.range_succ] at he
  obtain ⟨h1, h2⟩ := List.append_inj' he rfl
  obtain rfl : x = ini.length := by simpa using h2
  exact ⟨h1, by omega⟩

theorem dg_way {k : Int} {x : Nat} (h0 : 0 ≤ k) (h1 : k < 65536) (hx : x < 11) (hl : (fst x : Int) ≤ k) (hh : k < fst (x + 1)) :
    (x : Int) = ofP k ∧ (lev x).toNat = ofN k ∧ dg (lev x).toNat (k - fst x) = (List.range (ofN k)).map (ofZ k) := by
  by_cases h8 : k < 8
  · have hx8 : x < 9 := by
      rcases Nat.lt_or_ge x 9 with h | h
      · exact h
      · have : 72 ≤ fst x := by unfold fst; rw [if_neg (by omega)]; split <;> (try split) <;> omega
        omega
    have e : fst x = x := by unfold fst; rw [if_pos hx8]
    have hxk : x < 8 := by omega
    have e2 : fst (x + 1) = x + 1 := by unfold fst; rw [if_pos (by omega)]
    rw [e] at hl; rw [e2] at hh
    obtain rfl : k = x := by omega
    have en : ofN x = 0 := by unfold ofN; rw [if_pos h8]
    have el : lev x = 0 := by unfold lev; rw [if_neg (by omega), if_pos h8]
    rw [en, el]
    exact ⟨by unfold ofP; rw [if_pos h8], rfl, rfl⟩
  · by_cases h72 : k < 72
    · obtain rfl : x = 8 := by
        rcases Nat.lt_trichotomy x 8 with h | h | h
        · have : fst (x + 1) = x + 1 := by unfold fst; rw [if_pos (by omega)]
          omega
        · exact h
        · have : 72 ≤ fst x := by unfold fst; rw [if_neg (by omega)]; split <;> (try split) <;> omega
          omega
      have en : ofN k = 1 := by unfold ofN; rw [if_neg h8, if_pos h72]
      rw [en]
      refine ⟨by unfold ofP; rw [if_neg h8, if_pos h72]; rfl, rfl, ?_⟩
      show [(k - 8).tdiv 1] = [ofZ k 0]
      unfold ofZ; rw [if_pos h72, Int.tdiv_one]
    · by_cases h4 : k < 4168
      · obtain rfl : x = 9 := by
          rcases Nat.lt_trichotomy x 9 with h | h | h
          · have : fst (x + 1) ≤ 72 := by unfold fst; split <;> (try split) <;> omega
            omega
          · exact h
          · have : 4168 ≤ fst x := by unfold fst; rw [if_neg (by omega), if_neg (by omega)]; split <;> omega
            omega
        have en : ofN k = 2 := by unfold ofN; rw [if_neg h8, if_neg h72, if_pos h4]
        rw [en]
        refine ⟨by unfold ofP; rw [if_neg h8, if_neg h72, if_pos h4]; rfl, rfl, ?_⟩
        show [(k - 72).tdiv 64, ((k - 72).tmod 64).tdiv 1] = [ofZ k 0, ofZ k 1]
        unfold ofZ; rw [if_neg h72, if_pos h4, if_pos rfl, if_neg h72, if_pos h4, if_neg (by omega), Int.tdiv_one, Int.tdiv_eq_ediv_of_nonneg (by omega), Int.tmod_eq_emod_of_nonneg (by omega)]
      · obtain rfl : x = 10 := by
          rcases Nat.lt_trichotomy x 10 with h | h | h
          · have : fst (x + 1) ≤ 4168 := by unfold fst; split <;> (try split) <;> (try split) <;> omega
            omega
          · exact h
          · omega
        have en : ofN k = 3 := by unfold ofN; rw [if_neg h8, if_neg h72, if_neg h4]
        rw [en]
        refine ⟨by unfold ofP; rw [if_neg h8, if_neg h72, if_neg h4]; rfl, rfl, ?_⟩
        show [(k - 4168).tdiv 4096, ((k - 4168).tmod 4096).tdiv 64, (((k - 4168).tmod 4096).tmod 64).tdiv 1] = [ofZ k 0, ofZ k 1, ofZ k 2]
        have a0 : ofZ k 0 = (k - 4168) / 4096 := by unfold ofZ; rw [if_neg h72, if_neg h4, if_pos rfl]
        have a1 : ofZ k 1 = (k - 4168) / 64 % 64 := by unfold ofZ; rw [if_neg h72, if_neg h4, if_neg (by omega), if_pos rfl]
        have a2 : ofZ k 2 = (k - 4168) % 64 := by unfold ofZ; rw [if_neg h72, if_neg h4, if_neg (by omega), if_neg (by omega)]
        rw [a0, a1, a2, Int.tdiv_one, Int.tdiv_eq_ediv_of_nonneg (by omega), Int.tmod_eq_emod_of_nonneg (a := k - 4168) (by omega), Int.tdiv_eq_ediv_of_nonneg (by omega), Int.tmod_eq_emod_of_nonneg (by omega)]
        simp only [List.cons.injEq, and_true, true_and]
        omega

/-- The slice (a, n) is a row of numbers z of its own, in a block from B on. -/
def Own (B : Nat) (W : World) (a : Option Addr) (n : Nat) (z : Nat → Int) : Prop :=
  (n = 0 ∧ a = none) ∨ ∃ g cur, a = some ⟨g, 0, none⟩ ∧ B ≤ g ∧ W.heap[g]? = some (.cells cur 3) ∧ n ≤ cur.size ∧ ∀ i, i < n → cur[i]? = some (.int .i64 (z i))
/-- The slice (a, n) holds the numbers z. -/
def Sl (W : World) (a : Option Addr) (n : Nat) (z : Nat → Int) : Prop :=
  n = 0 ∨ ∃ g o, a = some ⟨g, o, none⟩ ∧ g < W.heap.size ∧ ∀ i, i < n → W.cell? ⟨g, o + i, none⟩ = some (.int .i64 (z i))

theorem Own.sl {B : Nat} {W : World} {a : Option Addr} {n : Nat} {z : Nat → Int} (h : Own B W a n z) : Sl W a n z := by
  rcases h with ⟨h0, _⟩ | ⟨g, cur, ha, _, hg, _, hc⟩
  · exact .inl h0
  · exact .inr ⟨g, 0, ha, (Array.getElem?_eq_some_iff.1 hg).1, fun i hi => by rw [Nat.zero_add, cell_of_row _ _ _ _ _ _ hg]; exact hc i hi⟩
theorem Sl.keep {W W' : World} {a : Option Addr} {n : Nat} {z : Nat → Int} (h : Sl W a n z) (hb : Below W.heap.size W W') : Sl W' a n z := by
  rcases h with h0 | ⟨g, o, ha, hg, hc⟩
  · exact .inl h0
  · exact .inr ⟨g, o, ha, Nat.lt_of_lt_of_le hg hb.size, fun i hi => (hb.cell (p := ⟨g, o + i, none⟩) hg).trans (hc i hi)⟩
theorem Own.keep {B : Nat} {W W' : World} {a : Option Addr} {n : Nat} {z : Nat → Int} (h : Own B W a n z) (hb : Below W.heap.size W W') : Own B W' a n z := by
  rcases h with h0 | ⟨g, cur, ha, hB, hg, hs, hc⟩
  · exact .inl h0
  · exact .inr ⟨g, cur, ha, hB, (hb.block g (Array.getElem?_eq_some_iff.1 hg).1).trans hg, hs, hc⟩
theorem Own.mono {B B' : Nat} {W : World} {a : Option Addr} {n : Nat} {z : Nat → Int} (h : Own B W a n z) (hB : B' ≤ B) : Own B' W a n z := by
  rcases h with h0 | ⟨g, cur, ha, hb, r⟩
  · exact .inl h0
  · exact .inr ⟨g, cur, ha, Nat.le_trans hB hb, r⟩
theorem Sl.at {W : World} {a : Option Addr} {n : Nat} {z : Nat → Int} (h : Sl W a n z) {i : Nat} (hi : i < n) : ∃ g o, a = some ⟨g, o, none⟩ ∧ W.cell? ⟨g, o + i, none⟩ = some (.int .i64 (z i)) := by
  rcases h with h0 | ⟨g, o, ha, _, hc⟩
  · omega
  · exact ⟨g, o, ha, hc i hi⟩
theorem Sl.drewN {W : World} {a : Option Addr} {n : Nat} {z : Nat → Int} (h : Sl W a n z) (k : Nat) : Sl (W.drewN k) a n z := h

/-- What Of answers, of a block that there is. -/
def OfPost (k : Int) (w : World) (e : Ending) (w' : World) : Prop :=
  ∃ a cap, e = .returned (.tuple #[.int .i64 (ofP k), .slice a (ofN k) cap, .int .i64 0]) ∧ Below w.heap.size w w' ∧ Own w.heap.size w' a (ofN k) (ofZ k)

theorem of_yes (k : Int) (h0 : 0 ≤ k) (h1 : k < 65536) (w : World) : Calls Try.prog 17 #[.int .i64 k] w (OfPost k w) := by
  refine (of_any k h0 h1 w).mono ?_
  rintro e w' ⟨x, v, rfl, hb, ⟨ini, hini, hall⟩, hk, hown⟩
  obtain ⟨rfl, hx⟩ := pre_range hini
  have hl : (fst x : Int) ≤ k := by
    rcases Nat.eq_zero_or_pos x with rfl | hp
    · exact h0
    · have := hall (x - 1) (List.mem_range.2 (by omega))
      rw [← fst_succ (x - 1) (by omega), show x - 1 + 1 = x by omega] at this
      exact this
  rw [← fst_succ x (by omega)] at hk
  obtain ⟨e1, e2, e3⟩ := dg_way h0 h1 hx hl hk
  rw [e3] at hown
  rw [e1]
  obtain ⟨hlen, hr⟩ := hown
  rcases hr with ⟨rfl, hn⟩ | ⟨g, cap, cur, rfl, hB, hg, hn, _, hs, ht⟩
  · have hz : ofN k = 0 := by simpa using hn
    refine ⟨none, 0, by rw [hz], hb, .inl ⟨hz, rfl⟩⟩
  · have el : ((List.range (ofN k)).map (ofZ k)).length = ofN k := by simp
    rw [el] at hn ht ⊢
    refine ⟨_, _, rfl, hb, .inr ⟨g, cur, rfl, by omega, hg, by omega, fun i hi => ?_⟩⟩
    have : (cur.toList.take (ofN k * 1))[i]? = some (.int .i64 (ofZ k i)) := by rw [ht]; simp [hi]
    rw [List.getElem?_take_of_lt (by omega)] at this
    simpa using this
end Go.Proofs.Ytjniajojbnhmgaa
