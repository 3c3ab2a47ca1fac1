/-
  A row of numbers in the midst of a block of the call's own: what is known of it, what a cut leaves, what an append makes of it.
  Conditions: those that each lemma names.
-/
import Derived.Test.YtlccgphblbdjkaaActs
import Derived.Deep.AppendSrc
namespace Go.Proofs.Ytlccgphblbdjkaa
open Go.RowKit
set_option linter.unusedVariables false

/-- The slice (a, n, cap) holds the numbers z, in a block from B on. -/
def Mid (B : Nat) (W : World) (a : Option Addr) (n cap : Nat) (z : Nat → Nat) : Prop :=
  (a = none ∧ n = 0 ∧ cap = 0) ∨ ∃ g off cur, a = some ⟨g, off, none⟩ ∧ B ≤ g ∧ W.heap[g]? = some (.cells cur 3) ∧ n ≤ cap ∧ off + cap ≤ cur.size ∧ ∀ i, i < n → cur[off + i]? = some (.int .i64 (z i))

/-- A row of n numbers z, and y behind it. -/
def ext (z : Nat → Nat) (n y i : Nat) : Nat := if i < n then z i else y
theorem ext_lt (z : Nat → Nat) {n y i : Nat} (h : i < n) : ext z n y i = z i := by unfold ext; rw [if_pos h]
theorem ext_eq (z : Nat → Nat) (n y : Nat) : ext z n y n = y := by unfold ext; rw [if_neg (by omega)]

theorem Mid.nil (B : Nat) (W : World) (z : Nat → Nat) : Mid B W none 0 0 z := .inl ⟨rfl, rfl, rfl⟩
theorem Mid.at {B : Nat} {W : World} {a : Option Addr} {n cap : Nat} {z : Nat → Nat} (h : Mid B W a n cap z) {i : Nat} (hi : i < n) : ∃ g off, a = some ⟨g, off, none⟩ ∧ B ≤ g ∧ W.cell? ⟨g, off + i, none⟩ = some (.int .i64 (z i)) := by
  rcases h with ⟨_, h0, _⟩ | ⟨g, off, cur, ha, hB, hg, _, _, hc⟩
  · omega
  · exact ⟨g, off, ha, hB, by rw [cell_of_row _ _ _ _ _ _ hg]; exact hc i hi⟩
theorem Mid.same {B : Nat} {W W' : World} {a : Option Addr} {n cap : Nat} {z : Nat → Nat} (h : Mid B W a n cap z) (hs : ∀ g, B ≤ g → g < W.heap.size → W'.heap[g]? = W.heap[g]?) : Mid B W' a n cap z := by
  rcases h with h0 | ⟨g, off, cur, ha, hB, hg, r⟩
  · exact .inl h0
  · exact .inr ⟨g, off, cur, ha, hB, (hs g hB (Array.getElem?_eq_some_iff.1 hg).1).trans hg, r⟩
theorem Mid.keep {B : Nat} {W W' : World} {a : Option Addr} {n cap : Nat} {z : Nat → Nat} (h : Mid B W a n cap z) (hb : Below W.heap.size W W') : Mid B W' a n cap z := h.same fun g _ hg => hb.block g hg
theorem Mid.moved {b p t u : Nat} {B : Nat} {W W' : World} {a : Option Addr} {n cap : Nat} {z : Nat → Nat} (h : Mid B W a n cap z) (hm : Moved b p t u W W') (hB : b < B) : Mid B W' a n cap z := h.same fun g h1 hg => hm.block g hg (by omega)
theorem Mid.le {B : Nat} {W : World} {a : Option Addr} {n cap : Nat} {z : Nat → Nat} (h : Mid B W a n cap z) : n ≤ cap := by
  rcases h with ⟨_, h0, h1⟩ | ⟨g, off, cur, _, _, _, hl, _⟩
  · omega
  · exact hl
theorem Mid.ext {B : Nat} {W : World} {a : Option Addr} {n cap : Nat} {z z' : Nat → Nat} (h : Mid B W a n cap z) (e : ∀ i, i < n → z i = z' i) : Mid B W a n cap z' := by
  rcases h with h0 | ⟨g, off, cur, ha, hB, hg, h1, h2, hc⟩
  · exact .inl h0
  · exact .inr ⟨g, off, cur, ha, hB, hg, h1, h2, fun i hi => by rw [hc i hi, e i hi]⟩
/-- All of it, and all capacity, is cut off. -/
theorem Mid.cut_all {B : Nat} {W : World} {a : Option Addr} {n cap : Nat} {z : Nat → Nat} (h : Mid B W a n cap z) (z' : Nat → Nat) : Mid B W a 0 0 z' := by
  rcases h with ⟨h0, _, _⟩ | ⟨g, off, cur, ha, hB, hg, h1, h2, hc⟩
  · exact .inl ⟨h0, rfl, rfl⟩
  · exact .inr ⟨g, off, cur, ha, hB, hg, Nat.le_refl _, by omega, fun i hi => by omega⟩
/-- Its first m numbers are cut off. -/
theorem Mid.cut {B : Nat} {W : World} {a : Option Addr} {n cap : Nat} {z : Nat → Nat} (h : Mid B W a n cap z) {m : Nat} (hm : m ≤ n) (hne : cap ≠ m) :
    ∃ g off, a = some ⟨g, off, none⟩ ∧ Mid B W (some ⟨g, off + m, none⟩) (n - m) (cap - m) (fun i => z (m + i)) := by
  rcases h with ⟨_, h0, h1⟩ | ⟨g, off, cur, ha, hB, hg, h1, h2, hc⟩
  · omega
  · refine ⟨g, off, ha, .inr ⟨g, off + m, cur, rfl, hB, hg, by omega, by omega, fun i hi => ?_⟩⟩
    have := hc (m + i) (by omega)
    rw [show off + (m + i) = off + m + i by omega] at this
    exact this

theorem grown_drew_alloc (W : World) (o : Obj) (r : Option Nat) : W.grownBy (W.drew.alloc o) r :=
  ⟨rfl, rfl, rfl, by simp, fun k hk _ => Below.heap_alloc W.drew o k hk⟩

theorem run_append_mid {B : Nat} {W : World} {a : Option Addr} {n cap : Nat} {z : Nat → Nat} (h : Mid B W a n cap z) (hn : n ≤ 100000) (hB : B ≤ W.heap.size) {S y : Nat} (hS : W.heap[S]? = some (.cells #[.int .i64 y] 3)) (ty : TypeId) :
    ∃ a' cap' W', (Builtin.append_ #[28, 28] ty #[.slice a n cap, .slice (some ⟨S, 0, none⟩) 1 1]).run Try.prog W = .ok (.slice a' (n + 1) cap') W' ∧ Mid B W' a' (n + 1) cap' (ext z n y) ∧
      W.grownBy W' (Value.slice a n cap).ownBlock ∧ (∃ g' o', a' = some ⟨g', o', none⟩ ∧ (g' = W.heap.size ∨ ∃ o, a = some ⟨g', o, none⟩)) := by
  obtain ⟨i0, hi, hz0, hz1, hz2⟩ := info_parts Try.info3
  have hsrc : Src Try.prog i0.size 28 (.slice (some ⟨S, 0, none⟩) 1 1) 1 [.int .i64 y] W := by
    refine Src.ofSlice W Try.underlying28 _ 1 1 _ (by rw [hz1]; rfl) ?_ (by simp [Value.oneCell'])
    intro j u hu
    have hj : j = 0 := by
      rcases j with _ | j
      · rfl
      · simp at hu
    subst hj
    have hu' : Value.int .i64 y = u := by simpa using hu
    rw [← hu']
    have : W.cell? ⟨S, 0, none⟩ = some (.int .i64 y) := by rw [cell_of_row _ _ _ _ _ _ hS]; rfl
    simpa [Addr.add] using this
  have hle := h.le
  by_cases hroom : n + 1 ≤ cap
  · rcases h with ⟨_, h0, h1⟩ | ⟨g, off, cur, rfl, hBg, hg, h1, h2, hc⟩
    · omega
    · have hrun := run_append_room_src (P := Try.prog) W 28 28 ty 3 i0 Try.underlying28 hi g off n cap _ 1 _ hsrc hroom
        (fun j hj => by
          obtain rfl : j = 0 := by simpa using hj
          rw [hz1, cell_of_row _ _ _ _ _ _ hg, Array.getElem?_eq_getElem (by omega)]; rfl)
        (fun j hj => frozen_of_row _ _ _ _ _ hg)
      refine ⟨_, _, _, hrun, .inr ⟨g, off, _, rfl, hBg, heap_setCell_same W g _ cur 3 _ hg, by omega, by simpa using h2, fun i hi2 => ?_⟩, ?_, ⟨g, off, rfl, .inr ⟨off, rfl⟩⟩⟩
      · rw [hz1, Nat.mul_one]
        by_cases e : i = n
        · subst e
          rw [ext_eq, Array.getElem?_setIfInBounds_self_of_lt (by omega)]
        · rw [ext_lt z (by omega), Array.getElem?_setIfInBounds_ne (by omega)]
          exact hc i (by omega)
      · refine ⟨rfl, rfl, rfl, by simp [World.setCells, World.setCell], fun k hk hne => ?_⟩
        exact heap_setCell_other W ⟨g, off + n * i0.size, none⟩ k _ (fun e => hne (by rw [e]; rfl))
  · have hbytes : Builtin.nextslicecap (n + 1) cap * i0.bytes ≤ 281474976710656 := growslice_fits (by omega) (by rw [hz2]; omega)
    have hge := grownCap_ge W (n + 1) cap 3
    have hzc : (Builtin.zeroCells (Value.int .i64 0).cells (grownCap W (n + 1) cap 3 - (n + 1))).size = grownCap W (n + 1) cap 3 - (n + 1) := by rw [size_zeroCells]; simp [Value.cells]
    rcases h with ⟨rfl, rfl, rfl⟩ | ⟨g, off, cur, rfl, hBg, hg, h1, h2, hc⟩
    · have hrun := run_append_grow_src (P := Try.prog) W 28 28 ty 3 i0 _ Try.underlying28 hi hz0 none 0 0 [] (run_firstCells_none W.drew i0.size 0 0 0) _ 1 _ hsrc (by omega) (by omega) hbytes
      refine ⟨_, _, _, hrun, .inr ⟨W.heap.size, 0, _, rfl, hB, heap_alloc_new W.drew _, by omega, ?_, fun i hi2 => ?_⟩, grown_drew_alloc W _ _, ⟨_, _, rfl, .inl rfl⟩⟩
      · simp only [Array.size_append, hzc]; simp; omega
      · obtain rfl : i = 0 := by omega
        rw [ext_eq, Array.getElem?_append_left (by simp)]; rfl
    · have holds : ∀ j v, (cur.toList.drop off |>.take n)[j]? = some v → W.drew.cell? ((⟨g, off, none⟩ : Addr).add j) = some v := by
        intro j v hv
        have hj : j < n := by
          rcases Nat.lt_or_ge j n with h | h
          · exact h
          · rw [List.getElem?_eq_none (by simp; omega)] at hv; cases hv
        rw [List.getElem?_take_of_lt hj, List.getElem?_drop] at hv
        have e : (⟨g, off, none⟩ : Addr).add j = ⟨g, off + j, none⟩ := by unfold Addr.add; split <;> simp_all
        rw [e, cell_of_row W.drew _ _ _ _ _ hg]
        simpa using hv
      have hlen : (cur.toList.drop off |>.take n).length = n * i0.size := by rw [hz1]; simp; omega
      have hrun := run_append_grow_src (P := Try.prog) W 28 28 ty 3 i0 _ Try.underlying28 hi hz0 (some ⟨g, off, none⟩) n cap (cur.toList.drop off |>.take n) (run_firstCells_some W.drew i0.size n _ n cap _ hlen holds) _ 1 _ hsrc (by omega) (by omega) hbytes
      have hl2 : (cur.toList.drop off |>.take n).length = n := by rw [hlen, hz1]; omega
      refine ⟨_, _, _, hrun, .inr ⟨W.heap.size, 0, _, rfl, hB, heap_alloc_new W.drew _, by omega, ?_, fun i hi2 => ?_⟩, grown_drew_alloc W _ _, ⟨_, _, rfl, .inl rfl⟩⟩
      · simp only [Array.size_append, hzc, List.size_toArray, List.length_append, hl2, List.length_singleton]; omega
      · rw [Nat.zero_add, Array.getElem?_append_left (by simp only [List.size_toArray, List.length_append, hl2, List.length_singleton]; omega), List.getElem?_toArray]
        by_cases e : i = n
        · subst e
          rw [ext_eq, List.getElem?_append_right (by omega), hl2]; simp
        · rw [ext_lt z (by omega), List.getElem?_append_left (by omega), List.getElem?_take_of_lt (by omega), List.getElem?_drop]
          have := hc i (by omega)
          simpa using this

theorem wpList_append_mid {B : Nat} {w : World} {ops : Array Oper} {rest : List Oper} {o : Oper} {a : Act} {Q : Exit → Act → World → Prop} (hgd : o.guard = none) (s x : Operand)
    (ho : o.op = .call { callee := .builtin .append, args := #[s, x], argTypes := #[28, 28] }) (aa : Option Addr) (n cap : Nat) (z : Nat → Nat) (S y : Nat)
    (hs : a.eval s = .slice aa n cap) (hx : a.eval x = .slice (some ⟨S, 0, none⟩) 1 1) (h : Mid B w aa n cap z) (hn : n ≤ 100000) (hB : B ≤ w.heap.size) (hS : w.heap[S]? = some (.cells #[.int .i64 y] 3))
    (hK : ∀ a' cap' W', Mid B W' a' (n + 1) cap' (ext z n y) → w.grownBy W' (Value.slice aa n cap).ownBlock → (∃ g' o', a' = some ⟨g', o', none⟩ ∧ (g' = w.heap.size ∨ ∃ o, aa = some ⟨g', o, none⟩)) →
      wpList Try.prog ops Q rest (a.put o.dst (.slice a' (n + 1) cap')) W') : wpList Try.prog ops Q (o :: rest) a w := by
  refine wpList_plain hgd fun K hK' => ?_
  obtain ⟨a', cap', W', hrun, h1, h2, h3⟩ := run_append_mid h hn hB hS o.type
  unfold Oper.wp
  simp [execOp, ho, resolve, invoke, builtin, hs, hx, hrun, Result.andThen]
  exact hK' _ _ (hK a' cap' W' h1 h2 h3)
end Go.Proofs.Ytlccgphblbdjkaa
