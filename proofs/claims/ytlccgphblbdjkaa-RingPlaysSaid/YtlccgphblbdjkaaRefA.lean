/-
  The contracts of quernref12: New, Free, Tail, Give.
  Conditions: the ring is such as New and the calls leave it.
-/
import Derived.Test.YtlccgphblbdjkaaMid
import Derived.Laws.AppendOwnNone
import Derived.Deep.AppendLies
namespace Go.Proofs.Ytlccgphblbdjkaa
open Go.RowKit
set_option linter.unusedVariables false

/-- The cells of n numbers. -/
abbrev nr (n : Nat) (z : Nat → Nat) : List Value := (List.range n).map fun i => .int .i64 (z i)

/-- The block b2 is the document's ring of a journal of J blocks: the places z in use, n of them, and the head. -/
structure IsRef (b2 J : Nat) (v : Value) (n H : Nat) (z : Nat → Nat) (W : World) : Prop where
  here : W.heap[b2]? = some (.cells #[.int .i64 J, v, .int .i64 H] 45)
  own : W.ownsRow (b2 + 1) 3 1 v n (nr n z)
  jp : 1 ≤ J
  jm : J ≤ 1000
  nm : n < J
  hm : H ≤ J

/-- The world W' is W where block b2 and the block of v alone were written. -/
structure RMv (b2 : Nat) (v : Value) (W W' : World) : Prop where
  os : W'.os = W.os
  tape : W'.tape = W.tape
  output : W'.output = W.output
  size : W.heap.size ≤ W'.heap.size
  block : ∀ k, k < W.heap.size → k ≠ b2 → v.ownBlock ≠ some k → W'.heap[k]? = W.heap[k]?

theorem IsRef.shape {b2 J : Nat} {v : Value} {n H : Nat} {z : Nat → Nat} {W : World} (h : IsRef b2 J v n H z W) : ∃ a cap, v = .slice a n cap := by
  rcases h.own.2 with ⟨h0, h1⟩ | ⟨g, cap, _, h0, _⟩
  · exact ⟨none, 0, by rw [h0, h1]⟩
  · exact ⟨_, _, h0⟩
theorem IsRef.c0 {b2 J : Nat} {v : Value} {n H : Nat} {z : Nat → Nat} {W : World} (h : IsRef b2 J v n H z W) : W.cell? ⟨b2, 0, none⟩ = some (.int .i64 J) := by rw [cell_of_row _ _ _ _ _ _ h.here]; rfl
theorem IsRef.c1 {b2 J : Nat} {v : Value} {n H : Nat} {z : Nat → Nat} {W : World} (h : IsRef b2 J v n H z W) : W.cell? ⟨b2, 1, none⟩ = some v := by rw [cell_of_row _ _ _ _ _ _ h.here]; rfl
theorem IsRef.c2 {b2 J : Nat} {v : Value} {n H : Nat} {z : Nat → Nat} {W : World} (h : IsRef b2 J v n H z W) : W.cell? ⟨b2, 2, none⟩ = some (.int .i64 H) := by rw [cell_of_row _ _ _ _ _ _ h.here]; rfl
theorem own_same {A A' : World} {B : Nat} {v : Value} {n : Nat} {xs : List Value} (h : A.ownsRow B 3 1 v n xs) (hs : ∀ g, v.ownBlock = some g → B ≤ g → g < A.heap.size → A'.heap[g]? = A.heap[g]?) : A'.ownsRow B 3 1 v n xs := by
  refine ⟨h.1, ?_⟩
  rcases h.2 with h0 | ⟨g, cap, cur, hv, hb, hgg, rest⟩
  · exact .inl h0
  · exact .inr ⟨g, cap, cur, hv, hb, (hs g (by rw [hv]; rfl) hb (Array.getElem?_eq_some_iff.1 hgg).1).trans hgg, rest⟩
theorem own_base {A : World} {B : Nat} {v : Value} {n : Nat} {xs : List Value} (h : A.ownsRow B 3 1 v n xs) {g : Nat} (e : v.ownBlock = some g) : B ≤ g ∧ g < A.heap.size := h.lt g e
theorem own_cell {A : World} {B : Nat} {v : Value} {n : Nat} {z : Nat → Nat} (h : A.ownsRow B 3 1 v n (nr n z)) {i : Nat} (hi : i < n) : ∃ g cap, v = .slice (some ⟨g, 0, none⟩) n cap ∧ B ≤ g ∧ g < A.heap.size ∧ A.cell? ⟨g, i, none⟩ = some (.int .i64 (z i)) := by
  rcases h.2 with ⟨_, h0⟩ | ⟨g, cap, cur, hv, hb, hg, hn, _, hs, ht⟩
  · omega
  · refine ⟨g, cap, hv, hb, (Array.getElem?_eq_some_iff.1 hg).1, ?_⟩
    rw [cell_of_row _ _ _ _ _ _ hg]
    have : (cur.toList.take (n * 1))[i]? = some (.int .i64 (z i)) := by rw [ht]; simp [hi]
    rw [List.getElem?_take_of_lt (by omega)] at this
    simpa using this
theorem IsRef.same {b2 J : Nat} {v : Value} {n H : Nat} {z : Nat → Nat} {W W' : World} (h : IsRef b2 J v n H z W) (hs : ∀ g, b2 ≤ g → g < W.heap.size → W'.heap[g]? = W.heap[g]?) : IsRef b2 J v n H z W' :=
  ⟨(hs b2 (Nat.le_refl _) (Array.getElem?_eq_some_iff.1 h.here).1).trans h.here, own_same h.own (fun g _ hb hg => hs g (by omega) hg), h.jp, h.jm, h.nm, h.hm⟩
theorem IsRef.drewN {b2 J : Nat} {v : Value} {n H : Nat} {z : Nat → Nat} {W : World} (h : IsRef b2 J v n H z W) (k : Nat) : IsRef b2 J v n H z (W.drewN k) := h.same fun _ _ _ => rfl
theorem IsRef.keep {b2 J : Nat} {v : Value} {n H : Nat} {z : Nat → Nat} {W W' : World} (h : IsRef b2 J v n H z W) (hb : Below W.heap.size W W') : IsRef b2 J v n H z W' := h.same fun g _ hg => hb.block g hg
theorem IsRef.moved {b p t u b2 J : Nat} {v : Value} {n H : Nat} {z : Nat → Nat} {W W' : World} (h : IsRef b2 J v n H z W) (hm : Moved b p t u W W') (hb : b < b2) : IsRef b2 J v n H z W' := h.same fun g h1 hg => hm.block g hg (by omega)
theorem IsRef.ext {b2 J : Nat} {v : Value} {n H : Nat} {z z' : Nat → Nat} {W : World} (h : IsRef b2 J v n H z W) (e : ∀ i, i < n → z i = z' i) : IsRef b2 J v n H z' W := by
  have : nr n z = nr n z' := List.map_congr_left (fun i hi => by rw [e i (List.mem_range.1 hi)])
  exact ⟨h.here, this ▸ h.own, h.jp, h.jm, h.nm, h.hm⟩

set_option maxHeartbeats 400000 in
theorem rnew_yes (j : Nat) (w : World) (h1 : 40 ≤ j) (h2 : j ≤ 256) :
    Calls Try.prog 15 #[.int .i64 j] w fun e w' => e = .returned (.tuple #[.pointer (some ⟨w.heap.size, 0, none⟩), .int .i64 0]) ∧ w' = w.alloc (.cells #[.int .i64 j, .slice none 0 0, .int .i64 1] 45) := by
  have d1 : decide ((j : Int) < 40) = false := by simp; omega
  have d2 : decide ((256 : Int) < (j : Int)) = false := by simp; omega
  have d3 : decide (256 < j) = false := by simp; omega
  go_enter Try.func15, Try.ntmps15
  go_wp2
  go_ret2
  exact ⟨rfl, rfl⟩

set_option maxHeartbeats 400000 in
theorem rnew_no (j : Int) (w : World) (h : j < 40 ∨ 256 < j) :
    Calls Try.prog 15 #[.int .i64 j] w fun e w' => e = .returned (.tuple #[.pointer none, .int .i64 2]) ∧ w' = w := by
  rcases h with h | h
  · go_enter Try.func15, Try.ntmps15
    go_wp2
    go_ret2
    exact ⟨rfl, rfl⟩
  · have d1 : decide (j < 40) = false := by simp; omega
    have d2 : decide ((256 : Int) < j) = true := by simp; omega
    go_enter Try.func15, Try.ntmps15
    go_wp2
    go_ret2
    exact ⟨rfl, rfl⟩

set_option maxRecDepth 100000 in
set_option maxHeartbeats 400000 in
theorem rfree_any (b2 J : Nat) (v : Value) (n H : Nat) (z : Nat → Nat) (w : World) (h : IsRef b2 J v n H z w) :
    Calls Try.prog 20 #[.pointer (some ⟨b2, 0, none⟩)] w fun e w' => e = .returned (.int .i64 ((J : Int) - 1 - n)) ∧ ∃ k, w' = w.drewN k := by
  obtain ⟨a, cap, rfl⟩ := h.shape
  have h0 := h.c0
  have h1 := h.c1
  have hjm := h.jm
  have hnm := h.nm
  clear h
  have hw : IntKind.i64.wrap ((J : Int) - 1) = (J : Int) - 1 := IntWalk.i64_in _ (by omega)
  have hw2 : IntKind.i64.wrap ((J : Int) - 1 - n) = (J : Int) - 1 - n := IntWalk.i64_in _ (by omega)
  go_enter Try.func20, Try.ntmps20
  go_wp2
  go_quiet (fail)
  go_wp2
  go_ret
  exact ⟨rfl, _, rfl⟩

set_option maxRecDepth 100000 in
set_option maxHeartbeats 400000 in
theorem rtail_any (b2 J : Nat) (v : Value) (n H : Nat) (z : Nat → Nat) (w : World) (h : IsRef b2 J v n H z w) (T : Nat) (hT : (n = 0 ∧ H = T) ∨ (0 < n ∧ z 0 = T)) :
    Calls Try.prog 22 #[.pointer (some ⟨b2, 0, none⟩)] w fun e w' => e = .returned (.int .i64 T) ∧ ∃ k, w' = w.drewN k := by
  rcases hT with ⟨rfl, rfl⟩ | ⟨hn, rfl⟩
  · obtain ⟨a, cap, rfl⟩ := h.shape
    have h1 := h.c1
    have h2 := h.c2
    clear h
    go_enter Try.func22, Try.ntmps22
    go_wp2
    go_ret
    exact ⟨rfl, 0, rfl⟩
  · obtain ⟨g, cap, rfl, _, _, hc⟩ := own_cell h.own hn
    have h1 := h.c1
    have hnb : ((n : Int) == 0) = false := by simp; omega
    have hn1 : (0 : Int) < (n : Int) := by omega
    clear h
    go_enter Try.func22, Try.ntmps22
    go_wp2
    go_ret
    exact ⟨rfl, 0, rfl⟩

set_option maxHeartbeats 400000 in
theorem rgive_neg (b2 : Nat) (x : Int) (w : World) (hx : x < 0) :
    Calls Try.prog 16 #[.pointer (some ⟨b2, 0, none⟩), .int .i64 x] w fun e w' => e = .returned (.int .i64 2) ∧ w' = w := by
  go_enter Try.func16, Try.ntmps16
  go_wp2
  go_ret
  exact ⟨rfl, rfl⟩

set_option maxHeartbeats 400000 in
theorem rgive_much (b2 J : Nat) (v : Value) (n H : Nat) (z : Nat → Nat) (x : Int) (w : World) (h : IsRef b2 J v n H z w) (hx : (n : Int) < x) :
    Calls Try.prog 16 #[.pointer (some ⟨b2, 0, none⟩), .int .i64 x] w fun e w' => e = .returned (.int .i64 120) ∧ w' = w := by
  obtain ⟨a, cap, rfl⟩ := h.shape
  have h1 := h.c1
  clear h
  have h0 : 0 ≤ x := by omega
  go_enter Try.func16, Try.ntmps16
  go_wp2
  go_ret
  exact ⟨rfl, rfl⟩
end Go.Proofs.Ytlccgphblbdjkaa
