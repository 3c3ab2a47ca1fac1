/-
  The contract of quernref12's Give, where it gives back.
  Conditions: the ring is such as New and the calls leave it.
-/
import Derived.Test.YtlccgphblbdjkaaRefA
namespace Go.Proofs.Ytlccgphblbdjkaa
open Go.RowKit
set_option linter.unusedVariables false

/-- What Give answers where it gives m places back. -/
def RGive (b2 J : Nat) (v : Value) (n H : Nat) (z : Nat → Nat) (m : Nat) (w : World) (e : Ending) (w' : World) : Prop :=
  e = .returned (.int .i64 0) ∧ RMv b2 v w w' ∧ ∃ v', IsRef b2 J v' (n - m) H (fun i => z (m + i)) w'

theorem made_own (B : Nat) (w : World) (hB : B ≤ w.heap.size) : (w.alloc (.cells #[] 3)).ownsRow B 3 1 (.slice (some ⟨w.heap.size, 0, none⟩) 0 0) 0 [] := World.ownsRow_made w #[] 0 hB (by simp [maxLen]) rfl

/-- Behind the append: the ring, once what was appended lies in its field. -/
theorem give_end {b2 J : Nat} {v : Value} {n H : Nat} {z : Nat → Nat} {m : Nat} {w w1 : World} (h : IsRef b2 J v n H z w) (hm : m ≤ n) {a' : Option Addr} {c' : Nat}
    (hown : w1.ownsRow (b2 + 1) 3 1 (.slice a' (n - m) c') (n - m) (nr (n - m) fun i => z (m + i))) (hg : (w.alloc (.cells #[] 3)).grownBy w1 (some w.heap.size)) :
    RGive b2 J v n H z m w (.returned (.int .i64 0)) (w1.setCell ⟨b2, 1, none⟩ (.slice a' (n - m) c')) := by
  have hbl := (Array.getElem?_eq_some_iff.1 h.here).1
  have key : ∀ g, g < w.heap.size → w1.heap[g]? = w.heap[g]? := fun g hg2 => by
    rw [hg.block g (by simp; omega) (by simp; omega)]; exact Below.heap_alloc _ _ _ hg2
  have e1 := heap_setCell_same w1 b2 1 _ 45 (.slice a' (n - m) c') ((key b2 hbl).trans h.here)
  refine ⟨rfl, ⟨?_, ?_, ?_, ?_, ?_⟩, .slice a' (n - m) c', e1, ?_, h.jp, h.jm, by have := h.nm; omega, h.hm⟩
  · exact hg.os
  · exact hg.tape
  · exact hg.output
  · have := hg.size
    simp [World.setCell] at this ⊢
    omega
  · intro k hk hne _
    rw [heap_setCell_other _ _ _ _ hne]
    exact key k hk
  · exact own_same hown (fun g _ hb _ => heap_setCell_other _ _ _ _ (by simp; omega))

theorem own_shape {A : World} {B : Nat} {v : Value} {n : Nat} {xs : List Value} (h : A.ownsRow B 3 1 v n xs) : ∃ a cap, v = .slice a n cap := by
  rcases h.2 with ⟨h0, h1⟩ | ⟨g, cap, _, h0, _⟩
  · exact ⟨none, 0, by rw [h0, h1]⟩
  · exact ⟨_, _, h0⟩

set_option maxRecDepth 100000 in
set_option maxHeartbeats 1000000 in
theorem rgive_does (b2 J : Nat) (v : Value) (n H : Nat) (z : Nat → Nat) (m : Nat) (w : World) (h : IsRef b2 J v n H z w) (hm : m ≤ n) :
    Calls Try.prog 16 #[.pointer (some ⟨b2, 0, none⟩), .int .i64 m] w (RGive b2 J v n H z m w) := by
  obtain ⟨i0, hi0, hz0, hz1, hz2⟩ := info_parts Try.info3
  have hbl := (Array.getElem?_eq_some_iff.1 h.here).1
  have hjm := h.jm
  have hnm := h.nm
  have HO := Lib.hid (made_own (b2 + 1) w hbl)
  have HE := Lib.hid (fun (w1 : World) (a' : Option Addr) (c' : Nat) h1 h2 => give_end h hm (w1 := w1) (a' := a') (c' := c') h1 h2)
  have HE0 : Hid (n - m = 0 → ∀ (w1 : World) (a' : Option Addr) (c' : Nat), w1.ownsRow (b2 + 1) 3 1 (.slice a' 0 c') 0 [] → (w.alloc (.cells #[] 3)).grownBy w1 (some w.heap.size) → RGive b2 J v n H z m w (.returned (.int .i64 0)) (w1.setCell ⟨b2, 1, none⟩ (.slice a' 0 c'))) := Lib.hid (fun e w1 a' c' h1 h2 => by
    have := HE.out w1 a' c'
    rw [e] at this
    exact this h1 h2)
  have d1 : ¬ ((n : Int) < (m : Int)) := by omega
  have HC1 : Hid (∀ w1 : World, (w.alloc (.cells #[] 3)).grownBy w1 (some w.heap.size) → w1.cell? ⟨b2, 1, none⟩ = some v ∧ w1.frozen? ⟨b2, 1, none⟩ = false) := Lib.hid (fun w1 hg => by
    have e : w1.heap[b2]? = some (.cells #[.int .i64 J, v, .int .i64 H] 45) := by rw [hg.block b2 (by simp; omega) (by simp; omega)]; exact (Below.heap_alloc _ _ _ hbl).trans h.here
    exact ⟨by rw [cell_of_row _ _ _ _ _ _ e]; rfl, frozen_of_row _ _ _ _ _ e⟩)
  rcases h.own.2 with ⟨rfl, rfl⟩ | ⟨g, cap, cur, rfl, hB, hg, hnc, _, hs, ht⟩
  · obtain rfl : m = 0 := by omega
    have c1 := h.c1
    clear h
    go_enter Try.func16, Try.ntmps16
    go_wp2_with (at_builtin; refine wpList_append_own_none rfl (.tmp 15) (.tmp 21) 28 rfl (b2 + 1) 3 i0 1 Try.underlying28 hi0 _ 0 [] rfl HO.out rfl ?_; obtain ⟨W1, hW1, hG1⟩ : ∃ W1, W1 = w.alloc (.cells #[] 3) ∧ (w.alloc (.cells #[] 3)).grownBy W1 (some w.heap.size) := ⟨_, rfl, rfl, rfl, rfl, Nat.le_refl _, fun _ _ _ => rfl⟩; rw [← hW1]; have HW := Lib.hid HO.out; rw [← hW1] at HW; obtain ⟨c1', z1'⟩ := HC1.out W1 hG1; have HG := Lib.hid hG1; clear hG1 hW1)
    go_ret
    exact HE0.out trivial _ _ _ HW.out HG.out
  · have c1 := h.c1
    have hgl := (Array.getElem?_eq_some_iff.1 hg).1
    by_cases hcap : cap = m
    · obtain rfl : n = m := by omega
      subst hcap
      have HN : Hid (nr (cap - cap) (fun i => z (cap + i)) = []) := Lib.hid (by rw [Nat.sub_self]; rfl)
      clear h
      go_enter Try.func16, Try.ntmps16
      go_wp2_with (at_builtin; refine wpList_append_own _ rfl (.tmp 15) (.tmp 21) 28 rfl (b2 + 1) 3 i0 _ 1 8 Try.underlying28 hi0 hz0 hz1 hz2 rfl (by omega) _ 0 [] rfl HO.out ⟨g, 0, none⟩ 0 0 [] rfl rfl (by simp) (by simp) (by simp [maxLen]) (by omega) (by simp; omega) ?_; intro v' w1 hown hgrow _; obtain ⟨c1', z1'⟩ := HC1.out w1 hgrow; simp only [Nat.zero_add, List.nil_append] at hown; obtain ⟨a', c', rfl⟩ := own_shape hown; have HW := Lib.hid hown; have HG := Lib.hid hgrow; clear hown hgrow)
      go_ret
      exact HE0.out (Nat.sub_self _) _ _ _ HW.out HG.out
    · have HN : Hid (∀ j u, (nr (n - m) (fun i => z (m + i)))[j]? = some u → (w.alloc (.cells #[] 3)).cell? ((⟨g, m, none⟩ : Addr).add j) = some u) := Lib.hid (by
        intro j u hu
        have hj : j < n - m := by
          rcases Nat.lt_or_ge j (n - m) with h | h
          · exact h
          · rw [List.getElem?_eq_none (by simpa using h)] at hu; cases hu
        have e : (⟨g, m, none⟩ : Addr).add j = ⟨g, m + j, none⟩ := by unfold Addr.add; split <;> simp_all
        obtain ⟨g', cap', hv, _, _, hc⟩ := own_cell h.own (i := m + j) (by omega)
        cases hv
        rw [e, World.cell?_of_block (a := ⟨g, m + j, none⟩) (Below.heap_alloc w _ g hgl), hc]
        simp [hj] at hu
        rw [hu])
      clear h
      go_enter Try.func16, Try.ntmps16
      go_wp2_with (at_builtin; refine wpList_append_own _ rfl (.tmp 15) (.tmp 21) 28 rfl (b2 + 1) 3 i0 _ 1 8 Try.underlying28 hi0 hz0 hz1 hz2 rfl (by omega) _ 0 [] rfl HO.out ⟨g, m, none⟩ (n - m) (cap - m) (nr (n - m) fun i => z (m + i)) rfl (by simp) HN.out (by simp [Value.oneCell']) (by simp [maxLen]; omega) (by omega) (by simp; omega) ?_; intro v' w1 hown hgrow _; obtain ⟨c1', z1'⟩ := HC1.out w1 hgrow; simp only [Nat.zero_add, List.nil_append] at hown; obtain ⟨a', c', rfl⟩ := own_shape hown; have HW := Lib.hid hown; have HG := Lib.hid hgrow; clear hown hgrow)
      go_ret
      exact HE.out _ _ _ HW.out HG.out
end Go.Proofs.Ytlccgphblbdjkaa
