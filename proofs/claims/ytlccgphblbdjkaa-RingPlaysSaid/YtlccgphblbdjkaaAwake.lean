/-
  The contracts of quernref11.Same where the numbers are the same, and of quernlaw12.awake: it returns true and changes nothing that was there.
  Conditions: none but those that each lemma names.
-/
import Derived.Test.YtlccgphblbdjkaaTake
namespace Go.Proofs.Ytlccgphblbdjkaa
open Go.RowKit

set_option maxRecDepth 100000 in
set_option maxHeartbeats 1000000 in
theorem same_yes (n : Nat) (hn : n ≤ 100000) (g : Nat → Int) (S1 S2 o1 o2 c1 c2 : Nat) (w : World) (h1 : ∀ i, i < n → w.cell? ⟨S1, o1 + i, none⟩ = some (.int .i64 (g i))) (h2 : ∀ i, i < n → w.cell? ⟨S2, o2 + i, none⟩ = some (.int .i64 (g i))) :
    Calls Try.prog 18 #[.slice (some ⟨S1, o1, none⟩) n c1, .slice (some ⟨S2, o2, none⟩) n c2] w fun e w' => e = .returned (.bool true) ∧ ∃ k, w' = w.drewN k := by
  have H1 := Lib.hid h1
  have H2 := Lib.hid h2
  clear h1 h2
  go_enter Try.func18, Try.ntmps18
  go_wp2
  go_loopw [5] (fun v wr => ∃ i : Nat, i ≤ n ∧ v = .int .i64 i ∧ ∃ k, wr = w.drewN k) (fun v _ => n - (intOf v).toNat)
  case atStart => exact ⟨0, Nat.zero_le _, rfl, 0, rfl⟩
  case round =>
    obtain ⟨i, hi, rfl, k, rfl⟩ := hrel
    by_cases hlt : i < n
    · have c1 : (w.drewN k).cell? ⟨S1, o1 + i, none⟩ = some (.int .i64 (g i)) := H1.out i hlt
      have c2 : (w.drewN k).cell? ⟨S2, o2 + i, none⟩ = some (.int .i64 (g i)) := H2.out i hlt
      have hl3 : (i : Int) < (n : Int) := by omega
      obtain ⟨w1, hw1⟩ : ∃ w1, w1 = w.drewN k := ⟨_, rfl⟩
      rw [← hw1] at c1 c2 ⊢
      have HW := Lib.hid hw1
      clear hw1
      go_wp2
      go_quiet (fail)
      go_wp2
      go_roundw
      case rel => exact ⟨i + 1, by omega, by go_num, k + nq, by rw [HW.out, World.drewN_drewN]⟩
      case measure => simp [intOf]; omega
    · go_wp2
      go_ret
      exact ⟨rfl, k, rfl⟩

set_option maxHeartbeats 400000 in
theorem same_nil (w : World) :
    Calls Try.prog 18 #[.slice none 0 0, .slice none 0 0] w fun e w' => e = .returned (.bool true) ∧ ∃ k, w' = w.drewN k := by
  go_enter Try.func18, Try.ntmps18
  go_wp2
  refine wp_loop_rounds 1 ?_
  rw [rounds_succ]
  go_wp2
  go_ret
  exact ⟨rfl, 0, rfl⟩
theorem new_int (j : Nat) (x : Int) (hx : x = j) (w : World) (h1 : 40 ≤ j) (h2 : j ≤ 256) :
    Calls Try.prog 9 #[.int .i64 x] w fun e w' => e = .returned (.tuple #[.pointer (some ⟨w.heap.size, 0, none⟩), .int .i64 0]) ∧ w' = w.alloc (.cells (rc (j - 1) 1 0) 47) := by
  subst hx; exact new_yes j w h1 h2
theorem take_int (b p t u n : Nat) (x : Int) (hx : x = n) (w : World) (h : IsRing b p t u w) (hn1 : 1 ≤ n) (hn2 : n ≤ p - u) :
    Calls Try.prog 11 #[.pointer (some ⟨b, 0, none⟩), .int .i64 x] w fun e w' => e = .returned (.tuple #[.slice (some ⟨w.heap.size, 0, none⟩) n n, .int .i64 0]) ∧
      Moved b p t (u + n) w w' ∧ w'.heap[w.heap.size]? = some (.cells (ic (fun j => aft p t (u + j)) n) 3) := by
  subst hx; exact take_does b p t u n w h hn1 hn2

theorem ring_new (j : Nat) (w : World) (h1 : 40 ≤ j) (h2 : j ≤ 256) : IsRing w.heap.size (j - 1) 1 0 (w.alloc (.cells (rc (j - 1) 1 0) 47)) :=
  ⟨heap_alloc_new w _, by omega, by omega, by omega, by omega, by omega⟩

/-- A ring behind a call on it, and a row that lay elsewhere. -/
theorem Moved.row {b p t u : Nat} {w w' : World} (h : Moved b p t u w w') {S : Nat} {o : Obj} (hS : w.heap[S]? = some o) (hne : S ≠ b) : w'.heap[S]? = some o :=
  (h.block S (Array.getElem?_eq_some_iff.1 hS).1 hne).trans hS

set_option maxRecDepth 100000 in
set_option maxHeartbeats 1000000 in
theorem awake_any (w : World) : Calls Try.prog 8 #[] w fun e w' => e = .returned (.bool true) ∧ Below w.heap.size w w' := by
  have HR1 := Lib.hid (ring_new 40 w (by omega) (by omega))
  go_enter Try.func8, Try.ntmps8
  go_wp2_with (first | (go_at_call 9; refine (new_int 40 _ rfl _ (by omega) (by omega)).mono ?_; rintro e w1 ⟨rfl, hw1⟩; rw [hw1]; clear hw1))
  refine (take_int w.heap.size 39 1 0 38 38 rfl _ HR1.out (by omega) (by omega)).mono ?_
  rintro e w2 ⟨rfl, hm2, hrow2⟩
  have HM2 := Lib.hid hm2
  have HX2 := Lib.hid hrow2
  clear hm2 hrow2
  go_wp2_with fail
  have g1 : giveE (0 + 38) 30 = 0 := by decide
  have g2 : giveT 39 1 (0 + 38) 30 = 31 := by decide
  have g3 : giveU (0 + 38) 30 = 8 := by decide
  have hg := give_any w.heap.size 39 1 (0 + 38) 30 w2 HM2.out.ring
  rw [g1, g2, g3] at hg
  refine hg.mono ?_
  clear hg g1 g2 g3
  rintro e w3 ⟨rfl, hm3⟩
  have HM3 := Lib.hid hm3
  clear hm3
  have l1 : w.heap.size < w2.heap.size := (Array.getElem?_eq_some_iff.1 HM2.out.ring.here).1
  have hs2 : (w.alloc (.cells (rc (40 - 1) 1 0) 47)).heap.size = w.heap.size + 1 := by simp
  rw [hs2] at HX2
  have HX3 := Lib.hid (HM3.out.row HX2.out (by omega))
  go_wp2_with fail
  refine (take_int w.heap.size 39 31 8 3 3 rfl _ HM3.out.ring (by omega) (by omega)).mono ?_
  rintro e w4 ⟨rfl, hm4, hrow4⟩
  have HM4 := Lib.hid hm4
  have HX4 := Lib.hid (hm4.row HX3.out (by omega))
  have HY4 := Lib.hid hrow4
  clear hm4 hrow4
  have cx : w4.cell? ⟨w.heap.size + 1, 37, none⟩ = some (.int .i64 38) := by rw [cell_of_row _ _ _ _ _ _ HX4.out, ic_get _ _ _ (by omega)]; rfl
  have HB4 : Hid (Below w.heap.size w w4) := Lib.hid ((((Below.refl w.heap.size w).alloc (Nat.le_refl _) (.cells (rc (40 - 1) 1 0) 47)).trans (HM2.out.below (Nat.le_refl _) (by simp))).trans ((HM3.out.below (Nat.le_refl _) (by omega)).trans (HM4.out.below (Nat.le_refl _) (by have := HM3.out.size; omega))))
  have l4 : w3.heap.size < w4.heap.size := (Array.getElem?_eq_some_iff.1 HY4.out).1
  go_wp2_with fail
  have ha : ∀ i, i < 3 → (w4.alloc (.cells #[.int .i64 39, .int .i64 1, .int .i64 2] 3)).cell? ⟨w3.heap.size, 0 + i, none⟩ = some (.int .i64 (aft 39 31 (8 + i))) := by
    intro i hi
    rw [Nat.zero_add, cell_of_row _ _ _ _ _ _ ((Below.heap_alloc _ _ _ l4).trans HY4.out), ic_get _ _ _ hi]
  have hb : ∀ i, i < 3 → (w4.alloc (.cells #[.int .i64 39, .int .i64 1, .int .i64 2] 3)).cell? ⟨w4.heap.size, 0 + i, none⟩ = some (.int .i64 (aft 39 31 (8 + i))) := by
    intro i hi
    rw [Nat.zero_add, cell_of_row _ _ _ _ _ _ (heap_alloc_new w4 _)]
    have : i = 0 ∨ i = 1 ∨ i = 2 := by omega
    rcases this with rfl | rfl | rfl <;> rfl
  refine (same_yes 3 (by omega) (fun i => (aft 39 31 (8 + i) : Int)) _ _ _ _ _ _ _ ha hb).mono ?_
  clear ha hb
  rintro e w5 ⟨rfl, k, rfl⟩
  have HR5 : Hid (IsRing w.heap.size 39 31 (8 + 3) (w4.alloc (.cells #[.int .i64 39, .int .i64 1, .int .i64 2] 3))) := Lib.hid (HM4.out.ring.below ((Below.refl _ w4).alloc (Nat.le_refl _) _))
  have HB5 : Hid (Below w.heap.size w (w4.alloc (.cells #[.int .i64 39, .int .i64 1, .int .i64 2] 3))) := Lib.hid (HB4.out.alloc HB4.out.size _)
  go_wp2_with fail
  refine (tail_any w.heap.size 39 31 (8 + 3) _ (HR5.out.drewN _)).mono ?_
  rintro e w6 ⟨rfl, k6, rfl⟩
  go_wp2_with fail
  refine (used_any w.heap.size 39 31 (8 + 3) _ (HR5.out.drewN _)).mono ?_
  rintro e w7 ⟨rfl, k7, rfl⟩
  go_wp2
  go_ret
  exact ⟨rfl, below_drewN HB5.out _⟩
end Go.Proofs.Ytlccgphblbdjkaa
