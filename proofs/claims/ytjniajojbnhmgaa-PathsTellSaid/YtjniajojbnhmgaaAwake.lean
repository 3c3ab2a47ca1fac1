/-
  The contracts of paths.Indirect, in plain numbers, and of quernlaw10.awake: it returns true and changes nothing that was there.
  Conditions: none.
-/
import Derived.Test.YtjniajojbnhmgaaMath
namespace Go.Proofs.Ytjniajojbnhmgaa
open Go.RowKit
set_option linter.unusedVariables false

theorem indirect_any (b : Int) (w : World) : Calls Try.prog 26 #[.int .i64 b] w fun e w' => e = .returned (.int .i64 (ind (min (max b 0) 65536))) ∧ Below w.heap.size w w' := by
  refine (indirect_raw b w).mono ?_
  rintro e w' ⟨pre, rfl, hb, hall, h⟩
  rw [tot_ind (by omega) hall h]
  exact ⟨rfl, hb⟩

theorem of_at (k : Int) (p : Int) (n : Nat) (z : Nat → Int) (h0 : 0 ≤ k) (h1 : k < 65536) (hp : ofP k = p) (hn : ofN k = n) (hz : ∀ i, i < n → ofZ k i = z i) (w : World) :
    Calls Try.prog 17 #[.int .i64 k] w fun e w' => ∃ a cap, e = .returned (.tuple #[.int .i64 p, .slice a n cap, .int .i64 0]) ∧ Below w.heap.size w w' ∧ Sl w' a n z := by
  refine (of_yes k h0 h1 w).mono ?_
  rintro e w' ⟨a, cap, rfl, hb, hO⟩
  rw [hp, hn]
  refine ⟨a, cap, rfl, hb, ?_⟩
  rw [hn] at hO
  rcases hO.sl with h | ⟨g, o, ha, hg, hc⟩
  · exact .inl h
  · exact .inr ⟨g, o, ha, hg, fun i hi => by rw [hc i hi, hz i hi]⟩

theorem sl_lit {w : World} (cs : Array Value) (n : Nat) (z : Nat → Int) (h : ∀ i, i < n → cs[i]? = some (.int .i64 (z i))) : Sl (w.alloc (.cells cs 3)) (some ⟨w.heap.size, 0, none⟩) n z :=
  .inr ⟨w.heap.size, 0, rfl, by simp, fun i hi => by rw [Nat.zero_add, cell_of_row _ _ _ _ _ _ (heap_alloc_new w _)]; exact h i hi⟩

def zA (i : Nat) : Int := 0
def zB (i : Nat) : Int := if i = 0 then 14 else if i = 1 then 62 else 55
def zC (i : Nat) : Int := if i = 0 then 1 else 2
def zD (i : Nat) : Int := 63

theorem three {P : Nat → Prop} (h0 : P 0) (h1 : P 1) (h2 : P 2) : ∀ i, i < 3 → P i := by
  intro i hi
  have : i = 0 ∨ i = 1 ∨ i = 2 := by omega
  rcases this with rfl | rfl | rfl
  · exact h0
  · exact h1
  · exact h2

theorem two {P : Nat → Prop} (h0 : P 0) (h1 : P 1) : ∀ i, i < 2 → P i := by
  intro i hi
  have : i = 0 ∨ i = 1 := by omega
  rcases this with rfl | rfl
  · exact h0
  · exact h1
theorem below_alloc' {B : Nat} {w W : World} (h : Below B w W) (hB : B ≤ W.heap.size) (o : Obj) : Below B w (W.alloc o) := h.alloc hB o

theorem idx_at (p : Int) (a : Option Addr) (n cap : Nat) (z : Nat → Int) (x c : Int) (hn : n ≤ 1000000) (h : (good p n z ∧ acc p z n = x ∧ c = 0) ∨ (¬ good p n z ∧ x = 0 ∧ c = 100)) (w : World) (hs : Sl w a n z) :
    Calls Try.prog 13 #[.int .i64 p, .slice a n cap] w fun e w' => e = .returned (.tuple #[.int .i64 x, .int .i64 c]) ∧ Below w.heap.size w w' := by
  refine (index_any p a n cap hn z w hs).mono ?_
  rintro e w' ⟨x', c', rfl, hb, h'⟩
  rcases h with ⟨g, h3, h4⟩ | ⟨g, h3, h4⟩ <;> rcases h' with ⟨g', h5, h6⟩ | ⟨g', h5, h6⟩
  · rw [h5, h6, h3, h4]; exact ⟨rfl, hb⟩
  · exact absurd g g'
  · exact absurd g' g
  · rw [h5, h6, h3, h4]; exact ⟨rfl, hb⟩

theorem good_c : good 9 2 zC ∧ acc 9 zC 2 = 138 := by
  have e1 : acc 9 zC 2 = 138 := by decide
  refine ⟨⟨by decide, by decide, fun j hj => ?_, by rw [e1]; omega⟩, e1⟩
  unfold zC; split <;> omega
theorem bad_d : ¬ good 10 3 zD := fun h => by
  have e1 : acc 10 zD 3 = 266311 := by decide
  have := h.2.2.2
  rw [e1] at this
  omega

set_option maxRecDepth 100000 in
set_option maxHeartbeats 2000000 in
theorem awake_any (w : World) : Calls Try.prog 28 #[] w fun e w' => e = .returned (.bool true) ∧ Below w.heap.size w w' := by
  go_enter Try.func28, Try.ntmps28
  go_wp2_with fail
  refine (of_at 4168 10 3 zA (by omega) (by omega) (by decide) (by decide) (three (by decide) (by decide) (by decide)) _).mono ?_
  rintro e w1 ⟨a1, c1, rfl, hb1, hs1⟩
  have HB1 := Lib.hid hb1
  have HS1 := Lib.hid hs1
  clear hb1 hs1
  go_wp2_with fail
  refine (of_at 65535 10 3 zB (by omega) (by omega) (by decide) (by decide) (three (by decide) (by decide) (by decide)) _).mono ?_
  rintro e w2 ⟨a2, c2, rfl, hb2, hs2⟩
  have HB2 := Lib.hid (HB1.out.trans (hb2.mono HB1.out.size))
  have HS1' := Lib.hid (HS1.out.keep hb2)
  have HS2 := Lib.hid hs2
  clear hb2 hs2 HS1 HB1
  go_wp2_with fail
  refine (idx_at 9 _ 2 _ zC 138 0 (by omega) (.inl ⟨good_c.1, good_c.2, rfl⟩) _ (sl_lit _ 2 zC (two rfl rfl))).mono ?_
  rintro e w3 ⟨rfl, hb3⟩
  have HB3' : Hid (Below w2.heap.size w2 w3) := Lib.hid (((Below.refl _ w2).alloc (Nat.le_refl _) _).trans (hb3.mono (by simp)))
  have HB3 := Lib.hid (HB2.out.trans (HB3'.out.mono HB2.out.size))
  have HS1 := Lib.hid (HS1'.out.keep HB3'.out)
  have HS2' := Lib.hid (HS2.out.keep HB3'.out)
  clear hb3 HB3' HB2 HS1' HS2
  go_wp2_with fail
  refine (idx_at 10 _ 3 _ zD 0 100 (by omega) (.inr ⟨bad_d, rfl, rfl⟩) _ (sl_lit _ 3 zD (three rfl rfl rfl))).mono ?_
  rintro e w4 ⟨rfl, hb4⟩
  have HB4' : Hid (Below w3.heap.size w3 w4) := Lib.hid (((Below.refl _ w3).alloc (Nat.le_refl _) _).trans (hb4.mono (by simp)))
  have HB4 := Lib.hid (HB3.out.trans (HB4'.out.mono HB3.out.size))
  have HS1' := Lib.hid (HS1.out.keep HB4'.out)
  have HS2 := Lib.hid (HS2'.out.keep HB4'.out)
  clear hb4 HB4' HB3 HS1 HS2'
  go_wp2_with fail
  refine (same_yes 3 (by omega) zA _ _ _ _ _ (HS1'.out.keep ((Below.refl _ w4).alloc (Nat.le_refl _) _)) (sl_lit _ 3 zA (three rfl rfl rfl))).mono ?_
  rintro e w5 ⟨rfl, k5, rfl⟩
  have HB5 := Lib.hid (below_drewN (HB4.out.alloc HB4.out.size (.cells #[.int .i64 0, .int .i64 0, .int .i64 0] 3)) k5)
  have HS2' := Lib.hid (HS2.out.keep (below_drewN ((Below.refl _ w4).alloc (Nat.le_refl _) (.cells #[.int .i64 0, .int .i64 0, .int .i64 0] 3)) k5))
  obtain ⟨W5, hW5⟩ : ∃ W5, W5 = (w4.alloc (.cells #[.int .i64 0, .int .i64 0, .int .i64 0] 3)).drewN k5 := ⟨_, rfl⟩
  rw [← hW5] at HB5 HS2' ⊢
  clear hW5 HS1' HS2 HB4
  go_wp2_with fail
  refine (same_yes 3 (by omega) zB _ _ _ _ _ (HS2'.out.keep ((Below.refl _ W5).alloc (Nat.le_refl _) _)) (sl_lit _ 3 zB (three rfl rfl rfl))).mono ?_
  rintro e w6 ⟨rfl, k6, rfl⟩
  have HB6 := Lib.hid (below_drewN (HB5.out.alloc HB5.out.size (.cells #[.int .i64 14, .int .i64 62, .int .i64 55] 3)) k6)
  obtain ⟨W6, hW6⟩ : ∃ W6, W6 = (W5.alloc (.cells #[.int .i64 14, .int .i64 62, .int .i64 55] 3)).drewN k6 := ⟨_, rfl⟩
  rw [← hW6] at HB6 ⊢
  clear hW6 HS2' HB5
  go_wp2_with fail
  refine (next_any 71 _).mono ?_
  rintro e w7 ⟨rfl, hw7⟩
  rw [hw7, show nxt 71 = 72 by decide]
  clear hw7
  go_wp2_with fail
  refine (indirect_any 73 _).mono ?_
  rintro e w8 ⟨rfl, hb8⟩
  have HB8 := Lib.hid (HB6.out.trans (hb8.mono HB6.out.size))
  rw [show ind (min (max 73 0) 65536) = 3 by decide]
  clear hb8 HB6
  go_wp2_with fail
  refine (level_any 8 _).mono ?_
  rintro e w9 ⟨rfl, hw9⟩
  rw [hw9, show lev 8 = 1 by decide]
  clear hw9
  go_wp2_with fail
  refine (span_any 2 _).mono ?_
  rintro e w10 ⟨rfl, hw10⟩
  rw [hw10, show spn 2 = 4096 by decide]
  clear hw10
  go_wp2_with fail
  refine (first_any 10 _).mono ?_
  rintro e w11 ⟨rfl, hb11⟩
  have HB11 := Lib.hid (HB8.out.trans (hb11.mono HB8.out.size))
  rw [show frst 10 = 4168 by decide]
  clear hb11 HB8
  go_wp2
  go_ret
  exact ⟨rfl, HB11.out⟩
end Go.Proofs.Ytjniajojbnhmgaa
