/-
  The walk of quernlaw10.PathsIndex: it returns true, of any number and slice of ints, and changes nothing that was there.
  Conditions: none.
-/
import Derived.Test.YtjniajojbnhmgaaRindex
import Derived.Test.YtjniajojbnhmgaaOpen
import Derived.Laws.AppendOwnNone
namespace Go.Proofs.Ytjniajojbnhmgaa
open Go.RowKit
set_option linter.unusedVariables false

theorem idx_same {p : Int} {n : Nat} {z : Nat → Int} {x c x2 c2 : Int} (h1 : (good p n z ∧ x = acc p z n ∧ c = 0) ∨ (¬ good p n z ∧ x = 0 ∧ c = 100))
    (h2 : (good p n z ∧ x2 = acc p z n ∧ c2 = 0) ∨ (¬ good p n z ∧ x2 = 0 ∧ c2 = 100)) : x2 = x ∧ c2 = c := by
  rcases h1 with ⟨g, h3, h4⟩ | ⟨g, h3, h4⟩ <;> rcases h2 with ⟨g', h5, h6⟩ | ⟨g', h5, h6⟩
  · exact ⟨h5.trans h3.symm, h6.trans h4.symm⟩
  · exact absurd g g'
  · exact absurd g' g
  · exact ⟨h5.trans h3.symm, h6.trans h4.symm⟩

set_option maxRecDepth 100000 in
set_option maxHeartbeats 1000000 in
theorem pindex_long (p : Int) (a : Option Addr) (n cap : Nat) (w : World) (hn : 1000 < n) :
    Calls Try.prog 3 #[.int .i64 p, .slice a n cap] w fun e w' => e = .returned (.bool true) ∧ Below w.heap.size w w' := by
  go_enter Try.func3, Try.ntmps3
  go_wp2
  go_ret
  exact ⟨rfl, Below.refl _ w⟩

set_option maxRecDepth 100000 in
set_option maxHeartbeats 1000000 in
theorem pindex_some (p : Int) (ad : Addr) (n cap : Nat) (z : Nat → Int) (w : World) (hn : n ≤ 1000) (hs : Sl w (some ad) n z) :
    Calls Try.prog 3 #[.int .i64 p, .slice (some ad) n cap] w fun e w' => e = .returned (.bool true) ∧ Below w.heap.size w w' := by
  have HS := Lib.hid hs
  clear hs
  obtain ⟨i0, hi0, hz0, hz1, hz2⟩ := info_parts Try.info3
  have HO : Hid ((w.alloc (.cells #[] 3)).ownsRow w.heap.size 3 1 (.slice (some ⟨w.heap.size, 0, none⟩) 0 0) 0 []) := Lib.hid (World.ownsRow_made w #[] 0 (Nat.le_refl _) (by simp [maxLen]) rfl)
  have HB0 : Hid (Below w.heap.size w (w.alloc (.cells #[] 3))) := Lib.hid ((Below.refl _ w).alloc (Nat.le_refl _) _)
  have HW0 : Hid ((w.alloc (.cells #[] 3)).heap.size = w.heap.size + 1) := Lib.hid (by simp)
  go_enter Try.func3, Try.ntmps3
  go_wp2_with (at_builtin; refine wpList_append_own _ rfl (.tmp 13) (.tmp 14) 22 rfl w.heap.size 3 i0 _ 1 8 Try.underlying22 hi0 hz0 hz1 hz2 rfl (by omega) _ 0 [] rfl HO.out ad n cap (row n z) rfl (by simp) (news_of_sl (HS.out.keep ((Below.refl _ w).alloc (Nat.le_refl _) _))) (by simp [Value.oneCell']) (by simp [maxLen]; omega) (by omega) (by simp) ?_; intro v' w1 hown hgrow _)
  clear hi0 hz0 hz1 hz2
  simp only [Nat.zero_add, List.nil_append] at hown
  obtain ⟨a', c', rfl, hO⟩ := own_of_row hown
  have HB1 := Lib.hid (HB0.out.grown hgrow HB0.out.size (fun r e => by cases e; exact Nat.le_refl _))
  have HO1 := Lib.hid hO.sl
  clear hown hgrow hO HO
  refine (index_any p a' n c' (by omega) z w1 HO1.out).mono ?_
  rintro e w2 ⟨x, c, rfl, hb2, hcs⟩
  have HB2 := Lib.hid (HB1.out.trans (hb2.mono HB1.out.size))
  have HO2 := Lib.hid (HO1.out.keep hb2)
  have HC := Lib.hid hcs
  clear hb2 hcs
  go_wp2_with fail
  refine (rindex_any p (some ad) n cap (by omega) z w2 (HS.out.keep HB2.out)).mono ?_
  rintro e w3 ⟨x2, c2, rfl, hb3, hcs⟩
  obtain ⟨rfl, rfl⟩ := idx_same HC.out hcs
  have HB3 := Lib.hid (HB2.out.trans (hb3.mono HB2.out.size))
  have HO3 := Lib.hid (HO2.out.keep hb3)
  clear hb3 hcs HC
  go_wp2_with fail
  refine (same_yes n (by omega) z a' (some ad) c' cap w3 HO3.out (HS.out.keep HB3.out)).mono ?_
  rintro e w4 ⟨rfl, k, rfl⟩
  go_wp2
  go_ret
  exact ⟨rfl, below_drewN HB3.out _⟩

set_option maxRecDepth 100000 in
set_option maxHeartbeats 1000000 in
theorem pindex_none (p : Int) (w : World) :
    Calls Try.prog 3 #[.int .i64 p, .slice none 0 0] w fun e w' => e = .returned (.bool true) ∧ Below w.heap.size w w' := by
  obtain ⟨i0, hi0, hz0, hz1, hz2⟩ := info_parts Try.info3
  have HO : Hid ((w.alloc (.cells #[] 3)).ownsRow w.heap.size 3 1 (.slice (some ⟨w.heap.size, 0, none⟩) 0 0) 0 []) := Lib.hid (World.ownsRow_made w #[] 0 (Nat.le_refl _) (by simp [maxLen]) rfl)
  have HB0 : Hid (Below w.heap.size w (w.alloc (.cells #[] 3))) := Lib.hid ((Below.refl _ w).alloc (Nat.le_refl _) _)
  have HS0 : ∀ (W : World) (a : Option Addr), Hid (Sl W a 0 fun _ => 0) := fun W a => Lib.hid (.inl rfl)
  go_enter Try.func3, Try.ntmps3
  go_wp2_with (at_builtin; refine wpList_append_own_none rfl (.tmp 13) (.tmp 14) 22 rfl w.heap.size 3 i0 1 Try.underlying22 hi0 _ 0 [] rfl HO.out rfl ?_)
  clear hi0 hz0 hz1 hz2
  refine (index_any p _ 0 _ (by omega) (fun _ => 0) _ (HS0 _ _).out).mono ?_
  rintro e w2 ⟨x, c, rfl, hb2, hcs⟩
  have HB2 := Lib.hid (HB0.out.trans (hb2.mono HB0.out.size))
  have HC := Lib.hid hcs
  clear hb2 hcs
  go_wp2_with fail
  refine (rindex_any p _ 0 _ (by omega) (fun _ => 0) w2 (HS0 _ _).out).mono ?_
  rintro e w3 ⟨x2, c2, rfl, hb3, hcs⟩
  obtain ⟨rfl, rfl⟩ := idx_same HC.out hcs
  have HB3 := Lib.hid (HB2.out.trans (hb3.mono HB2.out.size))
  clear hb3 hcs HC
  go_wp2_with fail
  refine (same_yes 0 (by omega) (fun _ => 0) _ _ _ _ w3 (HS0 _ _).out (HS0 _ _).out).mono ?_
  rintro e w4 ⟨rfl, k, rfl⟩
  go_wp2
  go_ret
  exact ⟨rfl, below_drewN HB3.out _⟩

theorem pindex_walk (p : Int) (a : Option Addr) (len cap : Nat) (z : Nat → Int) (w : World) (_ : -9223372036854775808 ≤ p ∧ p ≤ 9223372036854775807) (h : Arg w a len cap z) :
    Calls Try.prog 3 #[.int .i64 p, .slice a len cap] w fun e w' => e = .returned (.bool true) ∧ Below w.heap.size w w' := by
  by_cases hl : len ≤ 1000
  · rcases a with _ | ad
    · obtain ⟨rfl, rfl⟩ := h.1 rfl
      exact pindex_none p w
    · exact pindex_some p ad len cap z w hl h.2
  · exact pindex_long p a len cap w (by omega)
end Go.Proofs.Ytjniajojbnhmgaa
