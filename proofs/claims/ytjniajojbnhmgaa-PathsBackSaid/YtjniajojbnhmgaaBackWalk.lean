/-
  The walk of quernlaw10.PathsBack: it returns true, of any index and any way, and changes nothing that was there.
  Conditions: none.
-/
import Derived.Test.YtjniajojbnhmgaaAwake
import Derived.Test.YtjniajojbnhmgaaOpen
namespace Go.Proofs.Ytjniajojbnhmgaa
open Go.RowKit
set_option linter.unusedVariables false

theorem ofN_small (k : Int) : ofN k ≤ 1000000 := by unfold ofN; (repeat' split) <;> omega

set_option maxRecDepth 100000 in
set_option maxHeartbeats 1000000 in
theorem back_long (k p : Int) (a : Option Addr) (n cap : Nat) (w : World) (hn : 1000 < n) :
    Calls Try.prog 5 #[.int .i64 k, .int .i64 p, .slice a n cap] w fun e w' => e = .returned (.bool true) ∧ Below w.heap.size w w' := by
  go_enter Try.func5, Try.ntmps5
  go_wp2_with fail
  refine (awake_any _).mono ?_; rintro e w1 ⟨rfl, hb1⟩; have HB1 := Lib.hid hb1; clear hb1
  go_wp2
  go_ret
  exact ⟨rfl, HB1.out⟩

set_option maxRecDepth 100000 in
set_option maxHeartbeats 2000000 in
theorem back_ii (k p : Int) (h0 : 0 ≤ k) (h1 : k < 65536) (a : Option Addr) (n cap : Nat) (z : Nat → Int) (hn : n ≤ 1000) (hg : good p n z) (w : World) (hs : Sl w a n z) :
    Calls Try.prog 5 #[.int .i64 k, .int .i64 p, .slice a n cap] w fun e w' => e = .returned (.bool true) ∧ Below w.heap.size w w' := by
  have HS := Lib.hid hs
  clear hs
  have HLV := Lib.hid (fun W => level_any (ofP k) W)
  rw [← ofN_lev h0] at HLV
  have HOF := Lib.hid (fun W => of_yes k h0 h1 W)
  have HIX := Lib.hid (fun W a' c' (h : Sl W a' (ofN k) (ofZ k)) => idx_at (ofP k) a' (ofN k) c' (ofZ k) k 0 (ofN_small k) (.inl ⟨good_of h0 h1, acc_of h0 h1, rfl⟩) W h)
  unfold OfPost at HOF
  generalize ofP k = P at *
  generalize ofN k = N at *
  generalize ofZ k = Z at *
  have hkk : (k != k) = false := by simp
  have hNN : ((N : Int) != (N : Int)) = false := by simp
  obtain ⟨g0, g1, g2, g3, g4⟩ := good_back hg
  have HI2 := Lib.hid (fun W (h : Sl W a n z) => idx_at p a n cap z (acc p z n) 0 (by omega) (.inl ⟨hg, rfl, rfl⟩) W h)
  have HO2 := Lib.hid (fun W => of_at (acc p z n) p n z g0 g1 g2 g3 g4 W)
  clear g0 g1 g2 g3 g4 hg
  generalize acc p z n = A at HI2 HO2
  have hpp : (p == p) = true := by simp
  go_enter Try.func5, Try.ntmps5
  go_wp2_with fail
  refine (awake_any _).mono ?_; rintro e w1 ⟨rfl, hb1⟩; have HB1 := Lib.hid hb1; clear hb1
  go_wp2_with fail
  refine (HOF.out _).mono ?_
  rintro e w2 ⟨a1, c1, rfl, hb2, hO⟩
  have HB2 := Lib.hid (HB1.out.trans (hb2.mono HB1.out.size))
  have HS2 := Lib.hid hO.sl
  clear hb2 hO HB1
  go_wp2_with fail
  refine (HIX.out _ _ _ HS2.out).mono ?_
  rintro e w3 ⟨rfl, hb3⟩
  have HB3 := Lib.hid (HB2.out.trans (hb3.mono HB2.out.size))
  clear hb3 HB2 HS2
  go_wp2_with fail
  refine (HLV.out _).mono ?_; rintro e w4 ⟨rfl, hw4⟩; rw [hw4]; clear hw4
  go_wp2_with fail
  refine (HI2.out _ (HS.out.keep HB3.out)).mono ?_
  rintro e w5 ⟨rfl, hb5⟩
  have HB5 := Lib.hid (HB3.out.trans (hb5.mono HB3.out.size))
  clear hb5 HB3
  go_wp2_with fail
  refine (HO2.out _).mono ?_
  rintro e w6 ⟨a6, c6, rfl, hb6, hs6⟩
  have HB6 := Lib.hid (HB5.out.trans (hb6.mono HB5.out.size))
  have HS6 := Lib.hid hs6
  clear hb6 hs6 HB5
  go_wp2_with fail
  refine (same_yes n (by omega) z a6 a c6 cap w6 HS6.out (HS.out.keep HB6.out)).mono ?_
  rintro e w7 ⟨rfl, k7, rfl⟩
  go_wp2
  go_ret
  exact ⟨rfl, below_drewN HB6.out _⟩

set_option maxRecDepth 100000 in
set_option maxHeartbeats 2000000 in
theorem back_io (k p : Int) (h0 : 0 ≤ k) (h1 : k < 65536) (a : Option Addr) (n cap : Nat) (z : Nat → Int) (hn : n ≤ 1000) (hg : ¬ good p n z) (w : World) (hs : Sl w a n z) :
    Calls Try.prog 5 #[.int .i64 k, .int .i64 p, .slice a n cap] w fun e w' => e = .returned (.bool true) ∧ Below w.heap.size w w' := by
  have HS := Lib.hid hs
  clear hs
  have HLV := Lib.hid (fun W => level_any (ofP k) W)
  rw [← ofN_lev h0] at HLV
  have HOF := Lib.hid (fun W => of_yes k h0 h1 W)
  have HIX := Lib.hid (fun W a' c' (h : Sl W a' (ofN k) (ofZ k)) => idx_at (ofP k) a' (ofN k) c' (ofZ k) k 0 (ofN_small k) (.inl ⟨good_of h0 h1, acc_of h0 h1, rfl⟩) W h)
  unfold OfPost at HOF
  generalize ofP k = P at *
  generalize ofN k = N at *
  generalize ofZ k = Z at *
  have hkk : (k != k) = false := by simp
  have hNN : ((N : Int) != (N : Int)) = false := by simp
  have HI2 := Lib.hid (fun W (h : Sl W a n z) => idx_at p a n cap z 0 100 (by omega) (.inr ⟨hg, rfl, rfl⟩) W h)
  clear hg
  go_enter Try.func5, Try.ntmps5
  go_wp2_with fail
  refine (awake_any _).mono ?_; rintro e w1 ⟨rfl, hb1⟩; have HB1 := Lib.hid hb1; clear hb1
  go_wp2_with fail
  refine (HOF.out _).mono ?_
  rintro e w2 ⟨a1, c1, rfl, hb2, hO⟩
  have HB2 := Lib.hid (HB1.out.trans (hb2.mono HB1.out.size))
  have HS2 := Lib.hid hO.sl
  clear hb2 hO HB1
  go_wp2_with fail
  refine (HIX.out _ _ _ HS2.out).mono ?_
  rintro e w3 ⟨rfl, hb3⟩
  have HB3 := Lib.hid (HB2.out.trans (hb3.mono HB2.out.size))
  clear hb3 HB2 HS2
  go_wp2_with fail
  refine (HLV.out _).mono ?_; rintro e w4 ⟨rfl, hw4⟩; rw [hw4]; clear hw4
  go_wp2_with fail
  refine (HI2.out _ (HS.out.keep HB3.out)).mono ?_
  rintro e w5 ⟨rfl, hb5⟩
  have HB5 := Lib.hid (HB3.out.trans (hb5.mono HB3.out.size))
  clear hb5 HB3
  go_wp2
  go_ret
  exact ⟨rfl, HB5.out⟩

set_option maxRecDepth 100000 in
set_option maxHeartbeats 2000000 in
theorem back_oi (k p : Int) (hk : k < 0 ∨ 65536 ≤ k) (a : Option Addr) (n cap : Nat) (z : Nat → Int) (hn : n ≤ 1000) (hg : good p n z) (w : World) (hs : Sl w a n z) :
    Calls Try.prog 5 #[.int .i64 k, .int .i64 p, .slice a n cap] w fun e w' => e = .returned (.bool true) ∧ Below w.heap.size w w' := by
  have HS := Lib.hid hs
  clear hs
  obtain ⟨g0, g1, g2, g3, g4⟩ := good_back hg
  have HI2 := Lib.hid (fun W (h : Sl W a n z) => idx_at p a n cap z (acc p z n) 0 (by omega) (.inl ⟨hg, rfl, rfl⟩) W h)
  have HO2 := Lib.hid (fun W => of_at (acc p z n) p n z g0 g1 g2 g3 g4 W)
  clear g0 g1 g2 g3 g4 hg
  generalize acc p z n = A at HI2 HO2
  have hpp : (p == p) = true := by simp
  have HOF := Lib.hid (fun W => of_none k hk W)
  rcases hk with hk | hk
  all_goals
    go_enter Try.func5, Try.ntmps5
    go_wp2_with fail
    refine (awake_any _).mono ?_; rintro e w1 ⟨rfl, hb1⟩; have HB1 := Lib.hid hb1; clear hb1
    go_wp2_with fail
    refine (HOF.out _).mono ?_
    rintro e w3 ⟨rfl, hb2⟩
    have HB3 := Lib.hid (HB1.out.trans (hb2.mono HB1.out.size))
    clear hb2 HB1
    go_wp2_with fail
    refine (HI2.out _ (HS.out.keep HB3.out)).mono ?_
    rintro e w5 ⟨rfl, hb5⟩
    have HB5 := Lib.hid (HB3.out.trans (hb5.mono HB3.out.size))
    clear hb5 HB3
    go_wp2_with fail
    refine (HO2.out _).mono ?_
    rintro e w6 ⟨a6, c6, rfl, hb6, hs6⟩
    have HB6 := Lib.hid (HB5.out.trans (hb6.mono HB5.out.size))
    have HS6 := Lib.hid hs6
    clear hb6 hs6 HB5
    go_wp2_with fail
    refine (same_yes n (by omega) z a6 a c6 cap w6 HS6.out (HS.out.keep HB6.out)).mono ?_
    rintro e w7 ⟨rfl, k7, rfl⟩
    go_wp2
    go_ret
    exact ⟨rfl, below_drewN HB6.out _⟩

set_option maxRecDepth 100000 in
set_option maxHeartbeats 2000000 in
theorem back_oo (k p : Int) (hk : k < 0 ∨ 65536 ≤ k) (a : Option Addr) (n cap : Nat) (z : Nat → Int) (hn : n ≤ 1000) (hg : ¬ good p n z) (w : World) (hs : Sl w a n z) :
    Calls Try.prog 5 #[.int .i64 k, .int .i64 p, .slice a n cap] w fun e w' => e = .returned (.bool true) ∧ Below w.heap.size w w' := by
  have HS := Lib.hid hs
  clear hs
  have HI2 := Lib.hid (fun W (h : Sl W a n z) => idx_at p a n cap z 0 100 (by omega) (.inr ⟨hg, rfl, rfl⟩) W h)
  clear hg
  have HOF := Lib.hid (fun W => of_none k hk W)
  rcases hk with hk | hk
  all_goals
    go_enter Try.func5, Try.ntmps5
    go_wp2_with fail
    refine (awake_any _).mono ?_; rintro e w1 ⟨rfl, hb1⟩; have HB1 := Lib.hid hb1; clear hb1
    go_wp2_with fail
    refine (HOF.out _).mono ?_
    rintro e w3 ⟨rfl, hb2⟩
    have HB3 := Lib.hid (HB1.out.trans (hb2.mono HB1.out.size))
    clear hb2 HB1
    go_wp2_with fail
    refine (HI2.out _ (HS.out.keep HB3.out)).mono ?_
    rintro e w5 ⟨rfl, hb5⟩
    have HB5 := Lib.hid (HB3.out.trans (hb5.mono HB3.out.size))
    clear hb5 HB3
    go_wp2
    go_ret
    exact ⟨rfl, HB5.out⟩

theorem back_walk (k p : Int) (a : Option Addr) (len cap : Nat) (z : Nat → Int) (w : World) (_ : -9223372036854775808 ≤ k ∧ k ≤ 9223372036854775807) (_ : -9223372036854775808 ≤ p ∧ p ≤ 9223372036854775807) (h : Arg w a len cap z) :
    Calls Try.prog 5 #[.int .i64 k, .int .i64 p, .slice a len cap] w fun e w' => e = .returned (.bool true) ∧ Below w.heap.size w w' := by
  by_cases hl : len ≤ 1000
  · by_cases hk : k < 0 ∨ 65536 ≤ k
    · by_cases hg : good p len z
      · exact back_oi k p hk a len cap z hl hg w h.2
      · exact back_oo k p hk a len cap z hl hg w h.2
    · by_cases hg : good p len z
      · exact back_ii k p (by omega) (by omega) a len cap z hl hg w h.2
      · exact back_io k p (by omega) (by omega) a len cap z hl hg w h.2
  · exact back_long k p a len cap w (by omega)
end Go.Proofs.Ytjniajojbnhmgaa
