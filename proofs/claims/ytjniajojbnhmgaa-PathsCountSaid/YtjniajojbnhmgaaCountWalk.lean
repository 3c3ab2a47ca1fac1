/-
  The walks of quernlaw10.PathsCount and quernlaw10.PathsFirsts: they return true, of any number, and change nothing that was there.
  Conditions: none.
-/
import Derived.Test.YtjniajojbnhmgaaAwake
namespace Go.Proofs.Ytjniajojbnhmgaa
open Go.RowKit
set_option linter.unusedVariables false

theorem ofN_le (k : Int) : ofN k ≤ 3 := by unfold ofN; (repeat' split) <;> omega

set_option maxRecDepth 100000 in
set_option maxHeartbeats 1000000 in
theorem count_out (k : Int) (h : k < 0 ∨ 65536 ≤ k) (w : World) :
    Calls Try.prog 8 #[.int .i64 k] w fun e w' => e = .returned (.bool true) ∧ Below w.heap.size w w' := by
  obtain ⟨m, hm⟩ : ∃ m, max k 0 = m := ⟨_, rfl⟩
  obtain ⟨c, hc⟩ : ∃ c, min m 65536 = c := ⟨_, rfl⟩
  have HI := Lib.hid (fun W => indirect_any k W)
  have HJ := Lib.hid (fun W => indirect_any c W)
  rw [hm, hc] at HI
  rw [show min (max c 0) 65536 = c by omega] at HJ
  generalize ind c = x at HI HJ
  have hxx : (x == x) = true := by simp
  rcases h with h | h
  all_goals
    go_enter Try.func8, Try.ntmps8
    go_wp2_with fail
    refine (awake_any _).mono ?_; rintro e w1 ⟨rfl, hb1⟩; have HB1 := Lib.hid hb1; clear hb1
    go_wp2_with fail
    refine (HI.out _).mono ?_; rintro e w2 ⟨rfl, hb2⟩; have HB2 := Lib.hid (HB1.out.trans (hb2.mono HB1.out.size)); clear hb2
    go_wp2_with fail
    refine (HJ.out _).mono ?_; rintro e w3 ⟨rfl, hb3⟩; have HB3 := Lib.hid (HB2.out.trans (hb3.mono HB2.out.size)); clear hb3
    go_wp2
    go_ret
    exact ⟨rfl, HB3.out⟩

set_option maxRecDepth 100000 in
set_option maxHeartbeats 2000000 in
theorem count_in (k : Int) (h0 : 0 ≤ k) (h1 : k < 65536) (w : World) :
    Calls Try.prog 8 #[.int .i64 k] w fun e w' => e = .returned (.bool true) ∧ Below w.heap.size w w' := by
  have HI := Lib.hid (fun W => indirect_any k W)
  have HJ := Lib.hid (fun W => indirect_any (k + 1) W)
  rw [show min (max k 0) 65536 = k by omega] at HI
  rw [show min (max (k + 1) 0) 65536 = k + 1 by omega] at HJ
  have hib := ind_bd (c := k) (by omega)
  have HT := Lib.hid (fun m (h : Tz k m) => ind_step h0 h1 h)
  generalize ind k = x at HI hib HT
  generalize ind (k + 1) = y at HJ HT
  have hN := ofN_le k
  go_enter Try.func8, Try.ntmps8
  go_wp2_with fail
  refine (awake_any _).mono ?_; rintro e w1 ⟨rfl, hb1⟩; have HB1 := Lib.hid hb1; clear hb1
  go_wp2_with fail
  refine (of_yes k h0 h1 _).mono ?_
  rintro e w2 ⟨a, cap, rfl, hb2, hO⟩
  have HB2 := Lib.hid (HB1.out.trans (hb2.mono HB1.out.size))
  have HS := Lib.hid hO.sl
  clear hb2 hO HB1
  have HTN : Hid (∀ m t : Nat, t + m = ofN k → (∀ j, t ≤ j → j < ofN k → ofZ k j = 0) → (t = 0 ∨ ofZ k (t - 1) ≠ 0) → y = x + m) := Lib.hid (fun m t e1 e2 e3 => HT.out m ⟨by omega, fun j hj hj2 => e2 j (by omega) hj2, by
    rcases e3 with e3 | e3
    · left; omega
    · right; rw [show ofN k - 1 - m = t - 1 by omega]; exact e3⟩)
  clear HT
  generalize ofN k = N at hN HS HTN
  generalize ofP k = P
  generalize ofZ k = z at HS HTN
  go_wp2_with fail
  go_loop [6, 7] (fun u v => ∃ t m : Nat, t + m = N ∧ v = .int .i64 ((t : Int) - 1) ∧ u = .int .i64 m ∧ ∀ j, t ≤ j → j < N → z j = 0) (fun _ v => (intOf v + 1).toNat)
  case atStart => exact ⟨N, 0, by omega, rfl, rfl, fun j h1 h2 => by omega⟩
  case round =>
    obtain ⟨t, m, hsum, rfl, rfl, hall⟩ := hrel
    have HA := Lib.hid hall
    have HSU := Lib.hid hsum
    have hmb : (m : Int) ≤ 3 := by omega
    have htb : (t : Int) ≤ 3 := by omega
    rcases t with _ | s
    · obtain rfl : y = x + m := HTN.out m 0 HSU.out HA.out (.inl rfl)
      clear hall hsum
      have hxx : (x + m == x + m) = true := by simp
      go_wp2_with fail
      refine (HJ.out _).mono ?_; rintro e w3 ⟨rfl, hb3⟩; have HB3 := Lib.hid (HB2.out.trans (hb3.mono HB2.out.size)); clear hb3
      go_wp2_with fail
      refine (HI.out _).mono ?_; rintro e w4 ⟨rfl, hb4⟩; have HB4 := Lib.hid (HB3.out.trans (hb4.mono HB3.out.size)); clear hb4
      go_wp2
      go_ret
      exact ⟨rfl, HB4.out⟩
    · obtain ⟨g, o, rfl, hc⟩ := HS.out.at (i := s) (by omega)
      rw [show (((s + 1 : Nat) : Int) - 1) = (s : Int) by omega]
      have hsN : s < N := by omega
      have hsN2 : (s : Int) < (N : Int) := by omega
      clear hall hsum
      by_cases hz : z s = 0
      · rw [hz] at hc
        go_wp2
        go_round
        case rel =>
          refine ⟨s, m + 1, by have := HSU.out; omega, rfl, by go_num, fun j hj1 hj2 => ?_⟩
          rcases Nat.lt_or_ge s j with h | h
          · exact HA.out j (by omega) hj2
          · obtain rfl : j = s := by omega
            exact hz
        case measure => simp [intOf]
      · obtain rfl : y = x + m := HTN.out m (s + 1) HSU.out HA.out (.inr hz)
        have hzb : (z s == 0) = false := by simpa using hz
        have hxx : (x + m == x + m) = true := by simp
        generalize z s = zz at hc hzb
        clear hz
        go_wp2_with fail
        refine (HJ.out _).mono ?_; rintro e w3 ⟨rfl, hb3⟩; have HB3 := Lib.hid (HB2.out.trans (hb3.mono HB2.out.size)); clear hb3
        go_wp2_with fail
        refine (HI.out _).mono ?_; rintro e w4 ⟨rfl, hb4⟩; have HB4 := Lib.hid (HB3.out.trans (hb4.mono HB3.out.size)); clear hb4
        go_wp2
        go_ret
        exact ⟨rfl, HB4.out⟩

theorem count_walk (k : Int) (w : World) (_ : -9223372036854775808 ≤ k ∧ k ≤ 9223372036854775807) :
    Calls Try.prog 8 #[.int .i64 k] w fun e w' => e = .returned (.bool true) ∧ Below w.heap.size w w' := by
  by_cases h : k < 0 ∨ 65536 ≤ k
  · exact count_out k h w
  · exact count_in k (by omega) (by omega) w
end Go.Proofs.Ytjniajojbnhmgaa
