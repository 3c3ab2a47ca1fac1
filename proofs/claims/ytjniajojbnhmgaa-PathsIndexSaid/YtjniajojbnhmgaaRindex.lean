/-
  The contract of quernref10.Index.
  Conditions: none.
-/
import Derived.Test.YtjniajojbnhmgaaIndex
namespace Go.Proofs.Ytjniajojbnhmgaa
open Go.RowKit
set_option linter.unusedVariables false

set_option maxRecDepth 100000 in
set_option maxHeartbeats 1000000 in
theorem rindex_any (p : Int) (a : Option Addr) (n cap : Nat) (hn : n ≤ 1000000) (z : Nat → Int) (w : World) (hs : Sl w a n z) :
    Calls Try.prog 14 #[.int .i64 p, .slice a n cap] w (IdxPost p n z w) := by
  have hlb := lev_bd p
  by_cases hl : lev p < 0
  · have HG : Hid (¬ good p n z) := Lib.hid (fun h => by have := h.1; omega)
    have HLV := Lib.hid (rlevel_any p w)
    generalize lev p = L at hl HLV hlb
    clear hs
    go_enter Try.func14, Try.ntmps14
    go_wp2_with (go_at_call 19; refine HLV.out.mono ?_; rintro e w1 ⟨rfl, hw1⟩; rw [hw1]; clear hw1)
    go_ret2
    exact idx_no (Below.refl _ w) HG.out
  · by_cases hnl : (n : Int) = lev p
    · have HFB := frst_bd (p := p) (by omega)
      have HL := Lib.hid hnl
      have HLV := Lib.hid (rlevel_any p w)
      rw [← hnl] at HLV
      have hn3 : n ≤ 3 := by omega
      have HFR := Lib.hid (fun W => rfirst_any p W)
      have HEQ := Lib.hid (racc_eq (z := z) hnl)
      generalize frst p = F at HFB HFR HEQ
      have HS := Lib.hid hs
      clear hs hnl hl hlb
      go_enter Try.func14, Try.ntmps14
      go_wp2_with (first | (go_at_call 19; refine HLV.out.mono ?_; rintro e w1 ⟨rfl, hw1⟩; rw [hw1]; clear hw1))
      go_loop [7, 8] (fun v i => ∃ j : Nat, j ≤ n ∧ i = .int .i64 j ∧ v = .int .i64 (racc z j) ∧ ∀ t, t < j → 0 ≤ z t ∧ z t ≤ 63) (fun _ i => n - (intOf i).toNat)
      case atStart => exact ⟨0, Nat.zero_le _, rfl, rfl, fun t h => by omega⟩
      case round =>
        obtain ⟨j, hj, rfl, rfl, hall⟩ := hrel
        have HAL := Lib.hid hall
        have hab := racc_bd j (by omega) hall
        have hab2 : racc z j ≤ 262144 := hab.2
        have hab1 := hab.1
        clear hall hab
        by_cases hlt : j < n
        · obtain ⟨g, o, rfl, hc⟩ := HS.out.at hlt
          have hl3 : (j : Int) < (n : Int) := by omega
          have HE : Hid (racc z (j + 1) = 64 * racc z j + z j) := Lib.hid rfl
          generalize racc z j = A at hab1 hab2 HE
          by_cases hz0 : z j < 0
          · have HG : Hid (¬ good p n z) := Lib.hid (fun h => by have := h.2.2.1 j hlt; omega)
            generalize z j = y at hc hz0 
            go_wp2
            go_ret2
            exact idx_no (Below.refl _ w) HG.out
          · by_cases hz1 : 63 < z j
            · have HG : Hid (¬ good p n z) := Lib.hid (fun h => by have := h.2.2.1 j hlt; omega)
              generalize z j = y at hc hz0 hz1
              go_wp2
              go_ret2
              exact idx_no (Below.refl _ w) HG.out
            · have HALS : Hid (∀ t, t < j + 1 → 0 ≤ z t ∧ z t ≤ 63) := Lib.hid (fun t ht => by
                rcases Nat.lt_or_ge t j with h | h
                · exact HAL.out t h
                · obtain rfl : t = j := by omega
                  omega)
              generalize z j = y at hc hz0 hz1 HE
              have hy0 : 0 ≤ y := by omega
              have hy1 : y ≤ 63 := by omega
              clear hz0 hz1
              go_wp2
              go_round
              case rel => exact ⟨j + 1, by omega, by go_num, by rw [HE.out], HALS.out⟩
              case measure => simp [intOf]; omega
        · obtain rfl : j = n := by omega
          have HAC := HEQ.out
          have HEQ2 := Lib.hid HEQ.out
          have HG0 : Hid (F + racc z j < 65536 → good p j z) := Lib.hid (fun h => ⟨by have := HL.out; omega, HL.out, HAL.out, by omega⟩)
          have HG1 : Hid (65536 ≤ F + racc z j → ¬ good p j z) := Lib.hid (fun h hg => by have := hg.2.2.2; omega)
          clear HAC HEQ
          generalize racc z j = A at hab1 hab2 HEQ2 HG0 HG1
          by_cases hbig : 65536 ≤ F + A
          · go_wp2_with (first | (go_at_call 23; refine (HFR.out _).mono ?_; rintro e w2 ⟨rfl, hb2⟩; have HB2 := Lib.hid hb2; clear hb2))
            go_ret2
            exact idx_no HB2.out (HG1.out hbig)
          · have hb' : F + A < 65536 := by omega
            go_wp2_with fail
            refine (HFR.out _).mono ?_
            rintro e w2 ⟨rfl, hb2⟩
            have HB2 := Lib.hid hb2
            clear hb2
            go_wp2_with fail
            refine (HFR.out _).mono ?_
            rintro e w3 ⟨rfl, hb3⟩
            have HB3 := Lib.hid (HB2.out.trans (hb3.mono HB2.out.size))
            clear hb3
            go_wp2
            go_ret2
            exact ⟨F + A, 0, rfl, HB3.out, .inl ⟨HG0.out hb', HEQ2.out, rfl⟩⟩
    · have HG : Hid (¬ good p n z) := Lib.hid (fun h => hnl h.2.1)
      have HLV := Lib.hid (rlevel_any p w)
      have hd : ((n : Int) != lev p) = true := by simpa using hnl
      have hl2 : 0 ≤ lev p := by omega
      generalize lev p = L at hl HLV hlb hd hl2
      clear hs hnl
      go_enter Try.func14, Try.ntmps14
      go_wp2_with (go_at_call 19; refine HLV.out.mono ?_; rintro e w1 ⟨rfl, hw1⟩; rw [hw1]; clear hw1)
      go_ret2
      exact idx_no (Below.refl _ w) HG.out
end Go.Proofs.Ytjniajojbnhmgaa
