/-
  The contracts of paths.Index and quernref10.Index.
  Conditions: none.
-/
import Derived.Test.YtjniajojbnhmgaaRof
namespace Go.Proofs.Ytjniajojbnhmgaa
open Go.RowKit
set_option linter.unusedVariables false

/-- The index to which the first numbers of a way lead. -/
def acc (p : Int) (z : Nat → Int) : Nat → Int
  | 0 => frst p
  | i + 1 => acc p z i + z i * spn (lev p - 1 - i)
/-- The same as the document reckons it. -/
def racc (z : Nat → Int) : Nat → Int
  | 0 => 0
  | i + 1 => 64 * racc z i + z i

/-- A way that leads to a block. -/
def good (p : Int) (n : Nat) (z : Nat → Int) : Prop := 0 ≤ lev p ∧ (n : Int) = lev p ∧ (∀ j, j < n → 0 ≤ z j ∧ z j ≤ 63) ∧ acc p z n < 65536

/-- What Index answers. -/
def IdxPost (p : Int) (n : Nat) (z : Nat → Int) (w : World) (e : Ending) (w' : World) : Prop :=
  ∃ x c : Int, e = .returned (.tuple #[.int .i64 x, .int .i64 c]) ∧ Below w.heap.size w w' ∧ ((good p n z ∧ x = acc p z n ∧ c = 0) ∨ (¬ good p n z ∧ x = 0 ∧ c = 100))

theorem frst_bd {p : Int} (h : 0 ≤ lev p) : 0 ≤ frst p ∧ frst p ≤ 4168 := by
  unfold lev at h
  unfold frst
  split at h
  · omega
  · rename_i hp
    rw [if_neg hp]
    unfold fst
    split
    · omega
    · split
      · omega
      · rw [if_pos (by omega)]; omega

theorem spn_le {l : Int} (h : l ≤ 2) : 0 ≤ spn l ∧ spn l ≤ 4096 := by
  unfold spn
  (repeat' split) <;> omega

theorem mul_bd {x s : Int} (h0 : 0 ≤ x) (h1 : x ≤ 63) (h2 : 0 ≤ s) (h3 : s ≤ 4096) : 0 ≤ x * s ∧ x * s ≤ 258048 := by
  refine ⟨Int.mul_nonneg h0 h2, ?_⟩
  calc x * s ≤ 63 * 4096 := Int.mul_le_mul h1 h3 h2 (by omega)
    _ = 258048 := rfl

theorem acc_bd {p : Int} {z : Nat → Int} (hl : 0 ≤ lev p) : ∀ j : Nat, (∀ t, t < j → 0 ≤ z t ∧ z t ≤ 63) → 0 ≤ acc p z j ∧ acc p z j ≤ 5000 + 258048 * j
  | 0, _ => by have := frst_bd hl; unfold acc; omega
  | j + 1, h => by
    have h1 := acc_bd hl j (fun t ht => h t (by omega))
    have h2 := h j (by omega)
    have h3 := lev_bd p
    have h4 := spn_le (l := lev p - 1 - j) (by omega)
    have h5 := mul_bd h2.1 h2.2 h4.1 h4.2
    unfold acc
    omega

theorem racc_bd {z : Nat → Int} : ∀ j : Nat, j ≤ 3 → (∀ t, t < j → 0 ≤ z t ∧ z t ≤ 63) → 0 ≤ racc z j ∧ racc z j ≤ 262144
  | 0, _, _ => by unfold racc; omega
  | 1, _, h => by have := h 0 (by omega); simp only [racc]; omega
  | 2, _, h => by have := h 0 (by omega); have := h 1 (by omega); simp only [racc]; omega
  | 3, _, h => by have := h 0 (by omega); have := h 1 (by omega); have := h 2 (by omega); simp only [racc]; omega
  | j + 4, h, _ => by omega

theorem racc_eq {p : Int} {n : Nat} {z : Nat → Int} (hn : (n : Int) = lev p) : frst p + racc z n = acc p z n := by
  have h3 := lev_bd p
  have : n = 0 ∨ n = 1 ∨ n = 2 ∨ n = 3 := by omega
  rcases this with rfl | rfl | rfl | rfl
  · simp [racc, acc]
  · have e : spn (lev p - 1 - (0 : Nat)) = 1 := by rw [← hn]; decide
    simp only [racc, acc, e]; omega
  · have e : spn (lev p - 1 - (0 : Nat)) = 64 := by rw [← hn]; decide
    have e1 : spn (lev p - 1 - (1 : Nat)) = 1 := by rw [← hn]; decide
    simp only [racc, acc, e, e1]; omega
  · have e : spn (lev p - 1 - (0 : Nat)) = 4096 := by rw [← hn]; decide
    have e1 : spn (lev p - 1 - (1 : Nat)) = 64 := by rw [← hn]; decide
    have e2 : spn (lev p - 1 - (2 : Nat)) = 1 := by rw [← hn]; decide
    simp only [racc, acc, e, e1, e2]; omega

theorem idx_no {p : Int} {n : Nat} {z : Nat → Int} {w w' : World} (hb : Below w.heap.size w w') (h : ¬ good p n z) : IdxPost p n z w (.returned (.tuple #[.int .i64 0, .int .i64 100])) w' :=
  ⟨0, 100, rfl, hb, .inr ⟨h, rfl, rfl⟩⟩

set_option maxRecDepth 100000 in
set_option maxHeartbeats 1000000 in
theorem index_any (p : Int) (a : Option Addr) (n cap : Nat) (hn : n ≤ 1000000) (z : Nat → Int) (w : World) (hs : Sl w a n z) :
    Calls Try.prog 13 #[.int .i64 p, .slice a n cap] w (IdxPost p n z w) := by
  have hlb := lev_bd p
  by_cases hl : lev p < 0
  · have HG : Hid (¬ good p n z) := Lib.hid (fun h => by have := h.1; omega)
    have HLV := Lib.hid (level_any p w)
    generalize lev p = L at hl HLV hlb
    clear hs
    go_enter Try.func13, Try.ntmps13
    go_wp2_with (go_at_call 18; refine HLV.out.mono ?_; rintro e w1 ⟨rfl, hw1⟩; rw [hw1]; clear hw1)
    go_ret2
    exact idx_no (Below.refl _ w) HG.out
  · by_cases hnl : (n : Int) = lev p
    · have HFB := frst_bd (p := p) (by omega)
      have HL := Lib.hid hnl
      have HLV := Lib.hid (level_any p w)
      rw [← hnl] at HLV
      have hn3 : n ≤ 3 := by omega
      have HFR := Lib.hid (first_any p w)
      have HF0 : Hid (acc p z 0 = frst p) := Lib.hid rfl
      generalize frst p = F at HFB HFR HF0
      have HS := Lib.hid hs
      clear hs hnl hl hlb
      go_enter Try.func13, Try.ntmps13
      go_wp2_with (first | (go_at_call 18; refine HLV.out.mono ?_; rintro e w1 ⟨rfl, hw1⟩; rw [hw1]; clear hw1) | (go_at_call 22; refine HFR.out.mono ?_; rintro e w2 ⟨rfl, hb2⟩; have HB2 := Lib.hid hb2; clear hb2))
      go_loop [7, 24] (fun v i => ∃ j : Nat, j ≤ n ∧ i = .int .i64 j ∧ v = .int .i64 (acc p z j) ∧ ∀ t, t < j → 0 ≤ z t ∧ z t ≤ 63) (fun _ i => n - (intOf i).toNat)
      case atStart => exact ⟨0, Nat.zero_le _, rfl, by rw [HF0.out], fun t h => by omega⟩
      case round =>
        obtain ⟨j, hj, rfl, rfl, hall⟩ := hrel
        have HAL := Lib.hid hall
        have hab := acc_bd (p := p) (by have := HL.out; omega) j hall
        have hab2 : acc p z j ≤ 1000000 := by omega
        have hab1 := hab.1
        clear hall hab
        by_cases hlt : j < n
        · obtain ⟨g, o, rfl, hc⟩ := (HS.out.keep HB2.out).at hlt
          have HE : Hid (acc p z (j + 1) = acc p z j + z j * spn ((n : Int) - 1 - j)) := Lib.hid (by rw [HL.out]; rfl)
          have hsp := spn_le (l := (n : Int) - 1 - j) (by omega)
          generalize acc p z j = A at hab1 hab2 HE
          have HSP := Lib.hid (span_any ((n : Int) - 1 - j) w2)
          have HZ : Hid (z j = z j) := Lib.hid rfl
          by_cases hz0 : z j < 0
          · have HG : Hid (¬ good p n z) := Lib.hid (fun h => by have := h.2.2.1 j hlt; omega)
            generalize z j = y at hc hz0 
            go_wp2
            go_ret2
            exact idx_no HB2.out HG.out
          · by_cases hz1 : 64 ≤ z j
            · have HG : Hid (¬ good p n z) := Lib.hid (fun h => by have := h.2.2.1 j hlt; omega)
              generalize z j = y at hc hz0 hz1
              go_wp2
              go_ret2
              exact idx_no HB2.out HG.out
            · have hmb := mul_bd (x := z j) (s := spn ((n : Int) - 1 - j)) (by omega) (by omega) hsp.1 hsp.2
              have HALS : Hid (∀ t, t < j + 1 → 0 ≤ z t ∧ z t ≤ 63) := Lib.hid (fun t ht => by
                rcases Nat.lt_or_ge t j with h | h
                · exact HAL.out t h
                · obtain rfl : t = j := by omega
                  omega)
              generalize z j = y at hc hz0 hz1 hmb HE HZ
              generalize spn ((n : Int) - 1 - j) = S at hsp hmb HE HSP
              have hm1 := hmb.1
              have hm2 := hmb.2
              have hy0 : 0 ≤ y := by omega
              have hy1 : y < 64 := by omega
              clear hmb hz0 hz1
              go_wp2_with (go_at_call 20; refine HSP.out.mono ?_; rintro e w3 ⟨rfl, hw3⟩; rw [hw3]; clear hw3)
              go_round
              case rel => exact ⟨j + 1, by omega, by go_num, by rw [HE.out], HALS.out⟩
              case measure => simp [intOf]; omega
        · obtain rfl : j = n := by omega
          by_cases hbig : 65536 ≤ acc p z j
          · have HG : Hid (¬ good p j z) := Lib.hid (fun h => by have := h.2.2.2; omega)
            generalize acc p z j = A at hab1 hab2 hbig
            go_wp2
            go_ret2
            exact idx_no HB2.out HG.out
          · have HG : Hid (good p j z) := Lib.hid ⟨by have := HL.out; omega, HL.out, HAL.out, by omega⟩
            have HE : Hid (acc p z j = acc p z j) := Lib.hid rfl
            generalize hA : acc p z j = A at hab1 hab2 hbig
            have HA := Lib.hid hA
            clear hA
            go_wp2
            go_ret2
            exact ⟨A, 0, rfl, HB2.out, .inl ⟨HG.out, HA.out.symm, rfl⟩⟩
    · have HG : Hid (¬ good p n z) := Lib.hid (fun h => hnl h.2.1)
      have HLV := Lib.hid (level_any p w)
      have hd : ((n : Int) != lev p) = true := by simpa using hnl
      have hl2 : 0 ≤ lev p := by omega
      generalize lev p = L at hl HLV hlb hd hl2
      clear hs hnl
      go_enter Try.func13, Try.ntmps13
      go_wp2_with (go_at_call 18; refine HLV.out.mono ?_; rintro e w1 ⟨rfl, hw1⟩; rw [hw1]; clear hw1)
      go_ret2
      exact idx_no (Below.refl _ w) HG.out
end Go.Proofs.Ytjniajojbnhmgaa
