/-
  Ways and indirect blocks in plain numbers: the laws that the statements of chapter 10 ask.
  Conditions: those that each lemma names.
-/
import Derived.Test.YtjniajojbnhmgaaRof
import Derived.Test.YtjniajojbnhmgaaIndex
import Derived.Test.YtjniajojbnhmgaaInd
namespace Go.Proofs.Ytjniajojbnhmgaa

/-- How many indirect blocks there are. -/
def ind (c : Int) : Int :=
  if c ≤ 8 then 0 else if c ≤ 72 then 1 else if c ≤ 4168 then 1 + (c - 72 + 63) / 64 + (c - 72 + 4095) / 4096
  else 66 + (c - 4168 + 63) / 64 + (c - 4168 + 4095) / 4096 + (c - 4168 + 262143) / 262144

theorem ind_0 {c : Int} (h : c ≤ 8) : ind c = 0 := by unfold ind; rw [if_pos h]
theorem ind_1 {c : Int} (h : 8 < c) (h2 : c ≤ 72) : ind c = 1 := by unfold ind; rw [if_neg (by omega), if_pos h2]
theorem ind_2 {c : Int} (h : 72 < c) (h2 : c ≤ 4168) : ind c = 1 + (c - 72 + 63) / 64 + (c - 72 + 4095) / 4096 := by unfold ind; rw [if_neg (by omega), if_neg (by omega), if_pos h2]
theorem ind_3 {c : Int} (h : 4168 < c) : ind c = 66 + (c - 4168 + 63) / 64 + (c - 4168 + 4095) / 4096 + (c - 4168 + 262143) / 262144 := by unfold ind; rw [if_neg (by omega), if_neg (by omega), if_neg (by omega)]
theorem ind_bd {c : Int} (h : c ≤ 65536) : 0 ≤ ind c ∧ ind c ≤ 2000 := by
  by_cases h1 : c ≤ 8
  · rw [ind_0 h1]; omega
  · by_cases h2 : c ≤ 72
    · rw [ind_1 (by omega) h2]; omega
    · by_cases h3 : c ≤ 4168
      · rw [ind_2 (by omega) h3]; omega
      · rw [ind_3 (by omega)]; omega

theorem tot_low (c : Int) : ∀ x : Nat, x ≤ 8 → tot c (List.range x) = 0
  | 0, _ => rfl
  | x + 1, h => by
    rw [List.range_succ, tot_snoc, tot_low c x (by omega)]
    have : lev x = 0 := by unfold lev; rw [if_neg (by omega), if_pos (by omega)]
    simp [per, this, part]
theorem lft_8 (c : Int) : lft c 8 = min (c - 8) 64 := by
  have e3 : fst 8 = 8 := by decide
  have e2 : spn (lev ((8 : Nat) : Int)) = 64 := by decide
  unfold lft; rw [e3, e2]; rfl
theorem lft_9 (c : Int) : lft c 9 = min (c - 72) 4096 := by
  have e3 : fst 9 = 72 := by decide
  have e2 : spn (lev ((9 : Nat) : Int)) = 4096 := by decide
  unfold lft; rw [e3, e2]; rfl
theorem lft_10 (c : Int) : lft c 10 = min (c - 4168) 262144 := by
  have e3 : fst 10 = 4168 := by decide
  have e2 : spn (lev ((10 : Nat) : Int)) = 262144 := by decide
  unfold lft; rw [e3, e2]; rfl
theorem part_1 (l : Int) : part l 1 = up l 64 := by
  have e : spn ((0 + 1 : Nat) : Int) = 64 := by decide
  unfold part; rw [e]; unfold part; omega
theorem part_2 (l : Int) : part l 2 = up l 64 + up l 4096 := by
  have e : spn ((1 + 1 : Nat) : Int) = 4096 := by decide
  unfold part; rw [e, part_1]
theorem part_3 (l : Int) : part l 3 = up l 64 + up l 4096 + up l 262144 := by
  have e : spn ((2 + 1 : Nat) : Int) = 262144 := by decide
  unfold part; rw [e, part_2]
theorem per_8 (c : Int) : per c 8 = (min (c - 8) 64 + 64 - 1) / 64 := by
  have e1 : (lev ((8 : Nat) : Int)).toNat = 1 := by decide
  unfold per; rw [e1, lft_8, part_1]; rfl
theorem per_9 (c : Int) : per c 9 = (min (c - 72) 4096 + 64 - 1) / 64 + (min (c - 72) 4096 + 4096 - 1) / 4096 := by
  have e1 : (lev ((9 : Nat) : Int)).toNat = 2 := by decide
  unfold per; rw [e1, lft_9, part_2]; rfl
theorem per_10 (c : Int) : per c 10 = (min (c - 4168) 262144 + 64 - 1) / 64 + (min (c - 4168) 262144 + 4096 - 1) / 4096 + (min (c - 4168) 262144 + 262144 - 1) / 262144 := by
  have e1 : (lev ((10 : Nat) : Int)).toNat = 3 := by decide
  unfold per; rw [e1, lft_10, part_3]; rfl
theorem tot_9 (c : Int) : tot c (List.range 9) = per c 8 := by rw [List.range_succ, tot_snoc, tot_low c 8 (by omega)]; omega
theorem tot_10 (c : Int) : tot c (List.range 10) = per c 8 + per c 9 := by rw [List.range_succ, tot_snoc, tot_9]
theorem tot_11 (c : Int) : tot c (List.range 11) = per c 8 + per c 9 + per c 10 := by rw [List.range_succ, tot_snoc, tot_10]
theorem tot_ind {c : Int} (hc : c ≤ 65536) {pre : List Nat} (hall : ∀ y ∈ pre, 0 < lft c y) (h : pre = List.range 11 ∨ ∃ x, pre ++ [x] <+: List.range 11 ∧ lft c x ≤ 0) : tot c pre = ind c := by
  rcases h with rfl | ⟨x, hp, hl⟩
  · have h10 := hall 10 (by decide)
    rw [lft_10] at h10
    rw [tot_11, per_8, per_9, per_10, ind_3 (by omega)]
    rw [show min (c - 8) 64 = 64 by omega, show min (c - 72) 4096 = 4096 by omega, show min (c - 4168) 262144 = c - 4168 by omega]
    omega
  · obtain ⟨rfl, hx⟩ := pre_range hp
    by_cases h8 : x ≤ 8
    · rw [tot_low c x h8]
      have e : fst x = x := by unfold fst; rw [if_pos (by omega)]
      have hs : 1 ≤ spn (lev x) := by
        have : x = 0 ∨ x = 1 ∨ x = 2 ∨ x = 3 ∨ x = 4 ∨ x = 5 ∨ x = 6 ∨ x = 7 ∨ x = 8 := by omega
        rcases this with rfl | rfl | rfl | rfl | rfl | rfl | rfl | rfl | rfl <;> decide
      unfold lft at hl
      rw [e] at hl
      rw [ind_0 (by omega)]
    · have : x = 9 ∨ x = 10 := by omega
      rcases this with rfl | rfl
      · have h8 := hall 8 (by decide)
        rw [lft_8] at h8
        rw [lft_9] at hl
        rw [tot_9, per_8, ind_1 (by omega) (by omega)]
        omega
      · have h9 := hall 9 (by decide)
        rw [lft_9] at h9
        rw [lft_10] at hl
        rw [tot_10, per_8, per_9, ind_2 (by omega) (by omega)]
        rw [show min (c - 8) 64 = 64 by omega, show min (c - 72) 4096 = c - 72 by omega]
        omega

/-- m: how many numbers at a way's end are noughts. -/
def Tz (k : Int) (m : Nat) : Prop := m ≤ ofN k ∧ (∀ j, ofN k - m ≤ j → j < ofN k → ofZ k j = 0) ∧ (m = ofN k ∨ ofZ k (ofN k - 1 - m) ≠ 0)

theorem ind_step {k : Int} {m : Nat} (h0 : 0 ≤ k) (h1 : k < 65536) (h : Tz k m) : ind (k + 1) = ind k + m := by
  obtain ⟨hm, ha, hb⟩ := h
  by_cases h8 : k < 8
  · rw [ofN_0 h8] at hm
    rw [ind_0 (by omega), ind_0 (by omega)]; omega
  · by_cases h72 : k < 72
    · rw [ofN_1 (by omega) h72] at hm ha hb
      have hz := ofZ_1 h72
      rw [ind_1 (by omega) (by omega)]
      have : m = 0 ∨ m = 1 := by omega
      rcases this with rfl | rfl
      · rcases hb with hb | hb
        · omega
        · rw [hz] at hb
          rw [ind_1 (by omega) (by omega)]; omega
      · have := ha 0 (by omega) (by omega)
        rw [hz] at this
        rw [ind_0 (by omega)]; omega
    · by_cases h4 : k < 4168
      · rw [ofN_2 (by omega) h4] at hm ha hb
        have z0 := ofZ_20 (by omega) h4
        have z1 := ofZ_21 (by omega) h4
        rw [ind_2 (by omega) (by omega)]
        have : m = 0 ∨ m = 1 ∨ m = 2 := by omega
        rcases this with rfl | rfl | rfl
        · rcases hb with hb | hb
          · omega
          · rw [show 2 - 1 - 0 = 1 from rfl, z1] at hb
            rw [ind_2 (by omega) (by omega)]; omega
        · have a1 := ha 1 (by omega) (by omega)
          rw [z1] at a1
          rcases hb with hb | hb
          · omega
          · rw [show 2 - 1 - 1 = 0 from rfl, z0] at hb
            rw [ind_2 (by omega) (by omega)]; omega
        · have a1 := ha 1 (by omega) (by omega)
          have a0 := ha 0 (by omega) (by omega)
          rw [z1] at a1
          rw [z0] at a0
          rw [ind_1 (by omega) (by omega)]; omega
      · rw [ofN_3 (by omega)] at hm ha hb
        have z0 := ofZ_30 (k := k) (by omega)
        have z1 := ofZ_31 (k := k) (by omega)
        have z2 := ofZ_32 (k := k) (by omega)
        rw [ind_3 (by omega)]
        have : m = 0 ∨ m = 1 ∨ m = 2 ∨ m = 3 := by omega
        rcases this with rfl | rfl | rfl | rfl
        · rcases hb with hb | hb
          · omega
          · rw [show 3 - 1 - 0 = 2 from rfl, z2] at hb
            rw [ind_3 (by omega)]; omega
        · have a2 := ha 2 (by omega) (by omega)
          rw [z2] at a2
          rcases hb with hb | hb
          · omega
          · rw [show 3 - 1 - 1 = 1 from rfl, z1] at hb
            rw [ind_3 (by omega)]; omega
        · have a2 := ha 2 (by omega) (by omega)
          have a1 := ha 1 (by omega) (by omega)
          rw [z2] at a2
          rw [z1] at a1
          rcases hb with hb | hb
          · omega
          · rw [show 3 - 1 - 2 = 0 from rfl, z0] at hb
            rw [ind_3 (by omega)]; omega
        · have a2 := ha 2 (by omega) (by omega)
          have a1 := ha 1 (by omega) (by omega)
          have a0 := ha 0 (by omega) (by omega)
          rw [z2] at a2
          rw [z1] at a1
          rw [z0] at a0
          have : k = 4168 := by omega
          subst this
          decide

/-- The blocks a and b hang on one block of level 1, or on one direct pointer. -/
def Tog (a b : Int) : Prop := ofP a = ofP b ∧ ofN a = ofN b ∧ ∀ i, i + 1 < ofN a → ofZ a i = ofZ b i

theorem ofP_inv {a b : Int} (h0 : 0 ≤ a) (hb : 0 ≤ b) (h : ofP a = ofP b) : (a < 8 ∧ b = a) ∨ (8 ≤ a ∧ a < 72 ∧ 8 ≤ b ∧ b < 72) ∨ (72 ≤ a ∧ a < 4168 ∧ 72 ≤ b ∧ b < 4168) ∨ (4168 ≤ a ∧ 4168 ≤ b) := by
  unfold ofP at h
  (repeat' split at h) <;> omega

theorem tog_iff {a b : Int} (h0 : 0 ≤ a) (hab : a ≤ b) (h1 : b < 65536) : Tog a b ↔ b < nxt a := by
  have hn : nxt a = if a < 8 then a + 1 else min (8 + ((a - 8) / 64 + 1) * 64) 65536 := by unfold nxt; rw [if_neg (by omega), if_neg (by omega)]
  rw [hn]
  constructor
  · rintro ⟨hp, hN, hz⟩
    rcases ofP_inv h0 (by omega) hp with ⟨h2, rfl⟩ | ⟨h2, h3, h4, h5⟩ | ⟨h2, h3, h4, h5⟩ | ⟨h2, h3⟩
    · rw [if_pos h2]; omega
    · rw [if_neg (by omega)]; omega
    · rw [if_neg (by omega)]
      rw [ofN_2 h2 h3] at hz
      have := hz 0 (by omega)
      rw [ofZ_20 h2 h3, ofZ_20 h4 h5] at this
      omega
    · rw [if_neg (by omega)]
      rw [ofN_3 h2] at hz
      have a0 := hz 0 (by omega)
      have a1 := hz 1 (by omega)
      rw [ofZ_30 h2, ofZ_30 h3] at a0
      rw [ofZ_31 h2, ofZ_31 h3] at a1
      omega
  · intro h
    by_cases h8 : a < 8
    · rw [if_pos h8] at h
      obtain rfl : b = a := by omega
      exact ⟨rfl, rfl, fun _ _ => rfl⟩
    · rw [if_neg h8] at h
      by_cases h72 : a < 72
      · refine ⟨by rw [ofP_1 (by omega) h72, ofP_1 (by omega) (by omega)], by rw [ofN_1 (by omega) h72, ofN_1 (by omega) (by omega)], fun i hi => ?_⟩
        rw [ofN_1 (by omega) h72] at hi; omega
      · by_cases h4 : a < 4168
        · refine ⟨by rw [ofP_2 (by omega) h4, ofP_2 (by omega) (by omega)], by rw [ofN_2 (by omega) h4, ofN_2 (by omega) (by omega)], fun i hi => ?_⟩
          rw [ofN_2 (by omega) h4] at hi
          obtain rfl : i = 0 := by omega
          rw [ofZ_20 (by omega) h4, ofZ_20 (by omega) (by omega)]; omega
        · refine ⟨by rw [ofP_3 (by omega), ofP_3 (by omega)], by rw [ofN_3 (by omega), ofN_3 (by omega)], fun i hi => ?_⟩
          rw [ofN_3 (by omega)] at hi
          have : i = 0 ∨ i = 1 := by omega
          rcases this with rfl | rfl
          · rw [ofZ_30 (by omega), ofZ_30 (by omega)]; omega
          · rw [ofZ_31 (by omega), ofZ_31 (by omega)]; omega

theorem ofN_lev {k : Int} (h0 : 0 ≤ k) : (ofN k : Int) = lev (ofP k) := by
  by_cases h8 : k < 8
  · rw [ofN_0 h8, ofP_0 h8]; unfold lev; rw [if_neg (by omega), if_pos h8]; rfl
  · by_cases h72 : k < 72
    · rw [ofN_1 (by omega) h72, ofP_1 (by omega) h72]; decide
    · by_cases h4 : k < 4168
      · rw [ofN_2 (by omega) h4, ofP_2 (by omega) h4]; decide
      · rw [ofN_3 (by omega), ofP_3 (by omega)]; decide

theorem ofZ_bd {k : Int} (h0 : 0 ≤ k) (h1 : k < 65536) {j : Nat} (hj : j < ofN k) : 0 ≤ ofZ k j ∧ ofZ k j ≤ 63 := by
  by_cases h8 : k < 8
  · rw [ofN_0 h8] at hj; omega
  · by_cases h72 : k < 72
    · rw [ofZ_1 h72]; omega
    · by_cases h4 : k < 4168
      · rw [ofN_2 (by omega) h4] at hj
        have : j = 0 ∨ j = 1 := by omega
        rcases this with rfl | rfl
        · rw [ofZ_20 (by omega) h4]; omega
        · rw [ofZ_21 (by omega) h4]; omega
      · rw [ofN_3 (by omega)] at hj
        have : j = 0 ∨ j = 1 ∨ j = 2 := by omega
        rcases this with rfl | rfl | rfl
        · rw [ofZ_30 (by omega)]; omega
        · rw [ofZ_31 (by omega)]; omega
        · rw [ofZ_32 (by omega)]; omega

theorem acc_of {k : Int} (h0 : 0 ≤ k) (h1 : k < 65536) : acc (ofP k) (ofZ k) (ofN k) = k := by
  rw [← racc_eq (ofN_lev h0)]
  by_cases h8 : k < 8
  · rw [ofN_0 h8, ofP_0 h8]
    obtain ⟨m, rfl⟩ := Int.eq_ofNat_of_zero_le h0
    have : frst m = m := by
      unfold frst fst
      rw [if_neg (by omega), Int.toNat_natCast, if_pos (by omega)]
    rw [this]; simp [racc]
  · by_cases h72 : k < 72
    · have : frst 8 = 8 := by decide
      rw [ofN_1 (by omega) h72, ofP_1 (by omega) h72, this]
      simp only [racc]
      rw [ofZ_1 h72]; omega
    · by_cases h4 : k < 4168
      · have : frst 9 = 72 := by decide
        rw [ofN_2 (by omega) h4, ofP_2 (by omega) h4, this]
        simp only [racc]
        rw [ofZ_20 (by omega) h4, ofZ_21 (by omega) h4]; omega
      · have : frst 10 = 4168 := by decide
        rw [ofN_3 (by omega), ofP_3 (by omega), this]
        simp only [racc]
        rw [ofZ_30 (by omega), ofZ_31 (by omega), ofZ_32 (by omega)]; omega

theorem good_of {k : Int} (h0 : 0 ≤ k) (h1 : k < 65536) : good (ofP k) (ofN k) (ofZ k) :=
  ⟨by rw [← ofN_lev h0]; omega, ofN_lev h0, fun j hj => ofZ_bd h0 h1 hj, by rw [acc_of h0 h1]; exact h1⟩

theorem good_back {p : Int} {n : Nat} {z : Nat → Int} (h : good p n z) : 0 ≤ acc p z n ∧ acc p z n < 65536 ∧ ofP (acc p z n) = p ∧ ofN (acc p z n) = n ∧ ∀ j, j < n → ofZ (acc p z n) j = z j := by
  obtain ⟨h1, h2, h3, h4⟩ := h
  have hb := acc_bd h1 n h3
  refine ⟨hb.1, h4, ?_⟩
  rw [← racc_eq h2] at hb h4 ⊢
  have h5 := lev_bd p
  have hcase : n = 0 ∨ n = 1 ∨ n = 2 ∨ n = 3 := by omega
  unfold lev at h2 h1 h5
  rcases hcase with rfl | rfl | rfl | rfl
  · have hp : 0 ≤ p ∧ p < 8 := by split at h2 <;> (try split at h2) <;> omega
    obtain ⟨m, rfl⟩ := Int.eq_ofNat_of_zero_le hp.1
    have : frst m = m := by
      unfold frst fst
      rw [if_neg (by omega), Int.toNat_natCast, if_pos (by omega)]
    have e : frst m + racc z 0 = m := by rw [this]; simp [racc]
    rw [e]
    exact ⟨ofP_0 (by omega), ofN_0 (by omega), fun j hj => by omega⟩
  · have hp : p = 8 := by split at h2 <;> (try split at h2) <;> omega
    subst hp
    have a0 := h3 0 (by omega)
    have : frst 8 = 8 := by decide
    have e : frst 8 + racc z 1 = 8 + z 0 := by rw [this]; simp [racc]
    rw [e]
    refine ⟨ofP_1 (by omega) (by omega), ofN_1 (by omega) (by omega), fun j hj => ?_⟩
    obtain rfl : j = 0 := by omega
    rw [ofZ_1 (by omega)]; omega
  · have hp : p = 9 := by split at h2 <;> (try split at h2) <;> omega
    subst hp
    have a0 := h3 0 (by omega)
    have a1 := h3 1 (by omega)
    have : frst 9 = 72 := by decide
    have e : frst 9 + racc z 2 = 72 + (64 * z 0 + z 1) := by rw [this]; simp [racc]
    rw [e]
    refine ⟨ofP_2 (by omega) (by omega), ofN_2 (by omega) (by omega), fun j hj => ?_⟩
    have : j = 0 ∨ j = 1 := by omega
    rcases this with rfl | rfl
    · rw [ofZ_20 (by omega) (by omega)]; omega
    · rw [ofZ_21 (by omega) (by omega)]; omega
  · have hp : p = 10 := by split at h2 <;> (try split at h2) <;> omega
    subst hp
    have a0 := h3 0 (by omega)
    have a1 := h3 1 (by omega)
    have a2 := h3 2 (by omega)
    have : frst 10 = 4168 := by decide
    have e : frst 10 + racc z 3 = 4168 + (64 * (64 * z 0 + z 1) + z 2) := by rw [this]; simp [racc]
    rw [e]
    refine ⟨ofP_3 (by omega), ofN_3 (by omega), fun j hj => ?_⟩
    have : j = 0 ∨ j = 1 ∨ j = 2 := by omega
    rcases this with rfl | rfl | rfl
    · rw [ofZ_30 (by omega)]; omega
    · rw [ofZ_31 (by omega)]; omega
    · rw [ofZ_32 (by omega)]; omega

/-- Two ways that are the same are one block's. -/
theorem way_inj {a b : Int} (ha0 : 0 ≤ a) (ha : a < 65536) (hb0 : 0 ≤ b) (hb : b < 65536) (hp : ofP a = ofP b) (hz : ∀ i, i < ofN a → ofZ a i = ofZ b i) : a = b := by
  rcases ofP_inv ha0 hb0 hp with ⟨h2, rfl⟩ | ⟨h2, h3, h4, h5⟩ | ⟨h2, h3, h4, h5⟩ | ⟨h2, h3⟩
  · rfl
  · have := hz 0 (by rw [ofN_1 h2 h3]; omega)
    rw [ofZ_1 h3, ofZ_1 h5] at this
    omega
  · have a0 := hz 0 (by rw [ofN_2 h2 h3]; omega)
    have a1 := hz 1 (by rw [ofN_2 h2 h3]; omega)
    rw [ofZ_20 h2 h3, ofZ_20 h4 h5] at a0
    rw [ofZ_21 h2 h3, ofZ_21 h4 h5] at a1
    omega
  · have a0 := hz 0 (by rw [ofN_3 h2]; omega)
    have a1 := hz 1 (by rw [ofN_3 h2]; omega)
    have a2 := hz 2 (by rw [ofN_3 h2]; omega)
    rw [ofZ_30 h2, ofZ_30 h3] at a0
    rw [ofZ_31 h2, ofZ_31 h3] at a1
    rw [ofZ_32 h2, ofZ_32 h3] at a2
    omega
theorem ofN_of_ofP {a b : Int} (ha0 : 0 ≤ a) (hb0 : 0 ≤ b) (hp : ofP a = ofP b) : ofN a = ofN b := by
  have h1 := ofN_lev ha0
  have h2 := ofN_lev hb0
  rw [hp] at h1; omega
end Go.Proofs.Ytjniajojbnhmgaa
