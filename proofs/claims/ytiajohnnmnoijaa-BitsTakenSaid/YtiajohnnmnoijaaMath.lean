/-
  Plain arithmetic of a block's bits (no program in sight): what a byte's bits are, setting and clearing one, packing eight, counting set ones, the first clear one.
  Conditions: none but those that each lemma names.
-/
namespace Go.Proofs.Ytiajohnnmnoijaa

/-- Bit i of the bytes f. -/
def bit (f : Nat → Nat) (i : Nat) : Bool := f (i / 8) / 2 ^ (i % 8) % 2 == 1

/-- f with the byte j turned into v. -/
def upd (f : Nat → Nat) (j v : Nat) : Nat → Nat := fun k => if k = j then v else f k

/-- Every byte is one. -/
def Bytes (f : Nat → Nat) : Prop := ∀ i, f i < 256

theorem bit_test (f : Nat → Nat) (i : Nat) : bit f i = (f (i / 8)).testBit (i % 8) := by
  unfold bit
  rw [Nat.testBit_eq_decide_div_mod_eq]
  rw [Bool.eq_iff_iff]; simp

theorem and_pow_ne (x k : Nat) : ((x &&& 2 ^ k : Nat) != 0) = x.testBit k := by
  rw [Bool.eq_iff_iff]
  simp only [bne_iff_ne, ne_eq]
  constructor
  · intro h
    cases hb : x.testBit k with
    | true => rfl
    | false =>
      exfalso; apply h
      apply Nat.eq_of_testBit_eq
      intro j
      rw [Nat.testBit_and, Nat.testBit_two_pow, Nat.zero_testBit]
      by_cases hj : k = j
      · subst hj; simp [hb]
      · simp [hj]
  · intro h e
    have := congrArg (fun n => Nat.testBit n k) e
    simp [Nat.testBit_and, h] at this

theorem and_pow_eq (x k : Nat) : ((x &&& 2 ^ k : Nat) == 0) = !x.testBit k := by
  rw [← and_pow_ne]; simp [bne]

theorem pow_lt (i : Nat) : 2 ^ (i % 8) < 256 := by
  have : i % 8 < 8 := Nat.mod_lt _ (by decide)
  calc 2 ^ (i % 8) < 2 ^ 8 := Nat.pow_lt_pow_right (by decide) this
    _ = 256 := by decide

theorem or_lt (a b : Nat) (ha : a < 256) (hb : b < 256) : a ||| b < 256 := Nat.or_lt_two_pow (n := 8) ha hb
theorem and_lt (a b : Nat) (ha : a < 256) : a &&& b < 256 := Nat.lt_of_le_of_lt Nat.and_le_left ha

/-- The block with bit i set. -/
def setB (f : Nat → Nat) (i : Nat) : Nat → Nat := upd f (i / 8) (f (i / 8) ||| 2 ^ (i % 8))
/-- The block with bit i clear. -/
def clrB (f : Nat → Nat) (i : Nat) : Nat → Nat := upd f (i / 8) (f (i / 8) &&& (255 - 2 ^ (i % 8)))

theorem setB_bytes {f : Nat → Nat} (h : Bytes f) (i : Nat) : Bytes (setB f i) := by
  intro k; unfold setB upd; split
  · exact or_lt _ _ (h _) (pow_lt i)
  · exact h k
theorem clrB_bytes {f : Nat → Nat} (h : Bytes f) (i : Nat) : Bytes (clrB f i) := by
  intro k; unfold clrB upd; split
  · exact and_lt _ _ (h _)
  · exact h k

theorem testBit_255sub (k j : Nat) (hk : k < 8) : (255 - 2 ^ k).testBit j = (decide (j < 8) && !decide (k = j)) := by
  have h := Nat.testBit_two_pow_sub_succ (x := 2 ^ k) (n := 8) (by
    calc 2 ^ k < 2 ^ 8 := Nat.pow_lt_pow_right (by decide) hk) j
  have e : 2 ^ 8 - (2 ^ k + 1) = 255 - 2 ^ k := by omega
  rw [e] at h
  rw [h, Nat.testBit_two_pow]

theorem bit_setB (f : Nat → Nat) (i k : Nat) : bit (setB f i) k = (decide (k = i) || bit f k) := by
  rw [bit_test, bit_test]
  unfold setB upd
  by_cases h : k / 8 = i / 8
  · rw [if_pos h, Nat.testBit_or, Nat.testBit_two_pow, h]
    by_cases e : k = i
    · subst e; simp
    · have : ¬ i % 8 = k % 8 := by omega
      simp [e, this]
  · rw [if_neg h]
    have : k ≠ i := by intro e; subst e; exact h rfl
    simp [this]

theorem bit_clrB (f : Nat → Nat) (i k : Nat) : bit (clrB f i) k = (!decide (k = i) && bit f k) := by
  rw [bit_test, bit_test]
  unfold clrB upd
  have h8 : i % 8 < 8 := Nat.mod_lt _ (by decide)
  have k8 : k % 8 < 8 := Nat.mod_lt _ (by decide)
  by_cases h : k / 8 = i / 8
  · rw [if_pos h, Nat.testBit_and, testBit_255sub _ _ h8, h]
    by_cases e : k = i
    · subst e; simp
    · have : ¬ i % 8 = k % 8 := by omega
      simp [e, this, k8]
  · rw [if_neg h]
    have : k ≠ i := by intro e; subst e; exact h rfl
    simp [this]

/-- Bytes are what their bits are. -/
theorem byte_ext {a b : Nat} (ha : a < 256) (hb : b < 256) (h : ∀ k, k < 8 → a.testBit k = b.testBit k) : a = b := by
  apply Nat.eq_of_testBit_eq
  intro k
  by_cases hk : k < 8
  · exact h k hk
  · rw [Nat.testBit_lt_two_pow (Nat.lt_of_lt_of_le ha (by
      calc 256 = 2 ^ 8 := by decide
        _ ≤ 2 ^ k := Nat.pow_le_pow_right (by decide) (by omega))),
      Nat.testBit_lt_two_pow (Nat.lt_of_lt_of_le hb (by
      calc 256 = 2 ^ 8 := by decide
        _ ≤ 2 ^ k := Nat.pow_le_pow_right (by decide) (by omega)))]

theorem block_ext {f g : Nat → Nat} (hf : Bytes f) (hg : Bytes g) (h : ∀ i, i < 2048 → bit f i = bit g i) : ∀ j, j < 256 → f j = g j := by
  intro j hj
  refine byte_ext (hf j) (hg j) fun k hk => ?_
  have := h (8 * j + k) (by omega)
  rw [bit_test, bit_test] at this
  have e1 : (8 * j + k) / 8 = j := by omega
  have e2 : (8 * j + k) % 8 = k := by omega
  rwa [e1, e2] at this

/-- Eight bits as a byte, from the highest on: j of them. -/
def pk (l : Nat → Bool) (i : Nat) : Nat → Nat
  | 0 => 0
  | j + 1 => 2 * pk l i j + if l (8 * i + (7 - j)) then 1 else 0

theorem pk_lt (l : Nat → Bool) (i : Nat) : ∀ j, pk l i j < 2 ^ j
  | 0 => by simp [pk]
  | j + 1 => by
    have := pk_lt l i j
    unfold pk
    rw [Nat.pow_succ]
    split <;> omega

theorem pk_bit (l : Nat → Bool) (i : Nat) : ∀ j, j ≤ 8 → ∀ k, k < j → (pk l i j).testBit k = l (8 * i + (8 - j + k))
  | 0, _, k, h => by omega
  | j + 1, hj, k, hk => by
    unfold pk
    cases k with
    | zero =>
      have e : 8 * i + (7 - j) = 8 * i + (8 - (j + 1) + 0) := by omega
      rw [e]
      cases l (8 * i + (8 - (j + 1) + 0)) <;> simp
    | succ k =>
      rw [Nat.testBit_succ]
      have : (2 * pk l i j + if l (8 * i + (7 - j)) then 1 else 0) / 2 = pk l i j := by split <;> omega
      rw [this, pk_bit l i j (by omega) k (by omega)]
      congr 2
      omega

/-- The block that the bits l are. -/
def packB (l : Nat → Bool) : Nat → Nat := fun i => pk l i 8

theorem packB_bytes (l : Nat → Bool) : Bytes (packB l) := fun i => pk_lt l i 8
theorem bit_packB (l : Nat → Bool) (i : Nat) : bit (packB l) i = l i := by
  rw [bit_test]
  unfold packB
  rw [pk_bit l _ 8 (Nat.le_refl _) _ (Nat.mod_lt _ (by decide))]
  congr 1
  omega

/-- How many of the first n bits are set. -/
def cnt (f : Nat → Nat) : Nat → Nat
  | 0 => 0
  | n + 1 => cnt f n + if bit f n then 1 else 0

theorem cnt_le (f : Nat → Nat) : ∀ n, cnt f n ≤ n
  | 0 => Nat.le_refl _
  | n + 1 => by have := cnt_le f n; unfold cnt; split <;> omega

theorem cnt_mono (f : Nat → Nat) {a b : Nat} (h : a ≤ b) : cnt f a ≤ cnt f b := by
  induction h with
  | refl => exact Nat.le_refl _
  | step _ ih => exact Nat.le_trans ih (Nat.le_add_right _ _)

/-- How many of a byte's first n bits are set. -/
def popTo (x : Nat) : Nat → Nat
  | 0 => 0
  | n + 1 => popTo x n + if x.testBit n then 1 else 0

theorem cnt_pop (f : Nat → Nat) (j : Nat) : ∀ r, r ≤ 8 → cnt f (8 * j + r) = cnt f (8 * j) + popTo (f j) r
  | 0, _ => rfl
  | r + 1, h => by
    show cnt f (8 * j + r) + (if bit f (8 * j + r) then 1 else 0) = _
    rw [cnt_pop f j r (by omega), bit_test]
    have e1 : (8 * j + r) / 8 = j := by omega
    have e2 : (8 * j + r) % 8 = r := by omega
    rw [e1, e2]
    show _ = _ + (popTo (f j) r + _)
    omega

theorem popTo_mask (x : Nat) (r : Nat) : ∀ n, popTo (x &&& (2 ^ r - 1)) n = popTo x (min n r)
  | 0 => by simp [popTo]
  | n + 1 => by
    show popTo (x &&& (2 ^ r - 1)) n + _ = _
    rw [popTo_mask x r n, Nat.testBit_and, Nat.testBit_two_pow_sub_one]
    by_cases h : n < r
    · have e1 : min n r = n := by omega
      have e2 : min (n + 1) r = n + 1 := by omega
      rw [e1, e2]; simp [h, popTo]
    · have e1 : min n r = r := by omega
      have e2 : min (n + 1) r = r := by omega
      rw [e1, e2]; simp [h]

/-- How many of a byte's bits are set. -/
def pop8 (x : Nat) : Nat := popTo x 8

theorem cnt_byte (f : Nat → Nat) (j : Nat) : cnt f (8 * (j + 1)) = cnt f (8 * j) + pop8 (f j) := cnt_pop f j 8 (Nat.le_refl _)
theorem cnt_part (f : Nat → Nat) (n : Nat) : cnt f n = cnt f (8 * (n / 8)) + pop8 (f (n / 8) &&& (2 ^ (n % 8) - 1)) := by
  have h := cnt_pop f (n / 8) (n % 8) (by omega)
  have e : 8 * (n / 8) + n % 8 = n := by omega
  rw [e] at h
  rw [h]
  unfold pop8
  rw [popTo_mask]
  congr 2
  omega

/-- A number of bits that was asked for, as one that there are. -/
def clamp (n : Int) : Nat := (min (max n 0) 2048).toNat
theorem clamp_le (n : Int) : clamp n ≤ 2048 := by unfold clamp; omega

/-- From i on the first clear bit, of n of them; -1: there is none. -/
def nextClear (f : Nat → Nat) : Nat → Nat → Int
  | 0, _ => -1
  | n + 1, i => if bit f i then nextClear f n (i + 1) else (i : Int)

theorem next_none (f : Nat → Nat) : ∀ n i, (∀ k, i ≤ k → k < i + n → bit f k = true) → nextClear f n i = -1
  | 0, _, _ => rfl
  | n + 1, i, h => by
    unfold nextClear
    rw [if_pos (h i (Nat.le_refl _) (by omega))]
    exact next_none f n (i + 1) fun k h1 h2 => h k (by omega) (by omega)

theorem next_some (f : Nat → Nat) : ∀ n i k, i ≤ k → k < i + n → bit f k = false → (∀ j, i ≤ j → j < k → bit f j = true) → nextClear f n i = (k : Int)
  | 0, _, _, _, _, _, _ => by omega
  | n + 1, i, k, h1, h2, h3, h4 => by
    unfold nextClear
    by_cases e : i = k
    · subst e; simp [h3]
    · rw [if_pos (h4 i (Nat.le_refl _) (by omega))]
      exact next_some f n (i + 1) k (by omega) (by omega) h3 fun j a b => h4 j (by omega) b

theorem next_cases (f : Nat → Nat) : ∀ n i, (nextClear f n i = -1 ∧ ∀ k, i ≤ k → k < i + n → bit f k = true) ∨
    ∃ k : Nat, nextClear f n i = (k : Int) ∧ i ≤ k ∧ k < i + n ∧ bit f k = false ∧ ∀ j, i ≤ j → j < k → bit f j = true
  | 0, i => .inl ⟨rfl, fun k h1 h2 => by omega⟩
  | n + 1, i => by
    unfold nextClear
    cases hb : bit f i with
    | false => exact .inr ⟨i, by simp, Nat.le_refl _, by omega, hb, fun j h1 h2 => by omega⟩
    | true =>
      rcases next_cases f n (i + 1) with ⟨h, hk⟩ | ⟨k, h, h1, h2, h3, h4⟩
      · refine .inl ⟨by simpa using h, fun k h1 h2 => ?_⟩
        by_cases e : k = i
        · rw [e]; exact hb
        · exact hk k (by omega) (by omega)
      · refine .inr ⟨k, by simpa using h, by omega, by omega, h3, fun j a b => ?_⟩
        by_cases e : j = i
        · rw [e]; exact hb
        · exact h4 j (by omega) b

/-- The first clear bit from a number on, ahead of another one; -1: there is none. -/
def firstB (f : Nat → Nat) (lo hi : Int) : Int := nextClear f ((min hi 2048).toNat - (max lo 0).toNat) (max lo 0).toNat

theorem first_none (f : Nat → Nat) (lo hi : Int) (h : ∀ k : Nat, lo ≤ k → (k : Int) < hi → k < 2048 → bit f k = true) : firstB f lo hi = -1 :=
  next_none f _ _ fun k h1 h2 => h k (by omega) (by omega) (by omega)

theorem first_some (f : Nat → Nat) (lo hi : Int) (k : Nat) (h1 : lo ≤ k) (h2 : (k : Int) < hi) (h3 : k < 2048) (h4 : bit f k = false) (h5 : ∀ j : Nat, lo ≤ j → j < k → bit f j = true) : firstB f lo hi = (k : Int) :=
  next_some f _ _ k (by omega) (by omega) h4 fun j a b => h5 j (by omega) b

theorem first_cases (f : Nat → Nat) (lo hi : Int) : (firstB f lo hi = -1 ∧ ∀ k : Nat, lo ≤ k → (k : Int) < hi → k < 2048 → bit f k = true) ∨
    ∃ k : Nat, firstB f lo hi = (k : Int) ∧ lo ≤ k ∧ (k : Int) < hi ∧ k < 2048 ∧ bit f k = false ∧ ∀ j : Nat, lo ≤ j → j < k → bit f j = true := by
  rcases next_cases f ((min hi 2048).toNat - (max lo 0).toNat) (max lo 0).toNat with ⟨h, hk⟩ | ⟨k, h, h1, h2, h3, h4⟩
  · exact .inl ⟨h, fun k a b c => hk k (by omega) (by omega)⟩
  · exact .inr ⟨k, h, by omega, by omega, by omega, h3, fun j a b => h4 j (by omega) b⟩

/-- Are two blocks one? -/
def eqB (f g : Nat → Nat) : Bool := (List.range 256).all fun i => f i == g i
theorem eqB_iff (f g : Nat → Nat) : eqB f g = true ↔ ∀ i, i < 256 → f i = g i := by simp [eqB]

/-- Whether bit i is set, of any number i. -/
def hasB (f : Nat → Nat) (i : Int) : Bool := decide (0 ≤ i) && decide (i < 2048) && bit f i.toNat

end Go.Proofs.Ytiajohnnmnoijaa
