/-
  Bits that are taken one by one and given back, in plain numbers.
  Conditions: those that each lemma names.
-/
import Derived.Test.YtiajohnnmnoijaaMath
namespace Go.Proofs.Ytiajohnnmnoijaa
set_option linter.unusedVariables false

def inR (lo hi : Int) (k : Nat) : Prop := lo ≤ k ∧ (k : Int) < hi ∧ k < 2048
theorem inR_iff (lo hi : Int) (k : Nat) : inR lo hi k ↔ clamp lo ≤ k ∧ k < clamp hi := by unfold inR clamp; omega

/-- A row of n numbers c, and y behind it. -/
def extc (c : Nat → Nat) (n y i : Nat) : Nat := if i < n then c i else y
theorem extc_lt (c : Nat → Nat) {n y i : Nat} (h : i < n) : extc c n y i = c i := by unfold extc; rw [if_pos h]
theorem extc_eq (c : Nat → Nat) (n y : Nat) : extc c n y n = y := by unfold extc; rw [if_neg (by omega)]

theorem cnt_set (g : Nat → Nat) (k : Nat) (h : bit g k = false) : ∀ m, cnt (setB g k) m = cnt g m + if k < m then 1 else 0
  | 0 => by simp [cnt]
  | m + 1 => by
    have ih := cnt_set g k h m
    simp only [cnt, ih, bit_setB]
    by_cases e : m = k
    · subst e
      simp [h]
    · by_cases e2 : k < m
      · have : k < m + 1 := by omega
        simp [e, e2, this]; omega
      · have : ¬ k < m + 1 := by omega
        simp [e, e2, this]
theorem cnt_full (g : Nat → Nat) (L : Nat) : ∀ d, (∀ k, L ≤ k → k < L + d → bit g k = true) → cnt g (L + d) = cnt g L + d
  | 0, _ => by simp
  | d + 1, h => by
    have ih := cnt_full g L d (fun k h1 h2 => h k h1 (by omega))
    rw [show L + (d + 1) = (L + d) + 1 by omega]
    simp only [cnt, ih, h (L + d) (by omega) (by omega)]
    simp; omega

/-- n bits c are taken of f; g is what is left. -/
structure TkM (f g : Nat → Nat) (lo hi : Int) (c : Nat → Nat) (n : Nat) : Prop where
  rise : ∀ i j, i < j → j < n → c i < c j
  rng : ∀ i, i < n → inR lo hi (c i)
  clr : ∀ i, i < n → bit f (c i) = false
  bts : ∀ k, bit g k = true ↔ bit f k = true ∨ ∃ i, i < n ∧ c i = k
  st : ∀ k, inR lo hi k → (∃ i, i < n ∧ k ≤ c i) → bit g k = true
  cntH : cnt g (clamp hi) = cnt f (clamp hi) + n
  cntL : cnt g (clamp lo) = cnt f (clamp lo)
  byts : Bytes g

theorem TkM.start {f : Nat → Nat} (hf : Bytes f) (lo hi : Int) (c : Nat → Nat) : TkM f f lo hi c 0 :=
  ⟨fun i j _ h => by omega, fun i h => by omega, fun i h => by omega, fun k => ⟨.inl, fun h => by rcases h with h | ⟨i, h, _⟩ <;> first | exact h | omega⟩, fun k _ h => by obtain ⟨i, h, _⟩ := h; omega, rfl, rfl, hf⟩

theorem TkM.low {f g : Nat → Nat} {lo hi : Int} {c : Nat → Nat} {n : Nat} (h : TkM f g lo hi c n) : ∀ i, i < n → i ≤ c i
  | 0, _ => Nat.zero_le _
  | i + 1, hi => by
    have h1 := h.low i (by omega)
    have h2 := h.rise i (i + 1) (by omega) hi
    omega
theorem TkM.le {f g : Nat → Nat} {lo hi : Int} {c : Nat → Nat} {n : Nat} (h : TkM f g lo hi c n) : n ≤ 2048 := by
  rcases Nat.eq_zero_or_pos n with rfl | hn
  · omega
  · have h1 := h.low (n - 1) (by omega)
    have h2 := (h.rng (n - 1) (by omega)).2.2
    omega

theorem TkM.above {f g : Nat → Nat} {lo hi : Int} {c : Nat → Nat} {n k : Nat} (h : TkM f g lo hi c n) (hr : inR lo hi k) (hb : bit g k = false) : ∀ i, i < n → c i < k := by
  intro i hi
  rcases Nat.lt_or_ge (c i) k with h1 | h1
  · exact h1
  · have := h.st k hr ⟨i, hi, h1⟩
    rw [hb] at this; cases this
theorem TkM.clear {f g : Nat → Nat} {lo hi : Int} {c : Nat → Nat} {n k : Nat} (h : TkM f g lo hi c n) (hb : bit g k = false) : bit f k = false := by
  cases e : bit f k with
  | false => rfl
  | true => rw [(h.bts k).2 (.inl e)] at hb; cases hb

theorem TkM.next {f g : Nat → Nat} {lo hi : Int} {c : Nat → Nat} {n k : Nat} (h : TkM f g lo hi c n) (hr : inR lo hi k) (hb : bit g k = false) (hall : ∀ j : Nat, lo ≤ j → j < k → bit g j = true) : TkM f (setB g k) lo hi (extc c n k) (n + 1) := by
  have hab := h.above hr hb
  have hk := (inR_iff lo hi k).1 hr
  refine ⟨?_, ?_, ?_, ?_, ?_, ?_, ?_, setB_bytes h.byts k⟩
  · intro i j hij hj
    rcases Nat.lt_or_ge j n with h1 | h1
    · rw [extc_lt c h1, extc_lt c (by omega)]; exact h.rise i j hij h1
    · obtain rfl : j = n := by omega
      rw [extc_eq, extc_lt c hij]; exact hab i hij
  · intro i hi
    rcases Nat.lt_or_ge i n with h1 | h1
    · rw [extc_lt c h1]; exact h.rng i h1
    · obtain rfl : i = n := by omega
      rw [extc_eq]; exact hr
  · intro i hi
    rcases Nat.lt_or_ge i n with h1 | h1
    · rw [extc_lt c h1]; exact h.clr i h1
    · obtain rfl : i = n := by omega
      rw [extc_eq]; exact h.clear hb
  · intro j
    rw [bit_setB]
    constructor
    · intro hj
      simp only [Bool.or_eq_true, decide_eq_true_eq] at hj
      rcases hj with rfl | hj
      · exact .inr ⟨n, by omega, extc_eq _ _ _⟩
      · rcases (h.bts j).1 hj with h1 | ⟨i, h1, h2⟩
        · exact .inl h1
        · exact .inr ⟨i, by omega, by rw [extc_lt c h1]; exact h2⟩
    · rintro (h1 | ⟨i, h1, h2⟩)
      · simp [(h.bts j).2 (.inl h1)]
      · rcases Nat.lt_or_ge i n with h3 | h3
        · rw [extc_lt c h3] at h2
          simp [(h.bts j).2 (.inr ⟨i, h3, h2⟩)]
        · obtain rfl : i = n := by omega
          rw [extc_eq] at h2
          simp [h2]
  · intro j hj _
    rw [bit_setB]
    by_cases e : j = k
    · simp [e]
    · rcases Nat.lt_or_ge j k with h1 | h1
      · simp [hall j hj.1 h1]
      · rename_i hex
        obtain ⟨i, hi, hle⟩ := hex
        rcases Nat.lt_or_ge i n with h3 | h3
        · rw [extc_lt c h3] at hle
          have := hab i h3
          omega
        · obtain rfl : i = n := by omega
          rw [extc_eq] at hle
          omega
  · rw [cnt_set g k hb, if_pos hk.2, h.cntH]; omega
  · rw [cnt_set g k hb, if_neg (by omega), h.cntL]; omega

theorem TkM.full {f g : Nat → Nat} {lo hi : Int} {c : Nat → Nat} {n : Nat} (h : TkM f g lo hi c n) (hall : ∀ k : Nat, lo ≤ k → (k : Int) < hi → k < 2048 → bit g k = true) (hlt : clamp lo < clamp hi) :
    cnt g (clamp hi) = cnt g (clamp lo) + (clamp hi - clamp lo) := by
  have := cnt_full g (clamp lo) (clamp hi - clamp lo) (fun k h1 h2 => by
    have hr := (inR_iff lo hi k).2 ⟨h1, by omega⟩
    exact hall k hr.1 hr.2.1 hr.2.2)
  rwa [show clamp lo + (clamp hi - clamp lo) = clamp hi by omega] at this

/-- k of the n bits c are given back, from the place r on; g is what is left. -/
structure GvM (f g : Nat → Nat) (c : Nat → Nat) (n r k : Nat) : Prop where
  bts : ∀ j, bit g j = true ↔ bit f j = true ∨ ∃ i, i < n ∧ c i = j ∧ ∀ k', k' < k → (k' + r) % n ≠ i
  byts : Bytes g

theorem turn_ne {n r k k' : Nat} (h : k' < k) (hk : k < n) : (k' + r) % n ≠ (k + r) % n := by
  intro e
  have h1 : (k' + r) % n = (k' + r + (k - k')) % n := by rw [show k' + r + (k - k') = k + r by omega]; exact e
  rw [← Nat.mod_add_mod (k' + r) n (k - k')] at h1
  have hr := Nat.mod_lt (k' + r) (show n > 0 by omega)
  generalize (k' + r) % n = q at h1 hr
  rcases Nat.lt_or_ge (q + (k - k')) n with h2 | h2
  · rw [Nat.mod_eq_of_lt h2] at h1; omega
  · rw [Nat.mod_eq_sub_mod h2, Nat.mod_eq_of_lt (by omega)] at h1; omega

theorem TkM.give {f g : Nat → Nat} {lo hi : Int} {c : Nat → Nat} {n : Nat} (h : TkM f g lo hi c n) (r : Nat) : GvM f g c n r 0 :=
  ⟨fun j => ⟨fun hj => ((h.bts j).1 hj).imp id fun ⟨i, h1, h2⟩ => ⟨i, h1, h2, fun k' hk => by omega⟩, fun hj => (h.bts j).2 (hj.imp id fun ⟨i, h1, h2, _⟩ => ⟨i, h1, h2⟩)⟩, h.byts⟩
theorem GvM.has {f g : Nat → Nat} {c : Nat → Nat} {n r k : Nat} (h : GvM f g c n r k) (hk : k < n) : bit g (c ((k + r) % n)) = true :=
  (h.bts _).2 (.inr ⟨(k + r) % n, Nat.mod_lt _ (by omega), rfl, fun k' hk' => turn_ne hk' hk⟩)
theorem GvM.next {f g : Nat → Nat} {c : Nat → Nat} {n r k : Nat} (h : GvM f g c n r k) (hk : k < n) (hinj : ∀ i j, i < n → j < n → c i = c j → i = j) (hclr : ∀ i, i < n → bit f (c i) = false) : GvM f (clrB g (c ((k + r) % n))) c n r (k + 1) := by
  have hq := Nat.mod_lt (k + r) (show n > 0 by omega)
  refine ⟨fun j => ?_, clrB_bytes h.byts _⟩
  rw [bit_clrB]
  constructor
  · intro hj
    simp only [Bool.and_eq_true, Bool.not_eq_true', decide_eq_false_iff_not] at hj
    rcases (h.bts j).1 hj.2 with h1 | ⟨i, h1, h2, h3⟩
    · exact .inl h1
    · refine .inr ⟨i, h1, h2, fun k' hk' e => ?_⟩
      rcases Nat.lt_or_ge k' k with h4 | h4
      · exact h3 k' h4 e
      · obtain rfl : k' = k := by omega
        exact hj.1 (by rw [← h2, ← e])
  · rintro (h1 | ⟨i, h1, h2, h3⟩)
    · have hne : ¬ j = c ((k + r) % n) := fun e => by
        have := hclr _ hq
        rw [← e, h1] at this; cases this
      simp [hne, (h.bts j).2 (.inl h1)]
    · have hne : ¬ j = c ((k + r) % n) := fun e => h3 k (by omega) (hinj _ _ hq h1 (by rw [h2, e]))
      simp [hne, (h.bts j).2 (.inr ⟨i, h1, h2, fun k' hk' => h3 k' (by omega)⟩)]
theorem GvM.done {f g : Nat → Nat} {c : Nat → Nat} {n r : Nat} (h : GvM f g c n r n) (hf : Bytes f) (hr : r < n ∨ n = 0) : eqB g f = true := by
  rw [eqB_iff]
  refine block_ext h.byts hf fun j _ => ?_
  have h2 : bit g j = true ↔ bit f j = true := by
    rw [h.bts j]
    constructor
    · rintro (h1 | ⟨i, h1, _, h3⟩)
      · exact h1
      · exfalso
        have hn : 0 < n := by omega
        have hr' : r < n := by omega
        rcases Nat.lt_or_ge i r with h4 | h4
        · refine h3 (i + n - r) (by omega) ?_
          rw [show i + n - r + r = i + n by omega, Nat.add_mod_right, Nat.mod_eq_of_lt h1]
        · refine h3 (i - r) (by omega) ?_
          rw [show i - r + r = i by omega, Nat.mod_eq_of_lt h1]
    · exact .inl
  cases e1 : bit g j <;> cases e2 : bit f j <;> simp_all
theorem TkM.inj {f g : Nat → Nat} {lo hi : Int} {c : Nat → Nat} {n : Nat} (h : TkM f g lo hi c n) : ∀ i j, i < n → j < n → c i = c j → i = j := by
  intro i j hi hj e
  rcases Nat.lt_trichotomy i j with h1 | h1 | h1
  · have := h.rise i j h1 hj; omega
  · exact h1
  · have := h.rise j i h1 hi; omega
end Go.Proofs.Ytiajohnnmnoijaa
