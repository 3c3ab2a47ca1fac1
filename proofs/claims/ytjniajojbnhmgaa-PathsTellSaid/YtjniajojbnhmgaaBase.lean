/-
  The contracts of Level, Span and Next (package paths) and of Level, Span and First (quernref10).
  Conditions: none.
-/
import Derived.Test.YtjniajojbnhmgaaRows
import Derived.WalkKit
import Derived.WalkSpells
import Derived.WalkLawsBesides
import Derived.Deep.QuietTactic
import Derived.BigQuiet
import Derived.Lib.Hide
namespace Go.Proofs.Ytjniajojbnhmgaa
open Go.RowKit
set_option linter.unusedVariables false

theorem ret_int {k : IntKind} {a b : Int} (h : a = b) : Ending.returned (.int k a) = .returned (.int k b) := by rw [h]
theorem below_drewN {B : Nat} {a w : World} (h : Below B a w) (n : Nat) : Below B a (w.drewN n) := ⟨h.os, h.tape, h.output, h.size, h.block⟩

def lev (p : Int) : Int := if p < 0 ∨ 10 < p then -1 else if p < 8 then 0 else p - 7
def spn (l : Int) : Int := if l < 0 ∨ 3 < l then 0 else if l = 0 then 1 else if l = 1 then 64 else if l = 2 then 4096 else 262144

set_option maxRecDepth 100000 in
set_option maxHeartbeats 400000 in
theorem level_any (p : Int) (w : World) : Calls Try.prog 18 #[.int .i64 p] w fun e w' => e = .returned (.int .i64 (lev p)) ∧ w' = w := by
  by_cases h : p < 0
  · go_enter Try.func18, Try.ntmps18
    go_wp2
    go_ret
    exact ⟨ret_int (by unfold lev; rw [if_pos (.inl h)]), rfl⟩
  · by_cases h2 : 10 < p
    · go_enter Try.func18, Try.ntmps18
      go_wp2
      go_ret
      exact ⟨ret_int (by unfold lev; rw [if_pos (.inr h2)]), rfl⟩
    · by_cases h3 : p < 8
      · go_enter Try.func18, Try.ntmps18
        go_wp2
        go_ret
        exact ⟨ret_int (by unfold lev; rw [if_neg (by omega), if_pos h3]), rfl⟩
      · go_enter Try.func18, Try.ntmps18
        go_wp2
        go_ret
        exact ⟨ret_int (by unfold lev; rw [if_neg (by omega), if_neg (by omega)]; omega), rfl⟩

set_option maxRecDepth 100000 in
set_option maxHeartbeats 400000 in
theorem rlevel_any (p : Int) (w : World) : Calls Try.prog 19 #[.int .i64 p] w fun e w' => e = .returned (.int .i64 (lev p)) ∧ w' = w := by
  by_cases h : p < 0
  · go_enter Try.func19, Try.ntmps19
    go_wp2
    go_ret
    exact ⟨ret_int (by unfold lev; rw [if_pos (.inl h)]), rfl⟩
  · by_cases h2 : 10 < p
    · go_enter Try.func19, Try.ntmps19
      go_wp2
      go_ret
      exact ⟨ret_int (by unfold lev; rw [if_pos (.inr h2)]), rfl⟩
    · by_cases h3 : p < 8
      · go_enter Try.func19, Try.ntmps19
        go_wp2
        go_ret
        exact ⟨ret_int (by unfold lev; rw [if_neg (by omega), if_pos h3]), rfl⟩
      · go_enter Try.func19, Try.ntmps19
        go_wp2
        go_ret
        exact ⟨ret_int (by unfold lev; rw [if_neg (by omega), if_neg (by omega)]), rfl⟩

theorem spn_cases {l : Int} (h0 : 0 ≤ l) (h3 : l ≤ 3) : l = 0 ∨ l = 1 ∨ l = 2 ∨ l = 3 := by omega

set_option maxRecDepth 100000 in
set_option maxHeartbeats 400000 in
theorem span_any (l : Int) (w : World) : Calls Try.prog 20 #[.int .i64 l] w fun e w' => e = .returned (.int .i64 (spn l)) ∧ w' = w := by
  by_cases h : l < 0
  · go_enter Try.func20, Try.ntmps20
    go_wp2
    go_ret
    exact ⟨ret_int (by unfold spn; rw [if_pos (.inl h)]), rfl⟩
  · by_cases h2 : 3 < l
    · go_enter Try.func20, Try.ntmps20
      go_wp2
      go_ret
      exact ⟨ret_int (by unfold spn; rw [if_pos (.inr h2)]), rfl⟩
    · obtain ⟨m, rfl⟩ := Int.eq_ofNat_of_zero_le (a := l) (by omega)
      have hm : m ≤ 3 := by omega
      clear h h2
      have hm3 : (m : Int) ≤ 3 := by omega
      have hs : ((64 ^ m : Nat) : Int) = spn m := by
        have : m = 0 ∨ m = 1 ∨ m = 2 ∨ m = 3 := by omega
        rcases this with rfl | rfl | rfl | rfl <;> decide
      go_enter Try.func20, Try.ntmps20
      go_wp2
      go_loop [3, 11] (fun a v => ∃ k : Nat, k ≤ m ∧ v = .int .i64 k ∧ a = .int .i64 ((64 ^ k : Nat) : Int)) (fun _ v => m - (intOf v).toNat)
      case atStart => exact ⟨0, Nat.zero_le _, rfl, rfl⟩
      case round =>
        obtain ⟨k, hk, rfl, rfl⟩ := hrel
        have hk3 : k = 0 ∨ k = 1 ∨ k = 2 ∨ k = 3 := by omega
        by_cases hlt : k < m
        · have hb : 64 ^ k ≤ 4096 := by
            have : k ≤ 2 := by omega
            calc 64 ^ k ≤ 64 ^ 2 := Nat.pow_le_pow_right (by omega) this
              _ = 4096 := rfl
          have hp := Lib.hid (Nat.pow_succ 64 k)
          generalize 64 ^ k = y at hb hp
          have hl3 : (k : Int) < (m : Int) := by omega
          go_wp2
          go_round
          case rel => exact ⟨k + 1, by omega, by go_num, by rw [hp.out]; go_num⟩
          case measure => simp [intOf]; omega
        · obtain rfl : k = m := by omega
          go_wp2
          go_ret
          exact ⟨rfl, rfl⟩

def nxt (k : Int) : Int := if k < 0 then 0 else if 65536 ≤ k then 65536 else if k < 8 then k + 1 else min (8 + ((k - 8) / 64 + 1) * 64) 65536

set_option maxRecDepth 100000 in
set_option maxHeartbeats 400000 in
theorem next_any (k : Int) (w : World) : Calls Try.prog 24 #[.int .i64 k] w fun e w' => e = .returned (.int .i64 (nxt k)) ∧ w' = w := by
  by_cases h : k < 0
  · go_enter Try.func24, Try.ntmps24
    go_wp2
    go_ret
    exact ⟨ret_int (by unfold nxt; rw [if_pos h]), rfl⟩
  · by_cases h2 : 65536 ≤ k
    · go_enter Try.func24, Try.ntmps24
      go_wp2
      go_ret
      exact ⟨ret_int (by unfold nxt; rw [if_neg (by omega), if_pos h2]), rfl⟩
    · by_cases h3 : k < 8
      · go_enter Try.func24, Try.ntmps24
        go_wp2
        go_ret
        exact ⟨ret_int (by unfold nxt; rw [if_neg (by omega), if_neg (by omega), if_pos h3]), rfl⟩
      · have hq0 : 0 ≤ (k - 8) / 64 := by omega
        have hq1 : (k - 8) / 64 ≤ 1024 := by omega
        have hk0 : 0 ≤ k - 8 := by omega
        go_enter Try.func24, Try.ntmps24
        go_wp2
        · go_ret
          exact ⟨ret_int (by unfold nxt; rw [if_neg (by omega), if_neg (by omega), if_neg (by omega)]; omega), rfl⟩
        · go_ret
          exact ⟨ret_int (by unfold nxt; rw [if_neg (by omega), if_neg (by omega), if_neg (by omega)]; omega), rfl⟩

/-- The document's spans. -/
def sp4 : Array Value := #[.int .i64 1, .int .i64 64, .int .i64 4096, .int .i64 262144]

set_option maxRecDepth 100000 in
set_option maxHeartbeats 400000 in
theorem rspan_any (l : Int) (w : World) : Calls Try.prog 21 #[.int .i64 l] w fun e w' => e = .returned (.int .i64 (spn l)) ∧ Below w.heap.size w w' := by
  by_cases h : l < 0
  · go_enter Try.func21, Try.ntmps21
    go_wp2
    go_ret
    exact ⟨ret_int (by unfold spn; rw [if_pos (.inl h)]), (Below.refl _ w).alloc (Nat.le_refl _) _⟩
  · by_cases h2 : 3 < l
    · go_enter Try.func21, Try.ntmps21
      go_wp2
      go_ret
      exact ⟨ret_int (by unfold spn; rw [if_pos (.inr h2)]), (Below.refl _ w).alloc (Nat.le_refl _) _⟩
    · have c0 : (w.alloc (.cells sp4 3)).cell? ⟨w.heap.size, 0, none⟩ = some (.int .i64 1) := by rw [cell_of_row _ _ _ _ _ _ (heap_alloc_new w _)]; rfl
      have c1 : (w.alloc (.cells sp4 3)).cell? ⟨w.heap.size, 1, none⟩ = some (.int .i64 64) := by rw [cell_of_row _ _ _ _ _ _ (heap_alloc_new w _)]; rfl
      have c2 : (w.alloc (.cells sp4 3)).cell? ⟨w.heap.size, 2, none⟩ = some (.int .i64 4096) := by rw [cell_of_row _ _ _ _ _ _ (heap_alloc_new w _)]; rfl
      have c3 : (w.alloc (.cells sp4 3)).cell? ⟨w.heap.size, 3, none⟩ = some (.int .i64 262144) := by rw [cell_of_row _ _ _ _ _ _ (heap_alloc_new w _)]; rfl
      unfold sp4 at c0 c1 c2 c3
      rcases spn_cases (l := l) (by omega) (by omega) with rfl | rfl | rfl | rfl
      all_goals
        go_enter Try.func21, Try.ntmps21
        go_wp2
        go_ret
        exact ⟨rfl, (Below.refl _ w).alloc (Nat.le_refl _) _⟩

/-- The first index that hangs on a pointer. -/
def fst (p : Nat) : Nat := if p < 9 then p else if p = 9 then 72 else if p = 10 then 4168 else 266312
theorem fst_succ (p : Nat) (h : p ≤ 10) : (fst (p + 1) : Int) = fst p + spn (lev p) := by
  have : p = 0 ∨ p = 1 ∨ p = 2 ∨ p = 3 ∨ p = 4 ∨ p = 5 ∨ p = 6 ∨ p = 7 ∨ p = 8 ∨ p = 9 ∨ p = 10 := by omega
  rcases this with rfl | rfl | rfl | rfl | rfl | rfl | rfl | rfl | rfl | rfl | rfl <;> decide
theorem fst_le (p : Nat) : fst p ≤ 266312 := by unfold fst; split <;> (try split) <;> (try split) <;> omega
theorem spn_bd (l : Int) : 0 ≤ spn l ∧ spn l ≤ 262144 := by unfold spn; (repeat' split) <;> omega
def frst (p : Int) : Int := if p < 0 ∨ 10 < p then -1 else fst p.toNat

set_option maxRecDepth 100000 in
set_option maxHeartbeats 400000 in
theorem rfirst_any (p : Int) (w : World) : Calls Try.prog 23 #[.int .i64 p] w fun e w' => e = .returned (.int .i64 (frst p)) ∧ Below w.heap.size w w' := by
  by_cases h : p < 0 ∨ 10 < p
  · have hl : lev p = -1 := by unfold lev; rw [if_pos h]
    have HL := Lib.hid (rlevel_any p w)
    rw [hl] at HL
    go_enter Try.func23, Try.ntmps23
    go_wp2_with (go_at_call 19; refine HL.out.mono ?_; rintro e w1 ⟨rfl, hw1⟩; rw [hw1]; clear hw1)
    go_ret
    exact ⟨ret_int (by unfold frst; rw [if_pos h]), Below.refl _ w⟩
  · obtain ⟨m, rfl⟩ := Int.eq_ofNat_of_zero_le (a := p) (by omega)
    have hm : m ≤ 10 := by omega
    have hl0 : 0 ≤ lev m := by unfold lev; rw [if_neg h]; split <;> omega
    generalize hq : lev m = q at hl0
    have HL := Lib.hid (rlevel_any m w)
    rw [hq] at HL
    have hf : frst m = fst m := by unfold frst; rw [if_neg h]; rfl
    clear h hq
    go_enter Try.func23, Try.ntmps23
    go_wp2_with (go_at_call 19; refine HL.out.mono ?_; rintro e w1 ⟨rfl, hw1⟩; rw [hw1]; clear hw1)
    go_loopw [3, 4] (fun a v wr => ∃ k : Nat, k ≤ m ∧ v = .int .i64 k ∧ a = .int .i64 (fst k) ∧ Below w.heap.size w wr) (fun _ v _ => m - (intOf v).toNat)
    case atStart => exact ⟨0, Nat.zero_le _, rfl, rfl, Below.refl _ w⟩
    case round =>
      obtain ⟨k, hk, rfl, rfl, hb⟩ := hrel
      by_cases hlt : k < m
      · have hfs := fst_succ k (by omega)
        have hfl := fst_le k
        have hsb := spn_bd (lev k)
        have HF := Lib.hid hfs
        have hl3 : (k : Int) < (m : Int) := by omega
        clear hfs
        generalize fst k = y at hfl HF
        go_wp2_with (first | (go_at_call 19; refine (rlevel_any _ _).mono ?_; rintro e w1 ⟨rfl, hw1⟩; rw [hw1]; clear hw1) | (go_at_call 21; refine (rspan_any _ _).mono ?_; rintro e w2 ⟨rfl, hb2⟩))
        go_roundw
        case rel => exact ⟨k + 1, by omega, by go_num, by rw [HF.out], hb.trans (hb2.mono hb.size)⟩
        case measure => simp [intOf]; omega
      · obtain rfl : k = m := by omega
        go_wp2
        go_ret
        exact ⟨ret_int hf.symm, hb⟩
end Go.Proofs.Ytjniajojbnhmgaa
