/-
  The walk of quernlaw12.RingRow: it returns true, of any number and slice of ints, and changes nothing that was there.
  Conditions: none.
-/
import Derived.Test.YtlccgphblbdjkaaRoomWalk
namespace Go.Proofs.Ytlccgphblbdjkaa
open Go.RowKit

theorem aft_next_end {p t n : Nat} (hp : 1 ≤ p) (h : aft p t n = p) : aft p t (n + 1) = 1 := by
  unfold aft at *
  have h1 : (t - 1 + n) % p = p - 1 := by omega
  rw [← Nat.add_assoc, Nat.add_mod, h1]
  by_cases h2 : p = 1
  · subst h2; omega
  · rw [Nat.mod_eq_of_lt (a := 1) (by omega), show p - 1 + 1 = p by omega, Nat.mod_self]

theorem aft_next_in {p t n : Nat} (hp : 1 ≤ p) (h : aft p t n ≠ p) : aft p t (n + 1) = aft p t n + 1 := by
  unfold aft at *
  have h1 : (t - 1 + n) % p < p := Nat.mod_lt _ hp
  rw [← Nat.add_assoc, Nat.add_mod]
  rw [Nat.mod_eq_of_lt (a := 1) (by omega), Nat.mod_eq_of_lt (by omega)]

theorem head_at (b p t u : Nat) (E : Nat) (w : World) (h : IsRing b p t u w) (hE : aft p t u = E) :
    Calls Try.prog 14 #[.pointer (some ⟨b, 0, none⟩)] w fun e w' => e = .returned (.int .i64 E) ∧ ∃ k, w' = w.drewN k := by
  subst hE; exact head_any b p t u w h

theorem ic_cell {w : World} {S : Nat} {f : Nat → Nat} {n : Nat} (h : w.heap[S]? = some (.cells (ic f n) 3)) (i : Nat) (hi : i < n) : w.cell? ⟨S, 0 + i, none⟩ = some (.int .i64 (f i)) := by
  rw [Nat.zero_add, cell_of_row _ _ _ _ _ _ h, ic_get _ _ _ hi]

set_option maxRecDepth 100000 in
set_option maxHeartbeats 4000000 in
theorem row_main (n : Int) (blk off len cap : Nat) (z : Nat → Int) (w : World) (hlen : len ≤ 200) (hblk : blk < w.heap.size) 
    (hz : ∀ i, i < len → w.cell? ⟨blk, off + i, none⟩ = some (.int .i64 (z i)) ∧ -9223372036854775808 ≤ z i ∧ z i ≤ 9223372036854775807) :
    Calls Try.prog 4 #[.int .i64 n, .slice (some ⟨blk, off, none⟩) len cap] w fun e w' => e = .returned (.bool true) ∧ Below w.heap.size w w' := by
  have HZ := Lib.hid hz
  clear hz
  obtain ⟨p, hp⟩ : ∃ p, p = jp n := ⟨_, rfl⟩
  have hbd := jp_bd n
  rw [← hp] at hbd
  have HJ := journal_any n w
  rw [← hp] at HJ
  have HJH := Lib.hid HJ
  clear HJ hp
  have hp1 := hbd.1
  have hp2 := hbd.2
  have HN := Lib.hid (ring_p p w hp1 hp2)
  have HA0 := Lib.hid (aft_zero (t := 1) (p := p) (by omega) (by omega))
  clear hbd
  go_enter Try.func4, Try.ntmps4
  go_wp2_with (first | (go_at_call 13; refine HJH.out.mono ?_; rintro e w1 ⟨rfl, hw1⟩; rw [hw1]; clear hw1) | (go_at_call 9; refine (new_p p _ hp1 hp2).mono ?_; rintro e w2 ⟨rfl, hw2⟩; rw [hw2]; clear hw2) | (go_at_call 14; refine (head_at w.heap.size p 1 0 1 _ HN.out HA0.out).mono ?_; rintro e w5 ⟨rfl, k5, rfl⟩) | (go_at_call 12; refine (tail_any w.heap.size p 1 0 _ (HN.out.drewN _)).mono ?_; rintro e w5 ⟨rfl, k5, rfl⟩))
  go_loopw [7] (fun v wr => ∃ (i u : Nat), i ≤ len ∧ v = .int .i64 i ∧ RoomRel w.heap.size p w u wr) (fun v _ => len - (intOf v).toNat)
  case atStart => exact ⟨0, 0, Nat.zero_le _, rfl, ⟨⟨1, HN.out.drewN _⟩, below_drewN ((Below.refl _ w).alloc (Nat.le_refl _) _) _⟩⟩
  case round =>
    obtain ⟨i, u, hi, rfl, hr⟩ := hrel
    obtain ⟨t, hring⟩ := hr.ring
    have HR := Lib.hid hr
    have HG := Lib.hid hring
    have hu := hring.used
    clear hr hring
    by_cases hlt : i < len
    · obtain ⟨hc, hb1, hb2⟩ := HZ.out i hlt
      have hcz : wr.cell? ⟨blk, off + i, none⟩ = some (.int .i64 (z i)) := (HR.out.below.cell (p := ⟨blk, off + i, none⟩) hblk).trans hc
      clear hc
      generalize z i = x at hcz hb1 hb2
      have hl3 : (i : Int) < (len : Int) := by omega
      by_cases hx : 0 < x
      · obtain ⟨m, rfl⟩ := Int.eq_ofNat_of_zero_le (a := x) (by omega)
        obtain ⟨A, hA⟩ : ∃ A, aft p t u = A := ⟨_, rfl⟩
        by_cases hm : m ≤ p - u
        · have hd : ¬ ((p : Int) - u < (m : Int)) := by omega
          go_wp2_with (first | (go_at_call 14; refine (head_at w.heap.size p t u A _ HG.out hA).mono ?_; rintro e w5 ⟨rfl, k5, rfl⟩) | (go_at_call 11; refine (take_does w.heap.size p t u m _ (HG.out.drewN _) (by omega) hm).mono ?_; rintro e w3 ⟨rfl, hm3, hrow3⟩; have HM := Lib.hid hm3; have HRN := Lib.hid hm3.ring; have hcz3 : w3.cell? ⟨blk, off + i, none⟩ = some (.int .i64 m) := ((hm3.below (Nat.le_refl _) HR.out.below.size).cell (p := ⟨blk, off + i, none⟩) hblk).trans hcz; have HRW := Lib.hid hrow3; clear hm3 hrow3))
          go_loop [8, 11] (fun a v => ∃ j : Nat, j ≤ m ∧ v = .int .i64 j ∧ a = .int .i64 (aft p t (u + j))) (fun _ v => m - (intOf v).toNat)
          case atStart => exact ⟨0, Nat.zero_le _, rfl, by rw [← hA]; rfl⟩
          case round =>
            obtain ⟨j, hj, rfl, rfl⟩ := hrel
            by_cases hjm : j < m
            · have hcj : w3.cell? ⟨wr.heap.size, j, none⟩ = some (.int .i64 (aft p t (u + j))) := by have := ic_cell HRW.out j hjm; rw [Nat.zero_add] at this; exact this
              have hab := aft_bd p t (u + j) (by omega)
              by_cases he : aft p t (u + j) = p
              · have hnx := Lib.hid (aft_next_end (t := t) (by omega) he)
                generalize aft p t (u + j) = y at hcj hab he
                have heq : ((y : Int) + 1 == (p : Int) + 1) = true := by simp; omega
                go_wp2
                go_round
                case rel => exact ⟨j + 1, by omega, by go_num, by rw [← Nat.add_assoc, hnx.out]; rfl⟩
                case measure => simp [intOf]; omega
              · have hnx := Lib.hid (aft_next_in (t := t) (by omega) he)
                generalize aft p t (u + j) = y at hcj hab he hnx
                have heq : ((y : Int) + 1 == (p : Int) + 1) = false := by simp; omega
                go_wp2
                go_round
                case rel => exact ⟨j + 1, by omega, by go_num, by rw [← Nat.add_assoc, hnx.out]; go_num⟩
                case measure => simp [intOf]; omega
            · obtain rfl : j = m := by omega
              go_wp2_with (go_at_call 14; refine (head_any w.heap.size p t (u + j) _ HRN.out).mono ?_; rintro e w5 ⟨rfl, k5, rfl⟩)
              go_roundw
              case rel => exact ⟨i + 1, u + j, by omega, by go_num, HR.out.moved (Nat.le_refl _) (Moved.drewN (Moved.after (below_drewN (Below.refl _ wr) _) HM.out) _)⟩
              case measure => simp [intOf]; omega
        · have hd : (p : Int) - u < (m : Int) := by omega
          go_wp2_with (first | (go_at_call 14; refine (head_at w.heap.size p t u A _ HG.out hA).mono ?_; rintro e w5 ⟨rfl, k5, rfl⟩) | (go_at_call 14; refine (head_at w.heap.size p t u A _ (HG.out.drewN _) hA).mono ?_; rintro e w5 ⟨rfl, k5, rfl⟩) | (go_at_call 11; refine (take_much w.heap.size p t u m _ (HG.out.drewN _) (by omega)).mono ?_; rintro e w3 ⟨rfl, k3, rfl⟩))
          go_roundw
          case rel => exact ⟨i + 1, u, by omega, by go_num, HR.out.moved (Nat.le_refl _) (Moved.same HG.out _)⟩
          case measure => simp [intOf]; omega
      · have hx0 : x ≤ 0 := by omega
        obtain ⟨y, hy⟩ : ∃ y, y = -(x + 1) := ⟨_, rfl⟩
        go_wp2_with (go_at_call 10; refine (give_any w.heap.size p t u _ _ HG.out).mono ?_; rintro e w3 ⟨rfl, hm3⟩; have HM := Lib.hid hm3; clear hm3)
        go_roundw
        case rel => exact ⟨i + 1, _, by omega, by go_num, HR.out.moved (Nat.le_refl _) HM.out⟩
        case measure => simp [intOf]; omega
    · go_wp2
      go_ret
      exact ⟨rfl, HR.out.below⟩

set_option maxRecDepth 100000 in
set_option maxHeartbeats 400000 in
theorem row_zero (n : Int) (a : Option Addr) (cap : Nat) (w : World) :
    Calls Try.prog 4 #[.int .i64 n, .slice a 0 cap] w fun e w' => e = .returned (.bool true) ∧ Below w.heap.size w w' := by
  obtain ⟨p, hp⟩ : ∃ p, p = jp n := ⟨_, rfl⟩
  have hbd := jp_bd n
  rw [← hp] at hbd
  have HJ := journal_any n w
  rw [← hp] at HJ
  have HJH := Lib.hid HJ
  clear HJ hp
  have hp1 := hbd.1
  have hp2 := hbd.2
  have HN := Lib.hid (ring_p p w hp1 hp2)
  have HA0 := Lib.hid (aft_zero (t := 1) (p := p) (by omega) (by omega))
  clear hbd
  go_enter Try.func4, Try.ntmps4
  go_wp2_with (first | (go_at_call 13; refine HJH.out.mono ?_; rintro e w1 ⟨rfl, hw1⟩; rw [hw1]; clear hw1) | (go_at_call 9; refine (new_p p _ hp1 hp2).mono ?_; rintro e w2 ⟨rfl, hw2⟩; rw [hw2]; clear hw2) | (go_at_call 14; refine (head_at w.heap.size p 1 0 1 _ HN.out HA0.out).mono ?_; rintro e w5 ⟨rfl, k5, rfl⟩) | (go_at_call 12; refine (tail_any w.heap.size p 1 0 _ (HN.out.drewN _)).mono ?_; rintro e w5 ⟨rfl, k5, rfl⟩))
  go_loopw [7] (fun v wr => v = .int .i64 0 ∧ Below w.heap.size w wr) (fun v _ => 0)
  case atStart => exact ⟨rfl, below_drewN ((Below.refl _ w).alloc (Nat.le_refl _) _) _⟩
  case round =>
    obtain ⟨rfl, hr⟩ := hrel
    go_wp2
    go_ret
    exact ⟨rfl, hr⟩

set_option maxRecDepth 100000 in
set_option maxHeartbeats 400000 in
theorem row_long (n : Int) (a : Option Addr) (len cap : Nat) (w : World) (h : 200 < len) :
    Calls Try.prog 4 #[.int .i64 n, .slice a len cap] w fun e w' => e = .returned (.bool true) ∧ Below w.heap.size w w' := by
  go_enter Try.func4, Try.ntmps4
  go_wp2
  go_ret
  exact ⟨rfl, Below.refl _ w⟩

theorem row_row (n : Int) (a : Option Addr) (len cap : Nat) (z : Nat → Int) (w : World) (_ : -9223372036854775808 ≤ n ∧ n ≤ 9223372036854775807) (h : IsRow w a len z) :
    Calls Try.prog 4 #[.int .i64 n, .slice a len cap] w fun e w' => e = .returned (.bool true) ∧ Below w.heap.size w w' := by
  rcases h with rfl | ⟨blk, off, rfl, hb, hz⟩
  · exact row_zero n a cap w
  · by_cases hl : len ≤ 200
    · exact row_main n blk off len cap z w hl hb hz
    · exact row_long n _ len cap w (by omega)
end Go.Proofs.Ytlccgphblbdjkaa
