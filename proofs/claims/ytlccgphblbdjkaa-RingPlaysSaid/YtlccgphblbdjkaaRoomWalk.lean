/-
  The walk of quernlaw12.RingRoom: it returns true, of any number and slice of ints, and changes nothing that was there.
  Conditions: none.
-/
import Derived.Test.YtlccgphblbdjkaaAwake
import Derived.Test.YtlccgphblbdjkaaOpen
namespace Go.Proofs.Ytlccgphblbdjkaa
open Go.RowKit

/-- How many places a journal has that is drawn by a number. -/
def jp (n : Int) : Nat := 39 + ((n % 18446744073709551616) % 217).toNat
theorem jp_bd (n : Int) : 39 ≤ jp n ∧ jp n ≤ 255 := by unfold jp; omega

set_option maxRecDepth 100000 in
set_option maxHeartbeats 400000 in
theorem journal_any (n : Int) (w : World) :
    Calls Try.prog 13 #[.int .i64 n] w fun e w' => e = .returned (.int .i64 ((jp n : Int) + 1)) ∧ w' = w := by
  go_enter Try.func13, Try.ntmps13
  go_wp2
  go_ret
  refine ⟨ret_int ?_, rfl⟩
  rw [IntKind.wrap_u64, Int.tmod_eq_emod_of_nonneg (by omega)]
  have e1 : wrap64 (n % 18446744073709551616 % 217) = n % 18446744073709551616 % 217 := IntWalk.wrap64_in _ ⟨by omega, by omega⟩
  rw [e1, IntWalk.wrap64_in _ ⟨by omega, by omega⟩]
  unfold jp
  omega

theorem new_p (p : Nat) (w : World) (h1 : 39 ≤ p) (h2 : p ≤ 255) :
    Calls Try.prog 9 #[.int .i64 ((p : Int) + 1)] w fun e w' => e = .returned (.tuple #[.pointer (some ⟨w.heap.size, 0, none⟩), .int .i64 0]) ∧ w' = w.alloc (.cells (rc p 1 0) 47) :=
  new_int (p + 1) _ (by omega) w (by omega) (by omega)
theorem ring_p (p : Nat) (w : World) (h1 : 39 ≤ p) (h2 : p ≤ 255) : IsRing w.heap.size p 1 0 (w.alloc (.cells (rc p 1 0) 47)) := ring_new (p + 1) w (by omega) (by omega)

/-- What holds at a round's head: the ring is one, u places are in use, and nothing that was there is changed. -/
structure RoomRel (b p : Nat) (w : World) (u : Nat) (wr : World) : Prop where
  ring : ∃ t, IsRing b p t u wr
  below : Below w.heap.size w wr

theorem RoomRel.moved {b p t u u' : Nat} {w wr w2 : World} (h : RoomRel b p w u wr) (hb : w.heap.size ≤ b) (hm : Moved b p t u' wr w2) : RoomRel b p w u' w2 :=
  ⟨⟨t, hm.ring⟩, h.below.trans (hm.below hb h.below.size)⟩

theorem Moved.drewN {b p t u : Nat} {w w' : World} (h : Moved b p t u w w') (k : Nat) : Moved b p t u w (w'.drewN k) := ⟨h.os, h.tape, h.output, h.size, h.block, h.ring.drewN k⟩
theorem give_at (b p t u : Nat) (n : Int) (w : World) (h : IsRing b p t u w) (E : Int) (t' u' : Nat) (hE : giveE u n = E) (hT : giveT p t u n = t') (hU : giveU u n = u') :
    Calls Try.prog 10 #[.pointer (some ⟨b, 0, none⟩), .int .i64 n] w fun e w' => e = .returned (.int .i64 E) ∧ Moved b p t' u' w w' := by
  subst hE hT hU; exact give_any b p t u n w h

theorem aft_zero {p t : Nat} (h1 : 1 ≤ t) (h2 : t ≤ p) : aft p t 0 = t := by
  unfold aft
  rw [Nat.add_zero, Nat.mod_eq_of_lt (by omega)]; omega

set_option maxRecDepth 100000 in
set_option maxHeartbeats 4000000 in
theorem room_main (n : Int) (blk off len cap : Nat) (z : Nat → Int) (w : World) (hlen : len ≤ 200) (hblk : blk < w.heap.size) 
    (hz : ∀ i, i < len → w.cell? ⟨blk, off + i, none⟩ = some (.int .i64 (z i)) ∧ -9223372036854775808 ≤ z i ∧ z i ≤ 9223372036854775807) :
    Calls Try.prog 7 #[.int .i64 n, .slice (some ⟨blk, off, none⟩) len cap] w fun e w' => e = .returned (.bool true) ∧ Below w.heap.size w w' := by
  have HZ := Lib.hid hz
  clear hz
  obtain ⟨p, hp⟩ : ∃ p, p = jp n := ⟨_, rfl⟩
  have hbd := jp_bd n
  rw [← hp] at hbd
  have HJ := journal_any n w
  rw [← hp] at HJ
  have HJH := Lib.hid HJ
  clear HJ hp
  have hp1 := hbd.1
  have hp2 := hbd.2
  have HN := Lib.hid (ring_p p w hp1 hp2)
  clear hbd
  go_enter Try.func7, Try.ntmps7
  go_wp2_with (first | (go_at_call 13; refine HJH.out.mono ?_; rintro e w1 ⟨rfl, hw1⟩; rw [hw1]; clear hw1) | (go_at_call 9; refine (new_p p _ hp1 hp2).mono ?_; rintro e w2 ⟨rfl, hw2⟩; rw [hw2]; clear hw2))
  go_loopw [7, 8] (fun s v wr => ∃ (i u : Nat), i ≤ len ∧ v = .int .i64 i ∧ s = .int .i64 u ∧ RoomRel w.heap.size p w u wr) (fun _ v _ => len - (intOf v).toNat)
  case atStart => exact ⟨0, 0, Nat.zero_le _, rfl, rfl, ⟨⟨1, HN.out⟩, (Below.refl _ w).alloc (Nat.le_refl _) _⟩⟩
  case round =>
    obtain ⟨i, u, hi, rfl, rfl, hr⟩ := hrel
    obtain ⟨t, hring⟩ := hr.ring
    have HR := Lib.hid hr
    have HG := Lib.hid hring
    have hu := hring.used
    clear hr hring
    by_cases hlt : i < len
    · obtain ⟨hc, hb1, hb2⟩ := HZ.out i hlt
      have hcz : wr.cell? ⟨blk, off + i, none⟩ = some (.int .i64 (z i)) := (HR.out.below.cell (p := ⟨blk, off + i, none⟩) hblk).trans hc
      clear hc
      generalize z i = x at hcz hb1 hb2
      have hl3 : (i : Int) < (len : Int) := by omega
      by_cases hx : 0 < x
      · obtain ⟨m, rfl⟩ := Int.eq_ofNat_of_zero_le (a := x) (by omega)
        by_cases hm : m ≤ p - u
        · have hd : ¬ ((p : Int) - u < (m : Int)) := by omega
          have hne : (((u : Int) + (m : Int)) == 0) = false := by simp; omega
          go_wp2_with (first | (go_at_call 11; refine (take_does w.heap.size p t u m _ HG.out (by omega) hm).mono ?_; rintro e w3 ⟨rfl, hm3, hrow3⟩; have HM := Lib.hid hm3; have HRN := Lib.hid hm3.ring; have hcz3 : w3.cell? ⟨blk, off + i, none⟩ = some (.int .i64 m) := ((hm3.below (Nat.le_refl _) HR.out.below.size).cell (p := ⟨blk, off + i, none⟩) hblk).trans hcz; clear hm3 hrow3) | (go_at_call 21; refine (used_any w.heap.size p t (u + m) _ HRN.out).mono ?_; rintro e w5 ⟨rfl, k5, rfl⟩) | (go_at_call 21; refine (used_any w.heap.size p t (u + m) _ (HRN.out.drewN _)).mono ?_; rintro e w5 ⟨rfl, k5, rfl⟩) | (go_at_call 19; refine (free_any w.heap.size p t (u + m) _ HRN.out).mono ?_; rintro e w5 ⟨rfl, k5, rfl⟩) | (go_at_call 19; refine (free_any w.heap.size p t (u + m) _ (HRN.out.drewN _)).mono ?_; rintro e w5 ⟨rfl, k5, rfl⟩) | (go_at_call 14; refine (head_any w.heap.size p t (u + m) _ HRN.out).mono ?_; rintro e w5 ⟨rfl, k5, rfl⟩) | (go_at_call 14; refine (head_any w.heap.size p t (u + m) _ (HRN.out.drewN _)).mono ?_; rintro e w5 ⟨rfl, k5, rfl⟩) | (go_at_call 12; refine (tail_any w.heap.size p t (u + m) _ HRN.out).mono ?_; rintro e w5 ⟨rfl, k5, rfl⟩) | (go_at_call 12; refine (tail_any w.heap.size p t (u + m) _ (HRN.out.drewN _)).mono ?_; rintro e w5 ⟨rfl, k5, rfl⟩))
          go_roundw
          case rel => exact ⟨i + 1, u + m, by omega, by go_num, by go_num, HR.out.moved (Nat.le_refl _) (Moved.drewN HM.out _)⟩
          case measure => simp [intOf]; omega
        · have hd : (p : Int) - u < (m : Int) := by omega
          have HRN := HG
          by_cases h0 : u = 0
          · have hne0 : ((u : Int) == 0) = true := by simp; omega
            have e0 := aft_zero (t := t) (p := p) HG.out.tl HG.out.th
            have hht : ((aft p t (u) : Int) != (t : Int)) = false := by rw [h0, e0]; simp
            clear e0 h0
            go_wp2_with (first | (go_at_call 11; refine (take_much w.heap.size p t u m _ HG.out (by omega)).mono ?_; rintro e w3 ⟨rfl, k3, rfl⟩; have hcz3 : (wr.drewN k3).cell? ⟨blk, off + i, none⟩ = some (.int .i64 m) := hcz) | (go_at_call 21; refine (used_any w.heap.size p t (u) _ HRN.out).mono ?_; rintro e w5 ⟨rfl, k5, rfl⟩) | (go_at_call 21; refine (used_any w.heap.size p t (u) _ (HRN.out.drewN _)).mono ?_; rintro e w5 ⟨rfl, k5, rfl⟩) | (go_at_call 19; refine (free_any w.heap.size p t (u) _ HRN.out).mono ?_; rintro e w5 ⟨rfl, k5, rfl⟩) | (go_at_call 19; refine (free_any w.heap.size p t (u) _ (HRN.out.drewN _)).mono ?_; rintro e w5 ⟨rfl, k5, rfl⟩) | (go_at_call 14; refine (head_any w.heap.size p t (u) _ HRN.out).mono ?_; rintro e w5 ⟨rfl, k5, rfl⟩) | (go_at_call 14; refine (head_any w.heap.size p t (u) _ (HRN.out.drewN _)).mono ?_; rintro e w5 ⟨rfl, k5, rfl⟩) | (go_at_call 12; refine (tail_any w.heap.size p t (u) _ HRN.out).mono ?_; rintro e w5 ⟨rfl, k5, rfl⟩) | (go_at_call 12; refine (tail_any w.heap.size p t (u) _ (HRN.out.drewN _)).mono ?_; rintro e w5 ⟨rfl, k5, rfl⟩))
            go_roundw
            case rel => exact ⟨i + 1, u, by omega, by go_num, rfl, HR.out.moved (Nat.le_refl _) (Moved.same HG.out _)⟩
            case measure => simp [intOf]; omega
          · have hne : ((u : Int) == 0) = false := by simp; omega
            clear h0
            go_wp2_with (first | (go_at_call 11; refine (take_much w.heap.size p t u m _ HG.out (by omega)).mono ?_; rintro e w3 ⟨rfl, k3, rfl⟩; have hcz3 : (wr.drewN k3).cell? ⟨blk, off + i, none⟩ = some (.int .i64 m) := hcz) | (go_at_call 21; refine (used_any w.heap.size p t (u) _ HRN.out).mono ?_; rintro e w5 ⟨rfl, k5, rfl⟩) | (go_at_call 21; refine (used_any w.heap.size p t (u) _ (HRN.out.drewN _)).mono ?_; rintro e w5 ⟨rfl, k5, rfl⟩) | (go_at_call 19; refine (free_any w.heap.size p t (u) _ HRN.out).mono ?_; rintro e w5 ⟨rfl, k5, rfl⟩) | (go_at_call 19; refine (free_any w.heap.size p t (u) _ (HRN.out.drewN _)).mono ?_; rintro e w5 ⟨rfl, k5, rfl⟩) | (go_at_call 14; refine (head_any w.heap.size p t (u) _ HRN.out).mono ?_; rintro e w5 ⟨rfl, k5, rfl⟩) | (go_at_call 14; refine (head_any w.heap.size p t (u) _ (HRN.out.drewN _)).mono ?_; rintro e w5 ⟨rfl, k5, rfl⟩) | (go_at_call 12; refine (tail_any w.heap.size p t (u) _ HRN.out).mono ?_; rintro e w5 ⟨rfl, k5, rfl⟩) | (go_at_call 12; refine (tail_any w.heap.size p t (u) _ (HRN.out.drewN _)).mono ?_; rintro e w5 ⟨rfl, k5, rfl⟩))
            go_roundw
            case rel => exact ⟨i + 1, u, by omega, by go_num, rfl, HR.out.moved (Nat.le_refl _) (Moved.same HG.out _)⟩
            case measure => simp [intOf]; omega
      · have hx0 : x ≤ 0 := by omega
        by_cases hk0 : x = 0
        · subst hk0
          have hE : giveE u (-1) = 2 := by unfold giveE; simp
          have hT : giveT p t u (-1) = t := by unfold giveT; rw [hE]; rfl
          have hU : giveU u (-1) = u := by unfold giveU; rw [hE]; rfl
          by_cases h0 : u = 0
          · have hne0 : ((u : Int) == 0) = true := by simp; omega
            have e0 := aft_zero (t := t) (p := p) HG.out.tl HG.out.th
            have hht : ((aft p t (u) : Int) != (t : Int)) = false := by rw [h0, e0]; simp
            clear e0 h0
            go_wp2_with (first | (go_at_call 10; refine (give_at w.heap.size p t u (-1) _ HG.out _ t u hE hT hU).mono ?_; rintro e w3 ⟨rfl, hm3⟩; have HM := Lib.hid hm3; have HRN := Lib.hid hm3.ring; clear hm3) | (go_at_call 21; refine (used_any w.heap.size p t (u) _ HRN.out).mono ?_; rintro e w5 ⟨rfl, k5, rfl⟩) | (go_at_call 21; refine (used_any w.heap.size p t (u) _ (HRN.out.drewN _)).mono ?_; rintro e w5 ⟨rfl, k5, rfl⟩) | (go_at_call 19; refine (free_any w.heap.size p t (u) _ HRN.out).mono ?_; rintro e w5 ⟨rfl, k5, rfl⟩) | (go_at_call 19; refine (free_any w.heap.size p t (u) _ (HRN.out.drewN _)).mono ?_; rintro e w5 ⟨rfl, k5, rfl⟩) | (go_at_call 14; refine (head_any w.heap.size p t (u) _ HRN.out).mono ?_; rintro e w5 ⟨rfl, k5, rfl⟩) | (go_at_call 14; refine (head_any w.heap.size p t (u) _ (HRN.out.drewN _)).mono ?_; rintro e w5 ⟨rfl, k5, rfl⟩) | (go_at_call 12; refine (tail_any w.heap.size p t (u) _ HRN.out).mono ?_; rintro e w5 ⟨rfl, k5, rfl⟩) | (go_at_call 12; refine (tail_any w.heap.size p t (u) _ (HRN.out.drewN _)).mono ?_; rintro e w5 ⟨rfl, k5, rfl⟩))
            go_roundw
            case rel => exact ⟨i + 1, u, by omega, by go_num, rfl, HR.out.moved (Nat.le_refl _) (Moved.drewN HM.out _)⟩
            case measure => simp [intOf]; omega
          · have hne : ((u : Int) == 0) = false := by simp; omega
            clear h0
            go_wp2_with (first | (go_at_call 10; refine (give_at w.heap.size p t u (-1) _ HG.out _ t u hE hT hU).mono ?_; rintro e w3 ⟨rfl, hm3⟩; have HM := Lib.hid hm3; have HRN := Lib.hid hm3.ring; clear hm3) | (go_at_call 21; refine (used_any w.heap.size p t (u) _ HRN.out).mono ?_; rintro e w5 ⟨rfl, k5, rfl⟩) | (go_at_call 21; refine (used_any w.heap.size p t (u) _ (HRN.out.drewN _)).mono ?_; rintro e w5 ⟨rfl, k5, rfl⟩) | (go_at_call 19; refine (free_any w.heap.size p t (u) _ HRN.out).mono ?_; rintro e w5 ⟨rfl, k5, rfl⟩) | (go_at_call 19; refine (free_any w.heap.size p t (u) _ (HRN.out.drewN _)).mono ?_; rintro e w5 ⟨rfl, k5, rfl⟩) | (go_at_call 14; refine (head_any w.heap.size p t (u) _ HRN.out).mono ?_; rintro e w5 ⟨rfl, k5, rfl⟩) | (go_at_call 14; refine (head_any w.heap.size p t (u) _ (HRN.out.drewN _)).mono ?_; rintro e w5 ⟨rfl, k5, rfl⟩) | (go_at_call 12; refine (tail_any w.heap.size p t (u) _ HRN.out).mono ?_; rintro e w5 ⟨rfl, k5, rfl⟩) | (go_at_call 12; refine (tail_any w.heap.size p t (u) _ (HRN.out.drewN _)).mono ?_; rintro e w5 ⟨rfl, k5, rfl⟩))
            go_roundw
            case rel => exact ⟨i + 1, u, by omega, by go_num, rfl, HR.out.moved (Nat.le_refl _) (Moved.drewN HM.out _)⟩
            case measure => simp [intOf]; omega
        · obtain ⟨m, hm⟩ := Int.eq_ofNat_of_zero_le (a := -(x + 1)) (by omega)
          obtain rfl : x = -(m : Int) - 1 := by omega
          by_cases hmu : u < m
          · have hE : giveE u m = 120 := by unfold giveE; rw [if_neg (by omega), if_pos (by omega)]
            have hT : giveT p t u m = t := by unfold giveT; rw [hE]; rfl
            have hU : giveU u m = u := by unfold giveU; rw [hE]; rfl
            clear hm
            by_cases h0 : u = 0
            · have hne0 : ((u : Int) == 0) = true := by simp; omega
              have e0 := aft_zero (t := t) (p := p) HG.out.tl HG.out.th
              have hht : ((aft p (t) (u) : Int) != ((t : Nat) : Int)) = false := by rw [h0, e0]; simp
              clear e0 h0
              go_wp2_with (first | (go_at_call 10; refine (give_at w.heap.size p t u m _ HG.out _ t u hE hT hU).mono ?_; rintro e w3 ⟨rfl, hm3⟩; have HM := Lib.hid hm3; have HRN := Lib.hid hm3.ring; clear hm3) | (go_at_call 21; refine (used_any w.heap.size p (t) (u) _ HRN.out).mono ?_; rintro e w5 ⟨rfl, k5, rfl⟩) | (go_at_call 21; refine (used_any w.heap.size p (t) (u) _ (HRN.out.drewN _)).mono ?_; rintro e w5 ⟨rfl, k5, rfl⟩) | (go_at_call 19; refine (free_any w.heap.size p (t) (u) _ HRN.out).mono ?_; rintro e w5 ⟨rfl, k5, rfl⟩) | (go_at_call 19; refine (free_any w.heap.size p (t) (u) _ (HRN.out.drewN _)).mono ?_; rintro e w5 ⟨rfl, k5, rfl⟩) | (go_at_call 14; refine (head_any w.heap.size p (t) (u) _ HRN.out).mono ?_; rintro e w5 ⟨rfl, k5, rfl⟩) | (go_at_call 14; refine (head_any w.heap.size p (t) (u) _ (HRN.out.drewN _)).mono ?_; rintro e w5 ⟨rfl, k5, rfl⟩) | (go_at_call 12; refine (tail_any w.heap.size p (t) (u) _ HRN.out).mono ?_; rintro e w5 ⟨rfl, k5, rfl⟩) | (go_at_call 12; refine (tail_any w.heap.size p (t) (u) _ (HRN.out.drewN _)).mono ?_; rintro e w5 ⟨rfl, k5, rfl⟩))
              go_roundw
              case rel => exact ⟨i + 1, u, by omega, by go_num, rfl, HR.out.moved (Nat.le_refl _) (Moved.drewN HM.out _)⟩
              case measure => simp [intOf]; omega
            · have hne : ((u : Int) == 0) = false := by simp; omega
              clear h0
              go_wp2_with (first | (go_at_call 10; refine (give_at w.heap.size p t u m _ HG.out _ t u hE hT hU).mono ?_; rintro e w3 ⟨rfl, hm3⟩; have HM := Lib.hid hm3; have HRN := Lib.hid hm3.ring; clear hm3) | (go_at_call 21; refine (used_any w.heap.size p (t) (u) _ HRN.out).mono ?_; rintro e w5 ⟨rfl, k5, rfl⟩) | (go_at_call 21; refine (used_any w.heap.size p (t) (u) _ (HRN.out.drewN _)).mono ?_; rintro e w5 ⟨rfl, k5, rfl⟩) | (go_at_call 19; refine (free_any w.heap.size p (t) (u) _ HRN.out).mono ?_; rintro e w5 ⟨rfl, k5, rfl⟩) | (go_at_call 19; refine (free_any w.heap.size p (t) (u) _ (HRN.out.drewN _)).mono ?_; rintro e w5 ⟨rfl, k5, rfl⟩) | (go_at_call 14; refine (head_any w.heap.size p (t) (u) _ HRN.out).mono ?_; rintro e w5 ⟨rfl, k5, rfl⟩) | (go_at_call 14; refine (head_any w.heap.size p (t) (u) _ (HRN.out.drewN _)).mono ?_; rintro e w5 ⟨rfl, k5, rfl⟩) | (go_at_call 12; refine (tail_any w.heap.size p (t) (u) _ HRN.out).mono ?_; rintro e w5 ⟨rfl, k5, rfl⟩) | (go_at_call 12; refine (tail_any w.heap.size p (t) (u) _ (HRN.out.drewN _)).mono ?_; rintro e w5 ⟨rfl, k5, rfl⟩))
              go_roundw
              case rel => exact ⟨i + 1, u, by omega, by go_num, rfl, HR.out.moved (Nat.le_refl _) (Moved.drewN HM.out _)⟩
              case measure => simp [intOf]; omega
          · obtain ⟨y, rfl⟩ : ∃ y, u = y + m := ⟨u - m, by omega⟩
            obtain ⟨q, hq⟩ : ∃ q, q = aft p t m := ⟨_, rfl⟩
            have hE : giveE (y + m) m = 0 := by unfold giveE; rw [if_neg (by omega), if_neg (by omega)]
            have hT : giveT p t (y + m) m = q := by unfold giveT; rw [hE, hq]; rfl
            have hU : giveU (y + m) m = y := by unfold giveU; rw [hE]; simp
            have hq1 : 1 ≤ q ∧ q ≤ p := by rw [hq]; exact aft_bd p t m (by omega)
            have hyf : ((y + m : Nat) : Int) = (y : Int) + (m : Int) := by omega
            have hdd : decide (((y + m : Nat) : Int) < (m : Int)) = false := decide_eq_false (by omega)
            have hy2 : ((y : Int) + (m : Int) - (m : Int)) = y := by omega
            clear hm hq
            by_cases h0 : y = 0
            · have hne0 : ((y : Int) == 0) = true := by simp; omega
              have e0 := aft_zero (t := q) (p := p) hq1.1 hq1.2
              have hht : ((aft p (q) (y) : Int) != ((q : Nat) : Int)) = false := by rw [h0, e0]; simp
              clear e0 h0
              go_wp2_with (first | (go_at_call 10; refine (give_at w.heap.size p t (y + m) m _ HG.out _ q y hE hT hU).mono ?_; rintro e w3 ⟨rfl, hm3⟩; have HM := Lib.hid hm3; have HRN := Lib.hid hm3.ring; clear hm3) | (go_at_call 21; refine (used_any w.heap.size p (q) (y) _ HRN.out).mono ?_; rintro e w5 ⟨rfl, k5, rfl⟩) | (go_at_call 21; refine (used_any w.heap.size p (q) (y) _ (HRN.out.drewN _)).mono ?_; rintro e w5 ⟨rfl, k5, rfl⟩) | (go_at_call 19; refine (free_any w.heap.size p (q) (y) _ HRN.out).mono ?_; rintro e w5 ⟨rfl, k5, rfl⟩) | (go_at_call 19; refine (free_any w.heap.size p (q) (y) _ (HRN.out.drewN _)).mono ?_; rintro e w5 ⟨rfl, k5, rfl⟩) | (go_at_call 14; refine (head_any w.heap.size p (q) (y) _ HRN.out).mono ?_; rintro e w5 ⟨rfl, k5, rfl⟩) | (go_at_call 14; refine (head_any w.heap.size p (q) (y) _ (HRN.out.drewN _)).mono ?_; rintro e w5 ⟨rfl, k5, rfl⟩) | (go_at_call 12; refine (tail_any w.heap.size p (q) (y) _ HRN.out).mono ?_; rintro e w5 ⟨rfl, k5, rfl⟩) | (go_at_call 12; refine (tail_any w.heap.size p (q) (y) _ (HRN.out.drewN _)).mono ?_; rintro e w5 ⟨rfl, k5, rfl⟩))
              go_roundw
              case rel => exact ⟨i + 1, y, by omega, by go_num, by go_num, HR.out.moved (Nat.le_refl _) (Moved.drewN HM.out _)⟩
              case measure => simp [intOf]; omega
            · have hne : ((y : Int) == 0) = false := by simp; omega
              clear h0
              go_wp2_with (first | (go_at_call 10; refine (give_at w.heap.size p t (y + m) m _ HG.out _ q y hE hT hU).mono ?_; rintro e w3 ⟨rfl, hm3⟩; have HM := Lib.hid hm3; have HRN := Lib.hid hm3.ring; clear hm3) | (go_at_call 21; refine (used_any w.heap.size p (q) (y) _ HRN.out).mono ?_; rintro e w5 ⟨rfl, k5, rfl⟩) | (go_at_call 21; refine (used_any w.heap.size p (q) (y) _ (HRN.out.drewN _)).mono ?_; rintro e w5 ⟨rfl, k5, rfl⟩) | (go_at_call 19; refine (free_any w.heap.size p (q) (y) _ HRN.out).mono ?_; rintro e w5 ⟨rfl, k5, rfl⟩) | (go_at_call 19; refine (free_any w.heap.size p (q) (y) _ (HRN.out.drewN _)).mono ?_; rintro e w5 ⟨rfl, k5, rfl⟩) | (go_at_call 14; refine (head_any w.heap.size p (q) (y) _ HRN.out).mono ?_; rintro e w5 ⟨rfl, k5, rfl⟩) | (go_at_call 14; refine (head_any w.heap.size p (q) (y) _ (HRN.out.drewN _)).mono ?_; rintro e w5 ⟨rfl, k5, rfl⟩) | (go_at_call 12; refine (tail_any w.heap.size p (q) (y) _ HRN.out).mono ?_; rintro e w5 ⟨rfl, k5, rfl⟩) | (go_at_call 12; refine (tail_any w.heap.size p (q) (y) _ (HRN.out.drewN _)).mono ?_; rintro e w5 ⟨rfl, k5, rfl⟩))
              go_roundw
              case rel => exact ⟨i + 1, y, by omega, by go_num, by go_num, HR.out.moved (Nat.le_refl _) (Moved.drewN HM.out _)⟩
              case measure => simp [intOf]; omega
    · go_wp2
      go_ret
      exact ⟨rfl, HR.out.below⟩

set_option maxRecDepth 100000 in
set_option maxHeartbeats 400000 in
theorem room_zero (n : Int) (a : Option Addr) (cap : Nat) (w : World) :
    Calls Try.prog 7 #[.int .i64 n, .slice a 0 cap] w fun e w' => e = .returned (.bool true) ∧ Below w.heap.size w w' := by
  obtain ⟨p, hp⟩ : ∃ p, p = jp n := ⟨_, rfl⟩
  have hbd := jp_bd n
  rw [← hp] at hbd
  have HJ := journal_any n w
  rw [← hp] at HJ
  have HJH := Lib.hid HJ
  clear HJ hp
  have hp1 := hbd.1
  have hp2 := hbd.2
  clear hbd
  go_enter Try.func7, Try.ntmps7
  go_wp2_with (first | (go_at_call 13; refine HJH.out.mono ?_; rintro e w1 ⟨rfl, hw1⟩; rw [hw1]; clear hw1) | (go_at_call 9; refine (new_p p _ hp1 hp2).mono ?_; rintro e w2 ⟨rfl, hw2⟩; rw [hw2]; clear hw2))
  go_loopw [7, 8] (fun s v wr => v = .int .i64 0 ∧ Below w.heap.size w wr) (fun _ v _ => 0)
  case atStart => exact ⟨rfl, (Below.refl _ w).alloc (Nat.le_refl _) _⟩
  case round =>
    obtain ⟨rfl, hr⟩ := hrel
    go_wp2
    go_ret
    exact ⟨rfl, hr⟩

set_option maxRecDepth 100000 in
set_option maxHeartbeats 400000 in
theorem room_long (n : Int) (a : Option Addr) (len cap : Nat) (w : World) (h : 200 < len) :
    Calls Try.prog 7 #[.int .i64 n, .slice a len cap] w fun e w' => e = .returned (.bool true) ∧ Below w.heap.size w w' := by
  go_enter Try.func7, Try.ntmps7
  go_wp2
  go_ret
  exact ⟨rfl, Below.refl _ w⟩

theorem room_row (n : Int) (a : Option Addr) (len cap : Nat) (z : Nat → Int) (w : World) (_ : -9223372036854775808 ≤ n ∧ n ≤ 9223372036854775807) (h : IsRow w a len z) :
    Calls Try.prog 7 #[.int .i64 n, .slice a len cap] w fun e w' => e = .returned (.bool true) ∧ Below w.heap.size w w' := by
  rcases h with rfl | ⟨blk, off, rfl, hb, hz⟩
  · exact room_zero n a cap w
  · by_cases hl : len ≤ 200
    · exact room_main n blk off len cap z w hl hb hz
    · exact room_long n _ len cap w (by omega)
end Go.Proofs.Ytlccgphblbdjkaa
