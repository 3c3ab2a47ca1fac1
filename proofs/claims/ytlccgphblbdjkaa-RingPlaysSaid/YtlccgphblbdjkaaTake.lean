/-
  The contract of ring.Take: refused at numbers below 1 and above what is free, and nothing is changed then; else the n places from the head on, in a new slice, and n more are in use.
  Conditions: as for the other contracts.
-/
import Derived.Test.YtlccgphblbdjkaaBase
namespace Go.Proofs.Ytlccgphblbdjkaa
open Go.RowKit

set_option maxHeartbeats 400000 in
theorem take_low (b p t u : Nat) (n : Int) (w : World) (h : IsRing b p t u w) (hn : n < 1) :
    Calls Try.prog 11 #[.pointer (some ⟨b, 0, none⟩), .int .i64 n] w fun e w' => e = .returned (.tuple #[.slice none 0 0, .int .i64 2]) ∧ ∃ k, w' = w.drewN k := by
  have HR := Lib.hid h
  clear h
  go_enter Try.func11, Try.ntmps11
  go_wp2_with (go_at_call 23; refine (made_yes b p t u _ HR.out).mono ?_; rintro e w1 ⟨rfl, hw1⟩; rw [hw1]; clear hw1)
  go_ret2
  exact ⟨rfl, 0, rfl⟩

set_option maxHeartbeats 400000 in
theorem take_much (b p t u : Nat) (n : Int) (w : World) (h : IsRing b p t u w) (hn : (p : Int) - u < n) :
    Calls Try.prog 11 #[.pointer (some ⟨b, 0, none⟩), .int .i64 n] w fun e w' => e = .returned (.tuple #[.slice none 0 0, .int .i64 120]) ∧ ∃ k, w' = w.drewN k := by
  have hu := h.used
  have HR := Lib.hid h
  clear h
  have h1 : 1 ≤ n := by omega
  go_enter Try.func11, Try.ntmps11
  go_wp2_with (first | (go_at_call 23; refine (made_yes b p t u _ HR.out).mono ?_; rintro e w1 ⟨rfl, hw1⟩; rw [hw1]; clear hw1) | (go_at_call 19; refine (free_any b p t u _ HR.out).mono ?_; rintro e w2 ⟨rfl, k, rfl⟩))
  go_ret2
  exact ⟨rfl, _, rfl⟩

/-- What holds where Take has filled i places. -/
structure TakeRel (b p t u S n i : Nat) (w wr : World) : Prop where
  below : Below w.heap.size w wr
  row : wr.heap[S]? = some (.cells (ic (fun j => if j < i then aft p t (u + j) else 0) n) 3)
  size : w.heap.size ≤ S

theorem after_int (b p t u n : Nat) (x : Int) (hx : x = n) (w : World) (h : IsRing b p t u w) (hn : n ≤ 2000) :
    Calls Try.prog 24 #[.pointer (some ⟨b, 0, none⟩), .int .i64 x] w fun e w' => e = .returned (.int .i64 (aft p t n)) ∧ ∃ k, w' = w.drewN k := by
  subst hx; exact after_any b p t u n w h hn

theorem IsRing.below {b p t u : Nat} {w w' : World} (h : IsRing b p t u w) (hb : Below w.heap.size w w') : IsRing b p t u w' :=
  ⟨(hb.block b (Array.getElem?_eq_some_iff.1 h.here).1).trans h.here, h.pos, h.most, h.tl, h.th, h.used⟩

theorem TakeRel.cell {b p t u S n i : Nat} {w wr : World} (h : TakeRel b p t u S n i w wr) (hi : i < n) : wr.cell? ⟨S, i, none⟩ = some (.int .i64 0) := by
  rw [cell_of_row _ _ _ _ _ _ h.row, ic_get _ _ _ hi]; simp
theorem TakeRel.next {b p t u S n i : Nat} {w wr : World} (h : TakeRel b p t u S n i w wr) (k : Nat) : TakeRel b p t u S n (i + 1) w ((wr.setCell ⟨S, i, none⟩ (.int .i64 (aft p t (u + i)))).drewN k) := by
  refine ⟨below_drewN (h.below.setCell (p := ⟨S, i, none⟩) h.size _) k, ?_, h.size⟩
  show (wr.setCell ⟨S, i, none⟩ (.int .i64 (aft p t (u + i)))).heap[S]? = _
  rw [heap_setCell_same wr S i _ 3 _ h.row, ic_set]
  rw [ic_ext (h := fun j => if j < i + 1 then aft p t (u + j) else 0)]
  intro j _
  by_cases e : j = i
  · subst e; simp
  · rw [if_neg e]
    by_cases h2 : j < i
    · rw [if_pos h2, if_pos (by omega)]
    · rw [if_neg h2, if_neg (by omega)]

theorem IsRing.use {b p t u : Nat} {w : World} (h : IsRing b p t u w) (u' : Nat) (hu : u' ≤ p) (v : Int) (hv : v = u') :
    Moved b p t u' w (w.setCell ⟨b, 2, none⟩ (.int .i64 v)) := by
  subst hv
  have e2 := heap_setCell_same _ b 2 _ 47 (.int .i64 u') h.here
  exact ⟨rfl, rfl, rfl, by simp [World.setCell], fun j _ hj => heap_setCell_other _ _ _ _ hj, ⟨e2, h.pos, h.most, h.tl, h.th, hu⟩⟩

theorem Moved.after {b p t u : Nat} {w w1 w' : World} (hb : Below w.heap.size w w1) (h : Moved b p t u w1 w') : Moved b p t u w w' :=
  ⟨h.os.trans hb.os, h.tape.trans hb.tape, h.output.trans hb.output, Nat.le_trans hb.size h.size, fun k hk hne => (h.block k (Nat.lt_of_lt_of_le hk hb.size) hne).trans (hb.block k hk), h.ring⟩

set_option maxRecDepth 100000 in
set_option maxHeartbeats 1000000 in
theorem take_does (b p t u n : Nat) (w : World) (h : IsRing b p t u w) (hn1 : 1 ≤ n) (hn2 : n ≤ p - u) :
    Calls Try.prog 11 #[.pointer (some ⟨b, 0, none⟩), .int .i64 n] w fun e w' => e = .returned (.tuple #[.slice (some ⟨w.heap.size, 0, none⟩) n n, .int .i64 0]) ∧
      Moved b p t (u + n) w w' ∧ w'.heap[w.heap.size]? = some (.cells (ic (fun j => aft p t (u + j)) n) 3) := by
  have hu := h.used
  have hm := h.most
  have hblt : b < w.heap.size := (Array.getElem?_eq_some_iff.1 h.here).1
  have HR := Lib.hid h
  clear h
  have hmk := fun k => run_make n (by omega) (w.drewN k)
  have d1 : decide ((n : Int) < 1) = false := by simp; omega
  have d2 : decide ((p : Int) - (u : Int) < (n : Int)) = false := by simp; omega
  go_enter Try.func11, Try.ntmps11
  go_wp2_with (first | (go_at_call 23; refine (made_yes b p t u _ HR.out).mono ?_; rintro e w1 ⟨rfl, hw1⟩; rw [hw1]; clear hw1) | (go_at_call 19; refine (free_any b p t u _ HR.out).mono ?_; rintro e w2 ⟨rfl, k, rfl⟩))
  clear hmk
  go_loopw [26] (fun v wr => ∃ i : Nat, i ≤ n ∧ v = .int .i64 i ∧ TakeRel b p t u w.heap.size n i w wr) (fun v _ => n - (intOf v).toNat)
  case atStart =>
    refine ⟨0, Nat.zero_le _, rfl, ⟨(below_drewN (Below.refl _ w) k).alloc (Nat.le_refl _) _, ?_, Nat.le_refl _⟩⟩
    have := heap_alloc_new (w.drewN k) (.cells (ic (fun _ => 0) n) 3)
    rw [ic_ext (g := fun j => if j < 0 then aft p t (u + j) else 0) (h := fun _ => 0) (fun i _ => by simp)]
    exact this
  case round =>
    obtain ⟨i, hi, rfl, hr⟩ := hrel
    have HT := Lib.hid hr
    have HR2 := Lib.hid (HR.out.below hr.below)
    clear hr
    have c2 := HR2.out.c2
    by_cases hlt : i < n
    · have hc := HT.out.cell hlt
      have hz : wr.frozen? ⟨w.heap.size, i, none⟩ = false := frozen_of_row _ _ _ _ _ HT.out.row
      go_wp2_with (first | (go_at_call 24; refine (after_int b p t u (u + i) _ (by omega) _ HR2.out (by omega)).mono ?_; rintro e w3 ⟨rfl, k3, rfl⟩))
      go_roundw
      case rel => exact ⟨i + 1, by omega, by go_num, HT.out.next _⟩
      case measure => simp [intOf]; omega
    · obtain rfl : i = n := by omega
      have z2 := HR2.out.z 2
      go_wp2
      go_ret2
      have hmv := Moved.after HT.out.below (HR2.out.use (u + i) (by omega) ((u : Int) + i) (by omega))
      refine ⟨rfl, hmv, ?_⟩
      rw [heap_setCell_other _ _ _ _ (by simp; omega), HT.out.row, ic_ext (h := fun j => aft p t (u + j))]
      intro j hj
      rw [if_pos hj]
end Go.Proofs.Ytlccgphblbdjkaa
