/-
  The contracts of package ring over a ring that New made: New, made, after, Free, Used, Head, Tail, Give.
  Conditions: the ring's places, tail and used are such as New and the calls leave them.
-/
import Derived.Test.YtlccgphblbdjkaaRows
import Derived.WalkKit
import Derived.WalkSpells
import Derived.WalkLawsBesides
import Derived.Deep.QuietTactic
import Derived.BigQuiet
import Derived.Lib.Hide
namespace Go.Proofs.Ytlccgphblbdjkaa
open Go.RowKit

theorem ret_int {k : IntKind} {a b : Int} (h : a = b) : Ending.returned (.int k a) = .returned (.int k b) := by rw [h]
theorem ret_bool {a b : Bool} (h : a = b) : Ending.returned (.bool a) = .returned (.bool b) := by rw [h]
theorem below_drewN {B : Nat} {a w : World} (h : Below B a w) (n : Nat) : Below B a (w.drewN n) := ⟨h.os, h.tape, h.output, h.size, h.block⟩

/-- The cells of a ring. -/
def rc (p t u : Nat) : Array Value := #[.int .i64 p, .int .i64 t, .int .i64 u]

/-- The block b is a ring of p places, with the tail t, u of them in use. -/
structure IsRing (b p t u : Nat) (w : World) : Prop where
  here : w.heap[b]? = some (.cells (rc p t u) 47)
  pos : 1 ≤ p
  most : p ≤ 1000
  tl : 1 ≤ t
  th : t ≤ p
  used : u ≤ p

theorem IsRing.c0 {b p t u : Nat} {w : World} (h : IsRing b p t u w) : w.cell? ⟨b, 0, none⟩ = some (.int .i64 p) := by rw [cell_of_row _ _ _ _ _ _ h.here]; rfl
theorem IsRing.c1 {b p t u : Nat} {w : World} (h : IsRing b p t u w) : w.cell? ⟨b, 1, none⟩ = some (.int .i64 t) := by rw [cell_of_row _ _ _ _ _ _ h.here]; rfl
theorem IsRing.c2 {b p t u : Nat} {w : World} (h : IsRing b p t u w) : w.cell? ⟨b, 2, none⟩ = some (.int .i64 u) := by rw [cell_of_row _ _ _ _ _ _ h.here]; rfl
theorem IsRing.z {b p t u : Nat} {w : World} (h : IsRing b p t u w) (j : Nat) : w.frozen? ⟨b, j, none⟩ = false := frozen_of_row _ _ _ _ _ h.here
theorem IsRing.drewN {b p t u : Nat} {w : World} (h : IsRing b p t u w) (k : Nat) : IsRing b p t u (w.drewN k) := ⟨h.here, h.pos, h.most, h.tl, h.th, h.used⟩

/-- The place that is n places behind the tail. -/
def aft (p t n : Nat) : Nat := (t - 1 + n) % p + 1

set_option maxHeartbeats 400000 in
theorem made_yes (b p t u : Nat) (w : World) (h : IsRing b p t u w) :
    Calls Try.prog 23 #[.pointer (some ⟨b, 0, none⟩)] w fun e w' => e = .returned (.bool true) ∧ w' = w := by
  have h0 := h.c0
  have hp := h.pos
  clear h
  go_enter Try.func23, Try.ntmps23
  go_wp2
  go_ret
  exact ⟨ret_bool (by simp; omega), rfl⟩

set_option maxHeartbeats 400000 in
theorem made_nil (w : World) :
    Calls Try.prog 23 #[.pointer none] w fun e w' => e = .returned (.bool false) ∧ w' = w := by
  go_enter Try.func23, Try.ntmps23
  go_wp2
  go_ret
  exact ⟨rfl, rfl⟩

set_option maxHeartbeats 400000 in
theorem made_zero (b : Nat) (w : World) (h : w.cell? ⟨b, 0, none⟩ = some (.int .i64 0)) :
    Calls Try.prog 23 #[.pointer (some ⟨b, 0, none⟩)] w fun e w' => e = .returned (.bool false) ∧ w' = w := by
  go_enter Try.func23, Try.ntmps23
  go_wp2
  go_ret
  exact ⟨rfl, rfl⟩

theorem aft_eq (p t n : Nat) (ht : 1 ≤ t) : ((t : Int) - 1 + (n : Int)) % (p : Int) + 1 = (aft p t n : Int) := by
  unfold aft
  have : ((t : Int) - 1 + (n : Int)) = ((t - 1 + n : Nat) : Int) := by omega
  rw [this]; omega

theorem aft_bd (p t n : Nat) (hp : 1 ≤ p) : 1 ≤ aft p t n ∧ aft p t n ≤ p := by
  unfold aft
  have := Nat.mod_lt (t - 1 + n) (show p > 0 by omega)
  omega

set_option maxRecDepth 100000 in
set_option maxHeartbeats 400000 in
theorem after_any (b p t u : Nat) (n : Nat) (w : World) (h : IsRing b p t u w) (hn : n ≤ 2000) :
    Calls Try.prog 24 #[.pointer (some ⟨b, 0, none⟩), .int .i64 n] w fun e w' => e = .returned (.int .i64 (aft p t n)) ∧ ∃ k, w' = w.drewN k := by
  have h0 := h.c0
  have h1 := h.c1
  have hp := h.pos
  have hm := h.most
  have htl := h.tl
  have hth := h.th
  have HE := Lib.hid (aft_eq p t n htl)
  clear h
  go_enter Try.func24, Try.ntmps24
  go_wp2
  go_quiet (fail)
  go_wp2
  go_ret
  refine ⟨ret_int ?_, _, rfl⟩
  rw [HE.out]
  have := aft_bd p t n hp
  exact IntWalk.wrap64_in _ ⟨by omega, by omega⟩

set_option maxRecDepth 100000 in
set_option maxHeartbeats 400000 in
theorem free_any (b p t u : Nat) (w : World) (h : IsRing b p t u w) :
    Calls Try.prog 19 #[.pointer (some ⟨b, 0, none⟩)] w fun e w' => e = .returned (.int .i64 ((p : Int) - u)) ∧ ∃ k, w' = w.drewN k := by
  have h0 := h.c0
  have h2 := h.c2
  have hm := h.most
  have hu := h.used
  have HR := Lib.hid h
  clear h
  have hw : IntKind.i64.wrap ((p : Int) - (u : Int)) = (p : Int) - (u : Int) := IntWalk.i64_in _ (by omega)
  go_enter Try.func19, Try.ntmps19
  go_wp2_with (go_at_call 23; refine (made_yes b p t u _ HR.out).mono ?_; rintro e w1 ⟨rfl, hw1⟩; rw [hw1]; clear hw1)
  go_quiet (fail)
  go_wp2
  go_ret
  exact ⟨rfl, _, rfl⟩

set_option maxHeartbeats 400000 in
theorem used_any (b p t u : Nat) (w : World) (h : IsRing b p t u w) :
    Calls Try.prog 21 #[.pointer (some ⟨b, 0, none⟩)] w fun e w' => e = .returned (.int .i64 u) ∧ ∃ k, w' = w.drewN k := by
  have h2 := h.c2
  have HR := Lib.hid h
  clear h
  go_enter Try.func21, Try.ntmps21
  go_wp2_with (go_at_call 23; refine (made_yes b p t u _ HR.out).mono ?_; rintro e w1 ⟨rfl, hw1⟩; rw [hw1]; clear hw1)
  go_ret
  exact ⟨rfl, 0, rfl⟩

set_option maxHeartbeats 400000 in
theorem tail_any (b p t u : Nat) (w : World) (h : IsRing b p t u w) :
    Calls Try.prog 12 #[.pointer (some ⟨b, 0, none⟩)] w fun e w' => e = .returned (.int .i64 t) ∧ ∃ k, w' = w.drewN k := by
  have h1 := h.c1
  have HR := Lib.hid h
  clear h
  go_enter Try.func12, Try.ntmps12
  go_wp2_with (go_at_call 23; refine (made_yes b p t u _ HR.out).mono ?_; rintro e w1 ⟨rfl, hw1⟩; rw [hw1]; clear hw1)
  go_ret
  exact ⟨rfl, 0, rfl⟩

set_option maxHeartbeats 400000 in
theorem head_any (b p t u : Nat) (w : World) (h : IsRing b p t u w) :
    Calls Try.prog 14 #[.pointer (some ⟨b, 0, none⟩)] w fun e w' => e = .returned (.int .i64 (aft p t u)) ∧ ∃ k, w' = w.drewN k := by
  have h2 := h.c2
  have hm := h.most
  have hu := h.used
  have HR := Lib.hid h
  clear h
  go_enter Try.func14, Try.ntmps14
  go_wp2_with (first | (go_at_call 23; refine (made_yes b p t u _ HR.out).mono ?_; rintro e w1 ⟨rfl, hw1⟩; rw [hw1]; clear hw1) | (go_at_call 24; refine (after_any b p t u u _ HR.out (by omega)).mono ?_; rintro e w2 ⟨rfl, k, rfl⟩))
  go_ret
  exact ⟨rfl, _, rfl⟩

/-- The world w' is w where block b alone was written: it is a ring now. -/
structure Moved (b p t u : Nat) (w w' : World) : Prop where
  os : w'.os = w.os
  tape : w'.tape = w.tape
  output : w'.output = w.output
  size : w.heap.size ≤ w'.heap.size
  block : ∀ k, k < w.heap.size → k ≠ b → w'.heap[k]? = w.heap[k]?
  ring : IsRing b p t u w'

theorem Moved.same {b p t u : Nat} {w : World} (h : IsRing b p t u w) (k : Nat) : Moved b p t u w (w.drewN k) := ⟨rfl, rfl, rfl, Nat.le_refl _, fun _ _ _ => rfl, h.drewN k⟩
theorem Moved.below {b p t u : Nat} {w w' : World} (h : Moved b p t u w w') {B : Nat} (hB : B ≤ b) (hs : B ≤ w.heap.size) : Below B w w' :=
  ⟨h.os, h.tape, h.output, h.size, fun k hk => h.block k (by omega) (by omega)⟩

/-- What Give answers. -/
def giveE (u : Nat) (n : Int) : Int := if n < 0 then 2 else if (u : Int) < n then 120 else 0
/-- The tail behind Give. -/
def giveT (p t u : Nat) (n : Int) : Nat := if giveE u n = 0 then aft p t n.toNat else t
/-- How many are in use behind Give. -/
def giveU (u : Nat) (n : Int) : Nat := if giveE u n = 0 then u - n.toNat else u

set_option maxHeartbeats 400000 in
theorem give_neg (b p t u : Nat) (n : Int) (w : World) (h : IsRing b p t u w) (hn : n < 0) :
    Calls Try.prog 10 #[.pointer (some ⟨b, 0, none⟩), .int .i64 n] w fun e w' => e = .returned (.int .i64 2) ∧ w' = w := by
  have HR := Lib.hid h
  clear h
  go_enter Try.func10, Try.ntmps10
  go_wp2_with (go_at_call 23; refine (made_yes b p t u _ HR.out).mono ?_; rintro e w1 ⟨rfl, hw1⟩; rw [hw1]; clear hw1)
  go_ret
  exact ⟨rfl, rfl⟩

set_option maxHeartbeats 400000 in
theorem give_much (b p t u : Nat) (n : Int) (w : World) (h : IsRing b p t u w) (hn : (u : Int) < n) :
    Calls Try.prog 10 #[.pointer (some ⟨b, 0, none⟩), .int .i64 n] w fun e w' => e = .returned (.int .i64 120) ∧ w' = w := by
  have h2 := h.c2
  have HR := Lib.hid h
  clear h
  have h0 : 0 ≤ n := by omega
  go_enter Try.func10, Try.ntmps10
  go_wp2_with (go_at_call 23; refine (made_yes b p t u _ HR.out).mono ?_; rintro e w1 ⟨rfl, hw1⟩; rw [hw1]; clear hw1)
  go_ret
  exact ⟨rfl, rfl⟩

set_option maxRecDepth 100000 in
set_option maxHeartbeats 400000 in
theorem give_does (b p t u n : Nat) (w : World) (h : IsRing b p t u w) (hn : n ≤ u) :
    Calls Try.prog 10 #[.pointer (some ⟨b, 0, none⟩), .int .i64 n] w fun e w' => e = .returned (.int .i64 0) ∧
      ∃ k, w' = ((w.setCell ⟨b, 1, none⟩ (.int .i64 (aft p t n))).setCell ⟨b, 2, none⟩ (.int .i64 ((u : Int) - n))).drewN k := by
  have h1 := h.c1
  have h2 := h.c2
  have z1 := h.z 1
  have z2 := h.z 2
  have hm := h.most
  have hu := h.used
  have HR := Lib.hid h
  clear h
  go_enter Try.func10, Try.ntmps10
  go_wp2_with (first | (go_at_call 23; refine (made_yes b p t u _ HR.out).mono ?_; rintro e w1 ⟨rfl, hw1⟩; rw [hw1]; clear hw1) | (go_at_call 24; refine (after_any b p t u n _ HR.out (by omega)).mono ?_; rintro e w2 ⟨rfl, k, rfl⟩))
  go_ret
  exact ⟨rfl, k, rfl⟩

theorem IsRing.set {b p t u : Nat} {w : World} (h : IsRing b p t u w) (t' u' : Nat) (ht : 1 ≤ t') (ht2 : t' ≤ p) (hu : u' ≤ p) (v : Int) (hv : v = u') (k : Nat) :
    Moved b p t' u' w (((w.setCell ⟨b, 1, none⟩ (.int .i64 t')).setCell ⟨b, 2, none⟩ (.int .i64 v)).drewN k) := by
  subst hv
  have e1 := heap_setCell_same w b 1 _ 47 (.int .i64 t') h.here
  have e2 := heap_setCell_same _ b 2 _ 47 (.int .i64 u') e1
  exact ⟨rfl, rfl, rfl, by simp [World.setCell, World.drewN], fun j _ hj => (heap_setCell_other _ _ _ _ hj).trans (heap_setCell_other _ _ _ _ hj), ⟨e2, h.pos, h.most, ht, ht2, hu⟩⟩

/-- Give, of any ring and number. -/
theorem give_any (b p t u : Nat) (n : Int) (w : World) (h : IsRing b p t u w) :
    Calls Try.prog 10 #[.pointer (some ⟨b, 0, none⟩), .int .i64 n] w fun e w' => e = .returned (.int .i64 (giveE u n)) ∧ Moved b p (giveT p t u n) (giveU u n) w w' := by
  by_cases h1 : n < 0
  · have e : giveE u n = 2 := by unfold giveE; rw [if_pos h1]
    have e2 : giveT p t u n = t := by unfold giveT; rw [e]; rfl
    have e3 : giveU u n = u := by unfold giveU; rw [e]; rfl
    rw [e, e2, e3]
    exact (give_neg b p t u n w h h1).mono fun _ _ ⟨he, hw⟩ => ⟨he, by rw [hw]; exact Moved.same h 0⟩
  · by_cases h2 : (u : Int) < n
    · have e : giveE u n = 120 := by unfold giveE; rw [if_neg h1, if_pos h2]
      have e2 : giveT p t u n = t := by unfold giveT; rw [e]; rfl
      have e3 : giveU u n = u := by unfold giveU; rw [e]; rfl
      rw [e, e2, e3]
      exact (give_much b p t u n w h h2).mono fun _ _ ⟨he, hw⟩ => ⟨he, by rw [hw]; exact Moved.same h 0⟩
    · obtain ⟨m, rfl⟩ := Int.eq_ofNat_of_zero_le (a := n) (by omega)
      have e : giveE u m = 0 := by unfold giveE; rw [if_neg h1, if_neg h2]
      have e2 : giveT p t u m = aft p t m := by unfold giveT; rw [e]; rfl
      have e3 : giveU u m = u - m := by unfold giveU; rw [e]; rfl
      rw [e, e2, e3]
      refine (give_does b p t u m w h (by omega)).mono ?_
      rintro e' w' ⟨rfl, k, rfl⟩
      have hb := aft_bd p t m h.pos
      have := h.used
      exact ⟨rfl, h.set _ _ hb.1 hb.2 (by omega) _ (by omega) k⟩

set_option maxHeartbeats 400000 in
theorem new_yes (j : Nat) (w : World) (h1 : 40 ≤ j) (h2 : j ≤ 256) :
    Calls Try.prog 9 #[.int .i64 j] w fun e w' => e = .returned (.tuple #[.pointer (some ⟨w.heap.size, 0, none⟩), .int .i64 0]) ∧ w' = w.alloc (.cells (rc (j - 1) 1 0) 47) := by
  have d1 : decide ((j : Int) < 40) = false := by simp; omega
  have d2 : decide ((256 : Int) < (j : Int)) = false := by simp; omega
  have d3 : decide (256 < j) = false := by simp; omega
  have hw : ((j - 1 : Nat) : Int) = (j : Int) - 1 := by omega
  have HW := Lib.hid hw
  clear hw
  go_enter Try.func9, Try.ntmps9
  go_wp2
  go_ret2
  unfold rc
  rw [HW.out]
  exact ⟨rfl, rfl⟩

set_option maxHeartbeats 400000 in
theorem new_no (j : Int) (w : World) (h : j < 40 ∨ 256 < j) :
    Calls Try.prog 9 #[.int .i64 j] w fun e w' => e = .returned (.tuple #[.pointer none, .int .i64 2]) ∧ w' = w := by
  rcases h with h | h
  · go_enter Try.func9, Try.ntmps9
    go_wp2
    go_ret2
    exact ⟨rfl, rfl⟩
  · have d1 : decide (j < 40) = false := by simp; omega
    have d2 : decide ((256 : Int) < j) = true := by simp; omega
    go_enter Try.func9, Try.ntmps9
    go_wp2
    go_ret2
    exact ⟨rfl, rfl⟩

/-- The cells of n numbers. -/
def ic (g : Nat → Nat) (n : Nat) : Array Value := ((List.range n).map fun i => Value.int .i64 (g i)).toArray
theorem ic_size (g : Nat → Nat) (n : Nat) : (ic g n).size = n := by simp [ic]
theorem ic_get (g : Nat → Nat) (n j : Nat) (h : j < n) : (ic g n)[j]? = some (.int .i64 (g j)) := by simp [ic, h]
theorem ic_ext {g h : Nat → Nat} {n : Nat} (e : ∀ i, i < n → g i = h i) : ic g n = ic h n := by
  unfold ic
  rw [List.map_congr_left (g := fun i => Value.int .i64 (h i)) (fun i hi => by rw [e i (List.mem_range.1 hi)])]
theorem ic_set (g : Nat → Nat) (n j v : Nat) : (ic g n).setIfInBounds j (.int .i64 v) = ic (fun i => if i = j then v else g i) n := by
  apply Array.ext
  · simp [ic]
  · intro i h1 h2
    have hi : i < n := by simpa [ic] using h2
    rw [Array.getElem_setIfInBounds (by rw [ic_size]; exact hi)]
    simp only [ic]
    by_cases e : j = i
    · subst e; simp
    · have e' : ¬ i = j := fun x => e x.symm
      simp [e, e']

theorem Try.info3 : (Try.prog.info? 3).map (fun i => (i.zero, i.size, i.bytes)) = some (some (.int .i64 0), 1, 8) := by kernel_rfl
theorem made_zeros (n : Nat) : (madeCells #[Value.int .i64 0] n).toList = (List.range n).map fun _ => Value.int .i64 0 := by
  rw [toList_madeCells_one, List.map_const', List.length_range]
theorem run_make (n : Nat) (hn : n ≤ 100000) (w : World) : (Instr.makeSlice 28 (.int .i64 n) (.int .i64 n)).run Try.prog w =
    .ok (.slice (some ⟨w.heap.size, 0, none⟩) n n) (w.alloc (.cells (ic (fun _ => 0) n) 3)) := by
  obtain ⟨i0, hi, hz0, hz1, hz2⟩ := info_parts Try.info3
  have h := _root_.Go.run_make (P := Try.prog) w 28 3 i0 (.int .i64 0) Try.underlying28 hi hz0 .i64 .i64 n n (by omega) (by omega) (by rw [hz2]; omega) (by omega)
  rw [hz1] at h
  have e : madeCells (Value.int .i64 0).cells ((n : Int).toNat * 1) = ic (fun _ => 0) n := by
    unfold ic
    rw [show (List.range n).map (fun _ => Value.int .i64 ((0 : Nat) : Int)) = (madeCells #[Value.int .i64 0] n).toList from (made_zeros n).symm, Array.toArray_toList]
    simp [Value.cells]
  rw [e] at h
  simpa using h
end Go.Proofs.Ytlccgphblbdjkaa
