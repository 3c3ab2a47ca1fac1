/-
  The walk of quernlaw10.PathsTell: it returns true, of any number, and changes nothing that was there.
  Conditions: none.
-/
import Derived.Test.YtjniajojbnhmgaaRnext
import Derived.Test.YtjniajojbnhmgaaAwake
namespace Go.Proofs.Ytjniajojbnhmgaa
open Go.RowKit
set_option linter.unusedVariables false

/-- What both functions Of answer. -/
def OfRes (P : Int) (N : Nat) (C : Int) (Z : Nat → Int) (w : World) (e : Ending) (w' : World) : Prop :=
  ∃ a cap, e = .returned (.tuple #[.int .i64 P, .slice a N cap, .int .i64 C]) ∧ Below w.heap.size w w' ∧ Own w.heap.size w' a N Z

/-- The slice (a, n) is a row of its own, in a block from B on, whatever it holds. -/
def OwnS (B : Nat) (W : World) (a : Option Addr) (n : Nat) : Prop := n = 0 ∨ ∃ g cur, a = some ⟨g, 0, none⟩ ∧ B ≤ g ∧ W.heap[g]? = some (.cells cur 3) ∧ n ≤ cur.size
theorem Own.os {B : Nat} {W : World} {a : Option Addr} {n : Nat} {z : Nat → Int} (h : Own B W a n z) : OwnS B W a n := by
  rcases h with ⟨h0, _⟩ | ⟨g, cur, ha, hB, hg, hs, _⟩
  · exact .inl h0
  · exact .inr ⟨g, cur, ha, hB, hg, hs⟩
theorem OwnS.drewN {B : Nat} {W : World} {a : Option Addr} {n : Nat} (h : OwnS B W a n) (k : Nat) : OwnS B (W.drewN k) a n := h
theorem OwnS.at {B : Nat} {W : World} {a : Option Addr} {n : Nat} (h : OwnS B W a n) {i : Nat} (hi : i < n) :
    ∃ g v, a = some ⟨g, 0, none⟩ ∧ B ≤ g ∧ W.cell? ⟨g, i, none⟩ = some v ∧ W.frozen? ⟨g, i, none⟩ = false ∧ ∀ u, OwnS B (W.setCell ⟨g, i, none⟩ u) (some ⟨g, 0, none⟩) n := by
  rcases h with h0 | ⟨g, cur, ha, hB, hg, hs⟩
  · omega
  · refine ⟨g, cur[i], ha, hB, ?_, frozen_of_row _ _ _ _ _ hg, fun u => .inr ⟨g, _, rfl, hB, heap_setCell_same W g i _ 3 u hg, by simpa using hs⟩⟩
    rw [cell_of_row _ _ _ _ _ _ hg]
    exact Array.getElem?_eq_getElem (by omega)

set_option maxRecDepth 100000 in
set_option maxHeartbeats 4000000 in
theorem tell_main (k P C : Int) (N : Nat) (Z : Nat → Int) (hN : N ≤ 3) (hlo : -9223372036854775808 ≤ k) (hhi : k ≤ 9223372036854775807) (hr : ∀ W, Calls Try.prog 16 #[.int .i64 k] W (OfRes P N C Z W)) (hq : ∀ W, Calls Try.prog 17 #[.int .i64 k] W (OfRes P N C Z W)) (w : World) :
    Calls Try.prog 4 #[.int .i64 k] w fun e w' => e = .returned (.bool true) ∧ Below w.heap.size w w' := by
  have HR := Lib.hid hr
  have HQ := Lib.hid hq
  clear hr hq
  unfold OfRes at HR HQ
  have HNX := Lib.hid (fun W => rnext_any k W hlo hhi)
  have hPP : (P != P) = false := by simp
  have hCC : (C != C) = false := by simp
  go_enter Try.func4, Try.ntmps4
  go_wp2_with fail
  refine (HR.out _).mono ?_
  rintro e w1 ⟨a1, c1, rfl, hb1, hO1⟩
  have HB1 := Lib.hid hb1
  have HS1 := Lib.hid hO1.sl
  clear hb1 hO1 HR
  go_wp2_with fail
  go_loopw [6] (fun v wr => ∃ t : Nat, t ≤ 2 ∧ v = .int .i64 t ∧ Below w.heap.size w wr ∧ Sl wr a1 N Z) (fun v _ => 2 - (intOf v).toNat)
  case atStart => exact ⟨0, by omega, rfl, HB1.out, HS1.out⟩
  case round =>
    obtain ⟨t, ht, rfl, hb, hs⟩ := hrel
    have HBR := Lib.hid hb
    have HSR := Lib.hid hs
    clear hb hs HB1 HS1
    by_cases hlt : t < 2
    · go_wp2_with fail
      refine (HQ.out _).mono ?_
      rintro e w2 ⟨a2, c2, rfl, hb2, hO2⟩
      have HB2 := Lib.hid hb2
      have HO2 := Lib.hid hO2.os
      have HS2 := Lib.hid hO2.sl
      have HS1 := Lib.hid (HSR.out.keep hb2)
      clear hb2 hO2
      go_wp2_with fail
      refine (same_yes N (by omega) Z a2 a1 c2 c1 w2 HS2.out HS1.out).mono ?_
      rintro e w3 ⟨rfl, k3, rfl⟩
      have HB3 := Lib.hid (below_drewN HB2.out k3)
      have HO3 := Lib.hid (HO2.out.drewN k3)
      obtain ⟨W3, hW3⟩ : ∃ W3, W3 = w2.drewN k3 := ⟨_, rfl⟩
      rw [← hW3] at HB3 HO3 ⊢
      clear hW3 HB2 HO2 HS2 HS1
      obtain ⟨wo, hwo⟩ : ∃ wo : World, wo = wr := ⟨_, rfl⟩
      rw [← hwo] at HB3 HO3 HBR HSR
      clear hwo
      go_wp2_with fail
      go_loopw [10] (fun v wi => ∃ i : Nat, i ≤ N ∧ v = .int .i64 i ∧ Below wo.heap.size wo wi ∧ OwnS wo.heap.size wi a2 N) (fun v _ => N - (intOf v).toNat)
      case atStart => exact ⟨0, Nat.zero_le _, rfl, HB3.out, HO3.out⟩
      case round =>
        obtain ⟨i, hi, rfl, hb4, hO4⟩ := hrel
        have HB4 := Lib.hid hb4
        have HO4 := Lib.hid hO4
        clear hb4 hO4 HB3 HO3
        by_cases hiN : i < N
        · obtain ⟨g, v, rfl, hg, hc, hz, hset⟩ := HO4.out.at hiN
          have HSET := Lib.hid hset
          have HG := Lib.hid hg
          have hl3 : (i : Int) < (N : Int) := by omega
          clear hset hg HO4
          go_wp2
          go_roundw
          case rel => exact ⟨i + 1, by omega, by go_num, HB4.out.setCell (p := ⟨g, i, none⟩) HG.out _, HSET.out _⟩
          case measure => simp [intOf]; omega
        · have HB5 := Lib.hid (HBR.out.trans (HB4.out.mono HBR.out.size))
          have HS5 := Lib.hid (HSR.out.keep HB4.out)
          go_wp2
          go_roundw
          case rel => exact ⟨t + 1, by omega, by go_num, HB5.out, HS5.out⟩
          case measure => simp [intOf]; omega
    · clear HQ
      go_wp2_with fail
      refine (level_any k _).mono ?_; rintro e w2 ⟨rfl, hw2⟩; rw [hw2]; clear hw2
      go_wp2_with fail
      refine (rlevel_any k _).mono ?_; rintro e w2 ⟨rfl, hw2⟩; rw [hw2]; clear hw2
      have e1 : (lev k == lev k) = true := by simp
      go_wp2_with fail
      refine (span_any k _).mono ?_; rintro e w2 ⟨rfl, hw2⟩; rw [hw2]; clear hw2
      go_wp2_with fail
      refine (rspan_any k _).mono ?_; rintro e w3 ⟨rfl, hb3⟩; have HB3 := Lib.hid (HBR.out.trans (hb3.mono HBR.out.size)); clear hb3
      have e2 : (spn k == spn k) = true := by simp
      go_wp2_with fail
      refine (first_any k _).mono ?_; rintro e w4 ⟨rfl, hb4⟩; have HB4 := Lib.hid (HB3.out.trans (hb4.mono HB3.out.size)); clear hb4
      go_wp2_with fail
      refine (rfirst_any k _).mono ?_; rintro e w5 ⟨rfl, hb5⟩; have HB5 := Lib.hid (HB4.out.trans (hb5.mono HB4.out.size)); clear hb5
      have e3 : (frst k == frst k) = true := by simp
      go_wp2_with fail
      refine (next_any k _).mono ?_; rintro e w2 ⟨rfl, hw2⟩; rw [hw2]; clear hw2
      go_wp2_with fail
      refine (HNX.out _).mono ?_; rintro e w6 ⟨rfl, hb6⟩; have HB6 := Lib.hid (HB5.out.trans (hb6.mono HB5.out.size)); clear hb6
      have e4 : (nxt k == nxt k) = true := by simp
      go_wp2_with fail
      refine (indirect_any k _).mono ?_; rintro e w7 ⟨rfl, hb7⟩; have HB7 := Lib.hid (HB6.out.trans (hb7.mono HB6.out.size)); clear hb7
      go_wp2_with fail
      refine (rind_any k _).mono ?_; rintro e w8 ⟨rfl, hb8⟩; have HB8 := Lib.hid (HB7.out.trans (hb8.mono HB7.out.size)); clear hb8
      have e5 : (ind (min (max k 0) 65536) == ind (min (max k 0) 65536)) = true := by simp
      go_wp2
      go_ret
      exact ⟨rfl, HB8.out⟩

theorem tell_walk (k : Int) (w : World) (h : -9223372036854775808 ≤ k ∧ k ≤ 9223372036854775807) :
    Calls Try.prog 4 #[.int .i64 k] w fun e w' => e = .returned (.bool true) ∧ Below w.heap.size w w' := by
  by_cases hk : k < 0 ∨ 65536 ≤ k
  · refine tell_main k 0 100 0 (fun _ => 0) (by omega) h.1 h.2 (fun W => (rof_none k hk W).mono ?_) (fun W => (of_none k hk W).mono ?_) w
    · rintro e w' ⟨rfl, hb⟩
      exact ⟨none, 0, rfl, hb, .inl ⟨rfl, rfl⟩⟩
    · rintro e w' ⟨rfl, hb⟩
      exact ⟨none, 0, rfl, hb, .inl ⟨rfl, rfl⟩⟩
  · exact tell_main k (ofP k) 0 (ofN k) (ofZ k) (ofN_le k) h.1 h.2 (fun W => rof_yes k (by omega) (by omega) W) (fun W => of_yes k (by omega) (by omega) W) w
end Go.Proofs.Ytjniajojbnhmgaa
