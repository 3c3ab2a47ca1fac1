/-
  The walk of quernlaw12.RingPlays: it returns true, of any number and slice of acts, and changes nothing that was there.
  Conditions: none.
-/
import Derived.Test.YtlccgphblbdjkaaRefC
import Derived.Test.YtlccgphblbdjkaaApartWalk
namespace Go.Proofs.Ytlccgphblbdjkaa
open Go.RowKit
set_option linter.unusedVariables false

/-- What holds at the head of the loop of RingPlays. -/
structure PR (b p : Nat) (w : World) (t u : Nat) (v : Value) (W : World) : Prop where
  ring : IsRing b p t u W
  ref : IsRef (b + 1) (p + 1) v u (aft p t u) (fun i => aft p t i) W
  below : Below w.heap.size w W

theorem PR.drewN {b p : Nat} {w : World} {t u : Nat} {v : Value} {W : World} (h : PR b p w t u v W) (k : Nat) : PR b p w t u v (W.drewN k) := ⟨h.ring.drewN k, h.ref.drewN k, below_drewN h.below k⟩
theorem PR.drew {b p : Nat} {w : World} {t u : Nat} {v : Value} {W : World} (h : PR b p w t u v W) : PR b p w t u v { W with drawn := W.drawn + 1 } := h.drewN 1
theorem PR.tail {b p : Nat} {w : World} {t u : Nat} {v : Value} {W : World} (h : PR b p w t u v W) : (u = 0 ∧ aft p t u = t) ∨ (0 < u ∧ (fun i => aft p t i) 0 = t) := by
  have e := aft_zero h.ring.tl h.ring.th
  rcases Nat.eq_zero_or_pos u with rfl | hu
  · exact .inl ⟨rfl, e⟩
  · exact .inr ⟨hu, e⟩
theorem rfree_p (p b2 : Nat) (v : Value) (n H : Nat) (z : Nat → Nat) (w : World) (h : IsRef b2 (p + 1) v n H z w) :
    Calls Try.prog 20 #[.pointer (some ⟨b2, 0, none⟩)] w fun e w' => e = .returned (.int .i64 ((p : Int) - n)) ∧ ∃ k, w' = w.drewN k := by
  have := rfree_any b2 (p + 1) v n H z w h
  rw [show (((p + 1 : Nat) : Int) - 1 - n) = (p : Int) - n by omega] at this
  exact this
theorem PR.gave {b p : Nat} {w w3 w5 : World} {t u m : Nat} {v v5 : Value} (hr : IsRing b p (aft p t m) (u - m) w3) (hf : IsRef (b + 1) (p + 1) v u (aft p t u) (fun i => aft p t i) w3) (hb : Below w.heap.size w w3)
    (hmv : RMv (b + 1) v w3 w5) (hf5 : IsRef (b + 1) (p + 1) v5 (u - m) (aft p t u) (fun i => aft p t (m + i)) w5) (hm : m ≤ u) (hp : 39 ≤ p) (ht : 1 ≤ t) (hwb : w.heap.size ≤ b := by exact Nat.le_refl _) : PR b p w (aft p t m) (u - m) v5 w5 := by
  have hbl := (Array.getElem?_eq_some_iff.1 hr.here).1
  have hv : ∀ k, k ≤ b → v.ownBlock ≠ some k := fun k hk e => by have := (own_base hf.own e).1; omega
  refine ⟨⟨(hmv.block b hbl (by omega) (hv b (Nat.le_refl _))).trans hr.here, hr.pos, hr.most, hr.tl, hr.th, hr.used⟩, ?_, ?_⟩
  · have e1 : aft p (aft p t m) (u - m) = aft p t u := by rw [aft_aft (by omega) _ ht]; congr 1; omega
    rw [e1]
    exact hf5.ext (fun i _ => (aft_aft (by omega) i ht).symm)
  · exact ⟨hmv.os.trans hb.os, hmv.tape.trans hb.tape, hmv.output.trans hb.output, Nat.le_trans hb.size hmv.size, fun k hk => (hmv.block k (by have := hb.size; omega) (by omega) (hv k (by omega))).trans (hb.block k hk)⟩
theorem PR.took {b p : Nat} {w W4 w5 w3 : World} {t u m : Nat} {v v5 vo : Value} {S : Nat} (hr : IsRing b p t (u + m) w3) (hf : IsRef (b + 1) (p + 1) v u (aft p t u) (fun i => aft p t i) w3) (hb : Below w.heap.size w w3)
    (hq : TQ (b + 1) (p + 1) (fun i => aft p t i) v u w3 vo m v5 (u + m) v5 (aft p t (u + m)) w5) (hm : u + m ≤ p) (hwb : w.heap.size ≤ b := by exact Nat.le_refl _) : PR b p w t (u + m) v5 w5 := by
  have hbl := (Array.getElem?_eq_some_iff.1 hr.here).1
  have hv : ∀ k, k ≤ b → v.ownBlock ≠ some k := fun k hk e => by have := (own_base hf.own e).1; omega
  have hmv := hq.mv
  have hbd := aft_bd p t (u + m) hr.pos
  refine ⟨⟨(hmv.block b hbl (by omega) (hv b (Nat.le_refl _))).trans hr.here, hr.pos, hr.most, hr.tl, hr.th, hr.used⟩, ⟨hq.here, hq.use, hf.jp, hf.jm, by omega, by omega⟩, ?_⟩
  exact ⟨hmv.os.trans hb.os, hmv.tape.trans hb.tape, hmv.output.trans hb.output, Nat.le_trans hb.size hmv.size, fun k hk => (hmv.block k (by have := hb.size; omega) (by omega) (hv k (by omega))).trans (hb.block k hk)⟩

theorem aft_steps {p t : Nat} (hp : 1 ≤ p) (i : Nat) : 1 ≤ aft p t i ∧ aft p t i < p + 1 ∧ (aft p t i + 1 = p + 1 → aft p t (i + 1) = 1) ∧ (aft p t i + 1 ≠ p + 1 → aft p t (i + 1) = aft p t i + 1) := by
  have := aft_bd p t i hp
  exact ⟨this.1, by omega, fun h => aft_next_end hp (by omega), fun h => aft_next_in hp (by omega)⟩

set_option maxRecDepth 100000 in
set_option maxHeartbeats 8000000 in
theorem plays_main (p : Nat) (hp1 : 39 ≤ p) (hp2 : p ≤ 255) (a : Option Addr) (len cap : Nat) (z : (Nat → Bool) × (Nat → Int)) (w : World) (hlen : len ≤ 400) (hz : IsActs w a len z) :
    Calls Try.prog 5 #[.int .i64 ((p : Int) + 1), .slice a len cap] w fun e w' => e = .returned (.bool true) ∧ Below w.heap.size w w' := by
  have HZ := Lib.hid hz
  clear hz
  have HN := Lib.hid (ring_p p w hp1 hp2)
  have HRN := Lib.hid (rnew_yes (p + 1) (w.alloc (.cells (rc p 1 0) 47)) (by omega) (by omega))
  rw [show ((p + 1 : Nat) : Int) = (p : Int) + 1 by omega] at HRN
  go_enter Try.func5, Try.ntmps5
  go_wp2_with (first | (go_at_call 9; refine (new_p p _ hp1 hp2).mono ?_; rintro e w2 ⟨rfl, hw2⟩; rw [hw2]; clear hw2))
  refine HRN.out.mono ?_
  rintro e w3 ⟨rfl, hw3⟩
  have HP0 : Hid (PR w.heap.size p w 1 0 (.slice none 0 0) w3) := Lib.hid (by
    rw [hw3]
    refine ⟨HN.out.below ((Below.refl _ _).alloc (Nat.le_refl _) _), ?_, ((Below.refl _ w).alloc (Nat.le_refl _) _).alloc (by simp) _⟩
    rw [aft_zero (by omega) (by omega)]
    refine ⟨?_, ⟨rfl, .inl ⟨rfl, rfl⟩⟩, by omega, by omega, by omega, by omega⟩
    have := heap_alloc_new (w.alloc (.cells (rc p 1 0) 47)) (.cells #[.int .i64 ((p : Int) + 1), .slice none 0 0, .int .i64 1] 45)
    simpa using this)
  clear hw3 HN HRN
  go_wp2_with fail
  go_loopw [9] (fun y wr => ∃ (i t u : Nat) (v : Value), i ≤ len ∧ y = .int .i64 i ∧ PR w.heap.size p w t u v wr) (fun y _ => len - (intOf y).toNat)
  case atStart => exact ⟨0, 1, 0, _, Nat.zero_le _, rfl, HP0.out⟩
  case round =>
    obtain ⟨i, t, u, v, hi, rfl, hr⟩ := hrel
    have hu := hr.ring.used
    have htl := hr.ring.tl
    have hth := hr.ring.th
    have HR := Lib.hid hr
    clear hr HP0
    by_cases hlt : i < len
    · have hz := HZ.out
      rcases hz with hz | ⟨blk, off, rfl, hblk, hz⟩
      · omega
      · obtain ⟨hcb, hcn, hb1, hb2⟩ := hz i hlt
        clear hz
        have hcb1 : wr.cell? ⟨blk, off + i * 2, none⟩ = some (.bool (z.1 i)) := (HR.out.below.cell (p := ⟨blk, off + i * 2, none⟩) hblk).trans hcb
        have hcn1 : wr.cell? ⟨blk, off + i * 2 + 1, none⟩ = some (.int .i64 (z.2 i)) := (HR.out.below.cell (p := ⟨blk, off + i * 2 + 1, none⟩) hblk).trans hcn
        have HCN : Hid (∀ W, Below w.heap.size w W → W.cell? ⟨blk, off + i * 2 + 1, none⟩ = some (.int .i64 (z.2 i))) := Lib.hid (fun W hb => (hb.cell (p := ⟨blk, off + i * 2 + 1, none⟩) hblk).trans hcn)
        clear hcb hcn
        have hl3 : (i : Int) < (len : Int) := by omega
        have hl4 : (0 : Int) ≤ (i : Int) := by omega
        generalize z.2 i = x at *
        cases hg : z.1 i with
        | true =>
          rw [hg] at hcb1
          clear hg
          by_cases hx0 : x < 0
          · have hE : giveE u x = 2 := by unfold giveE; rw [if_pos hx0]
            have hT : giveT p t u x = t := by unfold giveT; rw [hE]; rfl
            have hU : giveU u x = u := by unfold giveU; rw [hE]; rfl
            go_wp2_with fail
            refine wp_region_held (S := fun W' => W'.cell? ⟨blk, off + i * 2 + 1, none⟩ = some (.int .i64 x)) (by kernel_rfl) ?_
            have HP4 := Lib.hid (HR.out.drew)
            have hS4 : ({ wr with drawn := wr.drawn + 1 } : World).cell? ⟨blk, off + i * 2 + 1, none⟩ = some (.int .i64 x) := hcn1
            obtain ⟨W4, hW4⟩ : ∃ W4 : World, W4 = { wr with drawn := wr.drawn + 1 } := ⟨_, rfl⟩
            rw [← hW4] at HP4 hS4 ⊢
            clear hW4 HR hcn1 hcb1
            refine wpAnyH_take (i := 0) (v := .pointer (some ⟨w.heap.size, 0, none⟩)) rfl (by kernel_rfl) (by kernel_rfl) (by kernel_rfl) (fun _ _ _ h => h) (.inl ⟨rfl, fun W' hS => by go_simp⟩) hS4 ?_
            refine wpAnyH_take (i := 1) (v := .slice (some ⟨blk, off, none⟩) len cap) rfl (by kernel_rfl) (by kernel_rfl) (by kernel_rfl) (fun _ _ _ h => h) (.inl ⟨rfl, fun W' hS => by go_simp⟩) hS4 ?_
            refine wpAnyH_take (i := 2) (v := .int .i64 i) rfl (by kernel_rfl) (by kernel_rfl) (by kernel_rfl) (fun _ _ _ h => h) (.inl ⟨rfl, fun W' hS => by go_simp⟩) hS4 ?_
            refine wpAnyH_take (i := 3) (v := .pointer (some ⟨blk, off + i * 2, none⟩)) rfl (by kernel_rfl) (by kernel_rfl) (by kernel_rfl) (fun _ _ _ h => h) (.inl ⟨rfl, fun W' hS => by go_simp⟩) hS4 ?_
            refine wpAnyH_take (i := 4) (v := .pointer (some ⟨blk, off + i * 2 + 1, none⟩)) rfl (by kernel_rfl) (by kernel_rfl) (by kernel_rfl) (fun _ _ _ h => h) (.inl ⟨rfl, fun W' hS => by go_simp⟩) hS4 ?_
            refine wpAnyH_take (i := 5) (v := .int .i64 x) rfl (by kernel_rfl) (by kernel_rfl) (by kernel_rfl) (fun _ _ _ h => h) (.inl ⟨rfl, fun W' hS => by have hc := hS; go_simp⟩) hS4 ?_
            refine wpAnyH_take (i := 7) (v := .pointer (some ⟨w.heap.size + 1, 0, none⟩)) rfl (by kernel_rfl) (by kernel_rfl) (by kernel_rfl) (fun _ _ _ h => h) (.inl ⟨rfl, fun W' hS => by go_simp⟩) hS4 ?_
            refine wpAnyH_take (i := 8) (v := .slice (some ⟨blk, off, none⟩) len cap) rfl (by kernel_rfl) (by kernel_rfl) (by kernel_rfl) (fun _ _ _ h => h) (.inl ⟨rfl, fun W' hS => by go_simp⟩) hS4 ?_
            refine wpAnyH_take (i := 9) (v := .int .i64 i) rfl (by kernel_rfl) (by kernel_rfl) (by kernel_rfl) (fun _ _ _ h => h) (.inl ⟨rfl, fun W' hS => by go_simp⟩) hS4 ?_
            refine wpAnyH_take (i := 10) (v := .pointer (some ⟨blk, off + i * 2, none⟩)) rfl (by kernel_rfl) (by kernel_rfl) (by kernel_rfl) (fun _ _ _ h => h) (.inl ⟨rfl, fun W' hS => by go_simp⟩) hS4 ?_
            refine wpAnyH_take (i := 11) (v := .pointer (some ⟨blk, off + i * 2 + 1, none⟩)) rfl (by kernel_rfl) (by kernel_rfl) (by kernel_rfl) (fun _ _ _ h => h) (.inl ⟨rfl, fun W' hS => by go_simp⟩) hS4 ?_
            refine wpAnyH_take (i := 12) (v := .int .i64 x) rfl (by kernel_rfl) (by kernel_rfl) (by kernel_rfl) (fun _ _ _ h => h) (.inl ⟨rfl, fun W' hS => by have hc := hS; go_simp⟩) hS4 ?_
            refine wpAnyH_all (rs := [6]) (by kernel_rfl) (by simp) ?_
            intro j hj
            obtain rfl : j = 6 := by simpa using hj
            refine wpOp_step rfl fun K' hK' => ?_
            go_simp
            refine (give_at w.heap.size p t u x _ HP4.out.ring _ t u hE hT hU).mono ?_
            rintro e w3 ⟨rfl, hm3⟩
            have HM := Lib.hid hm3
            have HB3 := Lib.hid (HP4.out.below.trans (hm3.below (Nat.le_refl _) HP4.out.below.size))
            have HF3 := Lib.hid (HP4.out.ref.moved hm3 (by omega))
            have hS5 := HCN.out w3 HB3.out
            refine hK' _ _ ⟨hS5, ?_⟩
            clear hK' hm3
            refine wpAnyH_all (rs := [13]) (by kernel_rfl) (by simp) ?_
            intro j hj
            obtain rfl : j = 13 := by simpa using hj
            refine wpOp_step rfl fun K' hK' => ?_
            go_simp
            refine (rgive_neg (w.heap.size + 1) x w3 hx0).mono ?_
            rintro e w5 ⟨rfl, hw5⟩
            rw [hw5]
            clear hw5
            have HP : Hid (PR w.heap.size p w t u v w3) := Lib.hid ⟨HM.out.ring, HF3.out, HB3.out⟩
            have hS6 := HCN.out _ HP.out.below
            refine hK' _ _ ⟨hS6, ?_⟩
            clear hK' HM HB3 HF3 hS5
            refine wpAnyH_take (i := 14) (v := .bool false) rfl (by kernel_rfl) (by kernel_rfl) (by kernel_rfl) (fun _ _ _ h => h) (.inl ⟨rfl, fun W' hS => by go_simp⟩) hS6 ?_
            refine wpAnyH_done (by kernel_rfl) ?_ _
            clear hS6
            go_simp
            go_wp2_with fail
            obtain ⟨va, vcap, rfl⟩ := HP.out.ref.shape
            have hcu := HP.out.ref.c1
            have hch := HP.out.ref.c2
            have q1 : ((p : Int) - (u : Int) != (p : Int) - (u : Int)) = false := by simp
            have q2 : ((u : Int) != (u : Int)) = false := by simp
            have q3 : ((aft p t u : Int) != (aft p t u : Int)) = false := by simp
            have q4 : ((t : Int) != (t : Int)) = false := by simp
            go_quiet (first | (go_at_call 19; exact Calls.quiet_of (free_any w.heap.size p t u _ (HP.out.ring.drewN _))) | (go_at_call 20; exact Calls.quiet_of (rfree_p p _ _ _ _ _ _ (HP.out.ref.drewN _))) | (go_at_call 21; exact Calls.quiet_of (used_any w.heap.size p t u _ (HP.out.ring.drewN _))) | (go_at_call 14; exact Calls.quiet_of (head_any w.heap.size p t u _ (HP.out.ring.drewN _))) | (go_at_call 12; exact Calls.quiet_of (tail_any w.heap.size p t u _ (HP.out.ring.drewN _))) | (go_at_call 22; exact Calls.quiet_of (rtail_any _ _ _ _ _ _ _ (HP.out.ref.drewN _) t HP.out.tail)))
            go_wp2
            go_roundw
            case rel => exact ⟨i + 1, t, u, _, by omega, by go_num, HP.out.drewN _⟩
            case measure => simp [intOf]; omega
          · by_cases hxu : (u : Int) < x
            · have hE : giveE u x = 120 := by unfold giveE; rw [if_neg hx0, if_pos hxu]
              have hT : giveT p t u x = t := by unfold giveT; rw [hE]; rfl
              have hU : giveU u x = u := by unfold giveU; rw [hE]; rfl
              go_wp2_with fail
              refine wp_region_held (S := fun W' => W'.cell? ⟨blk, off + i * 2 + 1, none⟩ = some (.int .i64 x)) (by kernel_rfl) ?_
              have HP4 := Lib.hid (HR.out.drew)
              have hS4 : ({ wr with drawn := wr.drawn + 1 } : World).cell? ⟨blk, off + i * 2 + 1, none⟩ = some (.int .i64 x) := hcn1
              obtain ⟨W4, hW4⟩ : ∃ W4 : World, W4 = { wr with drawn := wr.drawn + 1 } := ⟨_, rfl⟩
              rw [← hW4] at HP4 hS4 ⊢
              clear hW4 HR hcn1 hcb1
              refine wpAnyH_take (i := 0) (v := .pointer (some ⟨w.heap.size, 0, none⟩)) rfl (by kernel_rfl) (by kernel_rfl) (by kernel_rfl) (fun _ _ _ h => h) (.inl ⟨rfl, fun W' hS => by go_simp⟩) hS4 ?_
              refine wpAnyH_take (i := 1) (v := .slice (some ⟨blk, off, none⟩) len cap) rfl (by kernel_rfl) (by kernel_rfl) (by kernel_rfl) (fun _ _ _ h => h) (.inl ⟨rfl, fun W' hS => by go_simp⟩) hS4 ?_
              refine wpAnyH_take (i := 2) (v := .int .i64 i) rfl (by kernel_rfl) (by kernel_rfl) (by kernel_rfl) (fun _ _ _ h => h) (.inl ⟨rfl, fun W' hS => by go_simp⟩) hS4 ?_
              refine wpAnyH_take (i := 3) (v := .pointer (some ⟨blk, off + i * 2, none⟩)) rfl (by kernel_rfl) (by kernel_rfl) (by kernel_rfl) (fun _ _ _ h => h) (.inl ⟨rfl, fun W' hS => by go_simp⟩) hS4 ?_
              refine wpAnyH_take (i := 4) (v := .pointer (some ⟨blk, off + i * 2 + 1, none⟩)) rfl (by kernel_rfl) (by kernel_rfl) (by kernel_rfl) (fun _ _ _ h => h) (.inl ⟨rfl, fun W' hS => by go_simp⟩) hS4 ?_
              refine wpAnyH_take (i := 5) (v := .int .i64 x) rfl (by kernel_rfl) (by kernel_rfl) (by kernel_rfl) (fun _ _ _ h => h) (.inl ⟨rfl, fun W' hS => by have hc := hS; go_simp⟩) hS4 ?_
              refine wpAnyH_take (i := 7) (v := .pointer (some ⟨w.heap.size + 1, 0, none⟩)) rfl (by kernel_rfl) (by kernel_rfl) (by kernel_rfl) (fun _ _ _ h => h) (.inl ⟨rfl, fun W' hS => by go_simp⟩) hS4 ?_
              refine wpAnyH_take (i := 8) (v := .slice (some ⟨blk, off, none⟩) len cap) rfl (by kernel_rfl) (by kernel_rfl) (by kernel_rfl) (fun _ _ _ h => h) (.inl ⟨rfl, fun W' hS => by go_simp⟩) hS4 ?_
              refine wpAnyH_take (i := 9) (v := .int .i64 i) rfl (by kernel_rfl) (by kernel_rfl) (by kernel_rfl) (fun _ _ _ h => h) (.inl ⟨rfl, fun W' hS => by go_simp⟩) hS4 ?_
              refine wpAnyH_take (i := 10) (v := .pointer (some ⟨blk, off + i * 2, none⟩)) rfl (by kernel_rfl) (by kernel_rfl) (by kernel_rfl) (fun _ _ _ h => h) (.inl ⟨rfl, fun W' hS => by go_simp⟩) hS4 ?_
              refine wpAnyH_take (i := 11) (v := .pointer (some ⟨blk, off + i * 2 + 1, none⟩)) rfl (by kernel_rfl) (by kernel_rfl) (by kernel_rfl) (fun _ _ _ h => h) (.inl ⟨rfl, fun W' hS => by go_simp⟩) hS4 ?_
              refine wpAnyH_take (i := 12) (v := .int .i64 x) rfl (by kernel_rfl) (by kernel_rfl) (by kernel_rfl) (fun _ _ _ h => h) (.inl ⟨rfl, fun W' hS => by have hc := hS; go_simp⟩) hS4 ?_
              refine wpAnyH_all (rs := [6]) (by kernel_rfl) (by simp) ?_
              intro j hj
              obtain rfl : j = 6 := by simpa using hj
              refine wpOp_step rfl fun K' hK' => ?_
              go_simp
              refine (give_at w.heap.size p t u x _ HP4.out.ring _ t u hE hT hU).mono ?_
              rintro e w3 ⟨rfl, hm3⟩
              have HM := Lib.hid hm3
              have HB3 := Lib.hid (HP4.out.below.trans (hm3.below (Nat.le_refl _) HP4.out.below.size))
              have HF3 := Lib.hid (HP4.out.ref.moved hm3 (by omega))
              have hS5 := HCN.out w3 HB3.out
              refine hK' _ _ ⟨hS5, ?_⟩
              clear hK' hm3
              refine wpAnyH_all (rs := [13]) (by kernel_rfl) (by simp) ?_
              intro j hj
              obtain rfl : j = 13 := by simpa using hj
              refine wpOp_step rfl fun K' hK' => ?_
              go_simp
              refine (rgive_much (w.heap.size + 1) (p + 1) v u (aft p t u) (fun i => aft p t i) x w3 HF3.out hxu).mono ?_
              rintro e w5 ⟨rfl, hw5⟩
              rw [hw5]
              clear hw5
              have HP : Hid (PR w.heap.size p w t u v w3) := Lib.hid ⟨HM.out.ring, HF3.out, HB3.out⟩
              have hS6 := HCN.out _ HP.out.below
              refine hK' _ _ ⟨hS6, ?_⟩
              clear hK' HM HB3 HF3 hS5
              refine wpAnyH_take (i := 14) (v := .bool false) rfl (by kernel_rfl) (by kernel_rfl) (by kernel_rfl) (fun _ _ _ h => h) (.inl ⟨rfl, fun W' hS => by go_simp⟩) hS6 ?_
              refine wpAnyH_done (by kernel_rfl) ?_ _
              clear hS6
              go_simp
              go_wp2_with fail
              obtain ⟨va, vcap, rfl⟩ := HP.out.ref.shape
              have hcu := HP.out.ref.c1
              have hch := HP.out.ref.c2
              have q1 : ((p : Int) - (u : Int) != (p : Int) - (u : Int)) = false := by simp
              have q2 : ((u : Int) != (u : Int)) = false := by simp
              have q3 : ((aft p t u : Int) != (aft p t u : Int)) = false := by simp
              have q4 : ((t : Int) != (t : Int)) = false := by simp
              go_quiet (first | (go_at_call 19; exact Calls.quiet_of (free_any w.heap.size p t u _ (HP.out.ring.drewN _))) | (go_at_call 20; exact Calls.quiet_of (rfree_p p _ _ _ _ _ _ (HP.out.ref.drewN _))) | (go_at_call 21; exact Calls.quiet_of (used_any w.heap.size p t u _ (HP.out.ring.drewN _))) | (go_at_call 14; exact Calls.quiet_of (head_any w.heap.size p t u _ (HP.out.ring.drewN _))) | (go_at_call 12; exact Calls.quiet_of (tail_any w.heap.size p t u _ (HP.out.ring.drewN _))) | (go_at_call 22; exact Calls.quiet_of (rtail_any _ _ _ _ _ _ _ (HP.out.ref.drewN _) t HP.out.tail)))
              go_wp2
              go_roundw
              case rel => exact ⟨i + 1, t, u, _, by omega, by go_num, HP.out.drewN _⟩
              case measure => simp [intOf]; omega
            · obtain ⟨m, rfl⟩ := Int.eq_ofNat_of_zero_le (a := x) (by omega)
              have hE : giveE u m = 0 := by unfold giveE; rw [if_neg hx0, if_neg hxu]
              have hT : giveT p t u m = aft p t m := by unfold giveT; rw [hE]; rfl
              have hU : giveU u m = u - m := by unfold giveU; rw [hE]; rfl
              have hmu : m ≤ u := by omega
              go_wp2_with fail
              refine wp_region_held (S := fun W' => W'.cell? ⟨blk, off + i * 2 + 1, none⟩ = some (.int .i64 m)) (by kernel_rfl) ?_
              have HP4 := Lib.hid (HR.out.drew)
              have hS4 : ({ wr with drawn := wr.drawn + 1 } : World).cell? ⟨blk, off + i * 2 + 1, none⟩ = some (.int .i64 m) := hcn1
              obtain ⟨W4, hW4⟩ : ∃ W4 : World, W4 = { wr with drawn := wr.drawn + 1 } := ⟨_, rfl⟩
              rw [← hW4] at HP4 hS4 ⊢
              clear hW4 HR hcn1 hcb1
              refine wpAnyH_take (i := 0) (v := .pointer (some ⟨w.heap.size, 0, none⟩)) rfl (by kernel_rfl) (by kernel_rfl) (by kernel_rfl) (fun _ _ _ h => h) (.inl ⟨rfl, fun W' hS => by go_simp⟩) hS4 ?_
              refine wpAnyH_take (i := 1) (v := .slice (some ⟨blk, off, none⟩) len cap) rfl (by kernel_rfl) (by kernel_rfl) (by kernel_rfl) (fun _ _ _ h => h) (.inl ⟨rfl, fun W' hS => by go_simp⟩) hS4 ?_
              refine wpAnyH_take (i := 2) (v := .int .i64 i) rfl (by kernel_rfl) (by kernel_rfl) (by kernel_rfl) (fun _ _ _ h => h) (.inl ⟨rfl, fun W' hS => by go_simp⟩) hS4 ?_
              refine wpAnyH_take (i := 3) (v := .pointer (some ⟨blk, off + i * 2, none⟩)) rfl (by kernel_rfl) (by kernel_rfl) (by kernel_rfl) (fun _ _ _ h => h) (.inl ⟨rfl, fun W' hS => by go_simp⟩) hS4 ?_
              refine wpAnyH_take (i := 4) (v := .pointer (some ⟨blk, off + i * 2 + 1, none⟩)) rfl (by kernel_rfl) (by kernel_rfl) (by kernel_rfl) (fun _ _ _ h => h) (.inl ⟨rfl, fun W' hS => by go_simp⟩) hS4 ?_
              refine wpAnyH_take (i := 5) (v := .int .i64 m) rfl (by kernel_rfl) (by kernel_rfl) (by kernel_rfl) (fun _ _ _ h => h) (.inl ⟨rfl, fun W' hS => by have hc := hS; go_simp⟩) hS4 ?_
              refine wpAnyH_take (i := 7) (v := .pointer (some ⟨w.heap.size + 1, 0, none⟩)) rfl (by kernel_rfl) (by kernel_rfl) (by kernel_rfl) (fun _ _ _ h => h) (.inl ⟨rfl, fun W' hS => by go_simp⟩) hS4 ?_
              refine wpAnyH_take (i := 8) (v := .slice (some ⟨blk, off, none⟩) len cap) rfl (by kernel_rfl) (by kernel_rfl) (by kernel_rfl) (fun _ _ _ h => h) (.inl ⟨rfl, fun W' hS => by go_simp⟩) hS4 ?_
              refine wpAnyH_take (i := 9) (v := .int .i64 i) rfl (by kernel_rfl) (by kernel_rfl) (by kernel_rfl) (fun _ _ _ h => h) (.inl ⟨rfl, fun W' hS => by go_simp⟩) hS4 ?_
              refine wpAnyH_take (i := 10) (v := .pointer (some ⟨blk, off + i * 2, none⟩)) rfl (by kernel_rfl) (by kernel_rfl) (by kernel_rfl) (fun _ _ _ h => h) (.inl ⟨rfl, fun W' hS => by go_simp⟩) hS4 ?_
              refine wpAnyH_take (i := 11) (v := .pointer (some ⟨blk, off + i * 2 + 1, none⟩)) rfl (by kernel_rfl) (by kernel_rfl) (by kernel_rfl) (fun _ _ _ h => h) (.inl ⟨rfl, fun W' hS => by go_simp⟩) hS4 ?_
              refine wpAnyH_take (i := 12) (v := .int .i64 m) rfl (by kernel_rfl) (by kernel_rfl) (by kernel_rfl) (fun _ _ _ h => h) (.inl ⟨rfl, fun W' hS => by have hc := hS; go_simp⟩) hS4 ?_
              refine wpAnyH_all (rs := [6]) (by kernel_rfl) (by simp) ?_
              intro j hj
              obtain rfl : j = 6 := by simpa using hj
              refine wpOp_step rfl fun K' hK' => ?_
              go_simp
              refine (give_at w.heap.size p t u m _ HP4.out.ring _ (aft p t m) (u - m) hE hT hU).mono ?_
              rintro e w3 ⟨rfl, hm3⟩
              have HM := Lib.hid hm3
              have HB3 := Lib.hid (HP4.out.below.trans (hm3.below (Nat.le_refl _) HP4.out.below.size))
              have HF3 := Lib.hid (HP4.out.ref.moved hm3 (by omega))
              have hS5 := HCN.out w3 HB3.out
              refine hK' _ _ ⟨hS5, ?_⟩
              clear hK' hm3
              refine wpAnyH_all (rs := [13]) (by kernel_rfl) (by simp) ?_
              intro j hj
              obtain rfl : j = 13 := by simpa using hj
              refine wpOp_step rfl fun K' hK' => ?_
              go_simp
              refine (rgive_does (w.heap.size + 1) (p + 1) v u (aft p t u) (fun i => aft p t i) m w3 HF3.out hmu).mono ?_
              rintro e w5 ⟨rfl, hmv, v5, hf5⟩
              have HP : Hid (PR w.heap.size p w (aft p t m) (u - m) v5 w5) := Lib.hid (PR.gave HM.out.ring HF3.out HB3.out hmv hf5 hmu hp1 htl)
              clear hmv hf5
              have hS6 := HCN.out _ HP.out.below
              refine hK' _ _ ⟨hS6, ?_⟩
              clear hK' HM HB3 HF3 hS5
              refine wpAnyH_take (i := 14) (v := .bool false) rfl (by kernel_rfl) (by kernel_rfl) (by kernel_rfl) (fun _ _ _ h => h) (.inl ⟨rfl, fun W' hS => by go_simp⟩) hS6 ?_
              refine wpAnyH_done (by kernel_rfl) ?_ _
              clear hS6
              go_simp
              go_wp2_with fail
              generalize aft p t m = T at *
              generalize u - m = U at *
              obtain ⟨va, vcap, rfl⟩ := HP.out.ref.shape
              have hcu := HP.out.ref.c1
              have hch := HP.out.ref.c2
              have q1 : ((p : Int) - (U : Int) != (p : Int) - (U : Int)) = false := by simp
              have q2 : ((U : Int) != (U : Int)) = false := by simp
              have q3 : ((aft p T U : Int) != (aft p T U : Int)) = false := by simp
              have q4 : ((T : Int) != (T : Int)) = false := by simp
              go_quiet (first | (go_at_call 19; exact Calls.quiet_of (free_any w.heap.size p T U _ (HP.out.ring.drewN _))) | (go_at_call 20; exact Calls.quiet_of (rfree_p p _ _ _ _ _ _ (HP.out.ref.drewN _))) | (go_at_call 21; exact Calls.quiet_of (used_any w.heap.size p T U _ (HP.out.ring.drewN _))) | (go_at_call 14; exact Calls.quiet_of (head_any w.heap.size p T U _ (HP.out.ring.drewN _))) | (go_at_call 12; exact Calls.quiet_of (tail_any w.heap.size p T U _ (HP.out.ring.drewN _))) | (go_at_call 22; exact Calls.quiet_of (rtail_any _ _ _ _ _ _ _ (HP.out.ref.drewN _) T HP.out.tail)))
              go_wp2
              go_roundw
              case rel => exact ⟨i + 1, T, U, _, by omega, by go_num, HP.out.drewN _⟩
              case measure => simp [intOf]; omega
        | false =>
          rw [hg] at hcb1
          clear hg
          by_cases hx1 : x < 1
          · go_wp2_with fail
            refine (take_low w.heap.size p t u x _ HR.out.ring hx1).mono ?_
            rintro e w3 ⟨rfl, k3, rfl⟩
            have HP1 := Lib.hid (HR.out.drewN k3)
            have hcn3 := HCN.out _ HP1.out.below
            obtain ⟨W3, hW3⟩ : ∃ W, W = wr.drewN k3 := ⟨_, rfl⟩
            rw [← hW3] at HP1 hcn3 ⊢
            clear hW3 HR hcn1 hcb1
            go_wp2_with fail
            refine (rtake_low (w.heap.size + 1) x _ hx1).mono ?_
            rintro e w4 ⟨rfl, k4, rfl⟩
            have HP2 := Lib.hid (HP1.out.drewN k4)
            obtain ⟨W4, hW4⟩ : ∃ W, W = W3.drewN k4 := ⟨_, rfl⟩
            rw [← hW4] at HP2 ⊢
            clear hW4 HP1 hcn3
            go_wp2_with fail
            refine (same_nil _).mono ?_
            rintro e w5 ⟨rfl, k5, rfl⟩
            have HP := Lib.hid (HP2.out.drewN k5)
            obtain ⟨W5, hW5⟩ : ∃ W, W = W4.drewN k5 := ⟨_, rfl⟩
            rw [← hW5] at HP ⊢
            clear hW5 HP2
            go_wp2_with fail
            obtain ⟨va, vcap, rfl⟩ := HP.out.ref.shape
            have hcu := HP.out.ref.c1
            have hch := HP.out.ref.c2
            have q1 : ((p : Int) - (u : Int) != (p : Int) - (u : Int)) = false := by simp
            have q2 : ((u : Int) != (u : Int)) = false := by simp
            have q3 : ((aft p t u : Int) != (aft p t u : Int)) = false := by simp
            have q4 : ((t : Int) != (t : Int)) = false := by simp
            go_quiet (first | (go_at_call 19; exact Calls.quiet_of (free_any w.heap.size p t u _ (HP.out.ring.drewN _))) | (go_at_call 20; exact Calls.quiet_of (rfree_p p _ _ _ _ _ _ (HP.out.ref.drewN _))) | (go_at_call 21; exact Calls.quiet_of (used_any w.heap.size p t u _ (HP.out.ring.drewN _))) | (go_at_call 14; exact Calls.quiet_of (head_any w.heap.size p t u _ (HP.out.ring.drewN _))) | (go_at_call 12; exact Calls.quiet_of (tail_any w.heap.size p t u _ (HP.out.ring.drewN _))) | (go_at_call 22; exact Calls.quiet_of (rtail_any _ _ _ _ _ _ _ (HP.out.ref.drewN _) t HP.out.tail)))
            go_wp2
            go_roundw
            case rel => exact ⟨i + 1, t, u, _, by omega, by go_num, HP.out.drewN _⟩
            case measure => simp [intOf]; omega
          · by_cases hxp : (p : Int) - u < x
            · go_wp2_with fail
              refine (take_much w.heap.size p t u x _ HR.out.ring hxp).mono ?_
              rintro e w3 ⟨rfl, k3, rfl⟩
              have HP1 := Lib.hid (HR.out.drewN k3)
              have hcn3 := HCN.out _ HP1.out.below
              obtain ⟨W3, hW3⟩ : ∃ W, W = wr.drewN k3 := ⟨_, rfl⟩
              rw [← hW3] at HP1 hcn3 ⊢
              clear hW3 HR hcn1 hcb1
              go_wp2_with fail
              refine (rtake_much (w.heap.size + 1) (p + 1) v u (aft p t u) (fun i => aft p t i) x _ HP1.out.ref (by omega)).mono ?_
              rintro e w4 ⟨rfl, k4, rfl⟩
              have HP2 := Lib.hid (HP1.out.drewN k4)
              obtain ⟨W4, hW4⟩ : ∃ W, W = W3.drewN k4 := ⟨_, rfl⟩
              rw [← hW4] at HP2 ⊢
              clear hW4 HP1 hcn3
              go_wp2_with fail
              refine (same_nil _).mono ?_
              rintro e w5 ⟨rfl, k5, rfl⟩
              have HP := Lib.hid (HP2.out.drewN k5)
              obtain ⟨W5, hW5⟩ : ∃ W, W = W4.drewN k5 := ⟨_, rfl⟩
              rw [← hW5] at HP ⊢
              clear hW5 HP2
              go_wp2_with fail
              obtain ⟨va, vcap, rfl⟩ := HP.out.ref.shape
              have hcu := HP.out.ref.c1
              have hch := HP.out.ref.c2
              have q1 : ((p : Int) - (u : Int) != (p : Int) - (u : Int)) = false := by simp
              have q2 : ((u : Int) != (u : Int)) = false := by simp
              have q3 : ((aft p t u : Int) != (aft p t u : Int)) = false := by simp
              have q4 : ((t : Int) != (t : Int)) = false := by simp
              go_quiet (first | (go_at_call 19; exact Calls.quiet_of (free_any w.heap.size p t u _ (HP.out.ring.drewN _))) | (go_at_call 20; exact Calls.quiet_of (rfree_p p _ _ _ _ _ _ (HP.out.ref.drewN _))) | (go_at_call 21; exact Calls.quiet_of (used_any w.heap.size p t u _ (HP.out.ring.drewN _))) | (go_at_call 14; exact Calls.quiet_of (head_any w.heap.size p t u _ (HP.out.ring.drewN _))) | (go_at_call 12; exact Calls.quiet_of (tail_any w.heap.size p t u _ (HP.out.ring.drewN _))) | (go_at_call 22; exact Calls.quiet_of (rtail_any _ _ _ _ _ _ _ (HP.out.ref.drewN _) t HP.out.tail)))
              go_wp2
              go_roundw
              case rel => exact ⟨i + 1, t, u, _, by omega, by go_num, HP.out.drewN _⟩
              case measure => simp [intOf]; omega
            · obtain ⟨m, rfl⟩ := Int.eq_ofNat_of_zero_le (a := x) (by omega)
              have hm1 : 1 ≤ m := by omega
              have hm2 : m ≤ p - u := by omega
              go_wp2_with fail
              refine (take_does w.heap.size p t u m _ HR.out.ring hm1 hm2).mono ?_
              rintro e w3 ⟨rfl, hm3, hrow3⟩
              have HB3 := Lib.hid (HR.out.below.trans (hm3.below (Nat.le_refl _) HR.out.below.size))
              have HF3 := Lib.hid (HR.out.ref.moved hm3 (by omega))
              have HG3 := Lib.hid hm3.ring
              have HX3 := Lib.hid hrow3
              have hcn3 := HCN.out _ HB3.out
              have hSz : w.heap.size + 1 < wr.heap.size := (Array.getElem?_eq_some_iff.1 HR.out.ref.here).1
              have HVS : Hid (v.ownBlock ≠ some wr.heap.size) := Lib.hid (fun e => by have := (own_base HR.out.ref.own e).2; omega)
              clear hm3 hrow3 HR hcn1 hcb1
              generalize wr.heap.size = S at *
              go_wp2_with fail
              refine (rtake_does (w.heap.size + 1) (p + 1) v u (fun i => aft p t i) m w3 HF3.out hm1 (by omega) (fun i => aft_steps (by omega) i)).mono ?_
              rintro e w5 ⟨g, gcap, v5, rfl, hq⟩
              have HP5 := Lib.hid (PR.took (W4 := w) (S := 0) HG3.out HF3.out HB3.out hq (by omega))
              have HA5 : Hid (∀ i, i < m → w5.cell? ⟨S, 0 + i, none⟩ = some (.int .i64 (aft p t (u + i)))) := Lib.hid (fun i hi => ic_cell ((hq.mv.block S (Array.getElem?_eq_some_iff.1 HX3.out).1 (by omega) HVS.out).trans HX3.out) i hi)
              have HC5 : Hid (∀ i, i < m → w5.cell? ⟨g, 0 + i, none⟩ = some (.int .i64 (aft p t (u + i)))) := Lib.hid (fun i hi => by
                obtain ⟨g', cap', hv, _, _, hc⟩ := own_cell hq.out hi
                cases hv
                rw [Nat.zero_add]; exact hc)
              clear hq HB3 HF3 HG3 HX3 hcn3 HVS
              go_wp2_with fail
              refine (same_yes m (by omega) (fun i => (aft p t (u + i) : Int)) S g 0 0 m gcap w5 HA5.out HC5.out).mono ?_
              rintro e w6 ⟨rfl, k6, rfl⟩
              have HP := Lib.hid (HP5.out.drewN k6)
              obtain ⟨W6, hW6⟩ : ∃ W, W = w5.drewN k6 := ⟨_, rfl⟩
              rw [← hW6] at HP ⊢
              clear hW6 HP5 HA5 HC5
              go_wp2_with fail
              generalize u + m = U at *
              obtain ⟨va, vcap, rfl⟩ := HP.out.ref.shape
              have hcu := HP.out.ref.c1
              have hch := HP.out.ref.c2
              have q1 : ((p : Int) - (U : Int) != (p : Int) - (U : Int)) = false := by simp
              have q2 : ((U : Int) != (U : Int)) = false := by simp
              have q3 : ((aft p t U : Int) != (aft p t U : Int)) = false := by simp
              have q4 : ((t : Int) != (t : Int)) = false := by simp
              go_quiet (first | (go_at_call 19; exact Calls.quiet_of (free_any w.heap.size p t U _ (HP.out.ring.drewN _))) | (go_at_call 20; exact Calls.quiet_of (rfree_p p _ _ _ _ _ _ (HP.out.ref.drewN _))) | (go_at_call 21; exact Calls.quiet_of (used_any w.heap.size p t U _ (HP.out.ring.drewN _))) | (go_at_call 14; exact Calls.quiet_of (head_any w.heap.size p t U _ (HP.out.ring.drewN _))) | (go_at_call 12; exact Calls.quiet_of (tail_any w.heap.size p t U _ (HP.out.ring.drewN _))) | (go_at_call 22; exact Calls.quiet_of (rtail_any _ _ _ _ _ _ _ (HP.out.ref.drewN _) t HP.out.tail)))
              go_wp2
              go_roundw
              case rel => exact ⟨i + 1, t, U, _, by omega, by go_num, HP.out.drewN _⟩
              case measure => simp [intOf]; omega
    · go_wp2
      go_ret
      exact ⟨rfl, HR.out.below⟩

set_option maxRecDepth 100000 in
set_option maxHeartbeats 400000 in
theorem plays_long (j : Int) (a : Option Addr) (len cap : Nat) (w : World) (h : 400 < len) :
    Calls Try.prog 5 #[.int .i64 j, .slice a len cap] w fun e w' => e = .returned (.bool true) ∧ Below w.heap.size w w' := by
  go_enter Try.func5, Try.ntmps5
  go_wp2
  go_ret
  exact ⟨rfl, Below.refl _ w⟩

set_option maxRecDepth 100000 in
set_option maxHeartbeats 400000 in
theorem plays_none (j : Int) (a : Option Addr) (len cap : Nat) (w : World) (hl : len ≤ 400) (h : j < 40 ∨ 256 < j) :
    Calls Try.prog 5 #[.int .i64 j, .slice a len cap] w fun e w' => e = .returned (.bool true) ∧ Below w.heap.size w w' := by
  have HN := Lib.hid (new_no j w h)
  have HR := Lib.hid (rnew_no j w h)
  clear h
  go_enter Try.func5, Try.ntmps5
  go_wp2_with (first | (go_at_call 9; refine HN.out.mono ?_; rintro e w2 ⟨rfl, hw2⟩; rw [hw2]; clear hw2) | (go_at_call 15; refine HR.out.mono ?_; rintro e w2 ⟨rfl, hw2⟩; rw [hw2]; clear hw2))
  go_ret
  exact ⟨rfl, Below.refl _ w⟩

theorem plays_walk (j : Int) (a : Option Addr) (len cap : Nat) (z : (Nat → Bool) × (Nat → Int)) (w : World) (_ : -9223372036854775808 ≤ j ∧ j ≤ 9223372036854775807) (h : IsActs w a len z) :
    Calls Try.prog 5 #[.int .i64 j, .slice a len cap] w fun e w' => e = .returned (.bool true) ∧ Below w.heap.size w w' := by
  by_cases hl : len ≤ 400
  · by_cases hj : j < 40 ∨ 256 < j
    · exact plays_none j a len cap w hl hj
    · obtain ⟨p, hp⟩ : ∃ p : Nat, j = (p : Int) + 1 := ⟨(j - 1).toNat, by omega⟩
      subst hp
      exact plays_main p (by omega) (by omega) a len cap z w hl h
  · exact plays_long j a len cap w (by omega)
end Go.Proofs.Ytlccgphblbdjkaa
