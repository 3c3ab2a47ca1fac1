/-
  The walk of quernlaw12.RingApart: it returns true, of any number and slice of acts, and changes nothing that was there.
  Conditions: none.
-/
import Derived.Test.YtlccgphblbdjkaaMid
import Derived.Test.YtlccgphblbdjkaaRowWalk
namespace Go.Proofs.Ytlccgphblbdjkaa
open Go.RowKit
set_option linter.unusedVariables false

theorem aft_aft {p t m : Nat} (hp : 1 ≤ p) (i : Nat) (ht : 1 ≤ t) : aft p (aft p t m) i = aft p t (m + i) := by
  unfold aft
  rw [Nat.add_sub_cancel, Nat.mod_add_mod, Nat.add_assoc]
theorem aft_ne {p t i j : Nat} (hij : i < j) (hj : j < p) : aft p t i ≠ aft p t j := by
  unfold aft
  intro h
  have h1 : (t - 1 + i) % p = (t - 1 + i + (j - i)) % p := by rw [show t - 1 + i + (j - i) = t - 1 + j by omega]; omega
  rw [← Nat.mod_add_mod (t - 1 + i) p (j - i)] at h1
  have hr := Nat.mod_lt (t - 1 + i) (show p > 0 by omega)
  generalize (t - 1 + i) % p = r at h1 hr
  rcases Nat.lt_or_ge (r + (j - i)) p with h2 | h2
  · rw [Nat.mod_eq_of_lt h2] at h1; omega
  · rw [Nat.mod_eq_sub_mod h2, Nat.mod_eq_of_lt (by omega)] at h1; omega

/-- What holds at the head of the loop of RingApart. -/
structure AR (b p : Nat) (w : World) (t u : Nat) (a : Option Addr) (cap : Nat) (W : World) : Prop where
  ring : IsRing b p t u W
  row : Mid (b + 1) W a u cap (fun i => aft p t i)
  below : Below w.heap.size w W

theorem AR.drewN {b p : Nat} {w : World} {t u : Nat} {a : Option Addr} {cap : Nat} {W : World} (h : AR b p w t u a cap W) (k : Nat) : AR b p w t u a cap (W.drewN k) := ⟨h.ring.drewN k, h.row, below_drewN h.below k⟩
theorem AR.first {b p : Nat} {w : World} {t u : Nat} {a : Option Addr} {cap : Nat} {W : World} (h : AR b p w t u a cap W) (hu : 0 < u) : ∃ g off, a = some ⟨g, off, none⟩ ∧ W.cell? ⟨g, off, none⟩ = some (.int .i64 t) := by
  obtain ⟨g, off, ha, _, hc⟩ := h.row.at hu
  rw [aft_zero h.ring.tl h.ring.th] at hc
  exact ⟨g, off, ha, hc⟩

/-- What holds at the head of the loop over what was taken. -/
structure LR (b p : Nat) (w : World) (t u m S k : Nat) (a : Option Addr) (cap : Nat) (W : World) : Prop where
  ring : IsRing b p t (u + m) W
  row : Mid (b + 1) W a (u + k) cap (fun i => aft p t i)
  xrow : W.heap[S]? = some (.cells (ic (fun j => aft p t (u + j)) m) 3)
  apart : ∀ g o, a = some ⟨g, o, none⟩ → g ≠ S
  below : Below w.heap.size w W

theorem Mid.block_lt {B : Nat} {W : World} {a : Option Addr} {n cap : Nat} {z : Nat → Nat} (h : Mid B W a n cap z) : ∀ g o, a = some ⟨g, o, none⟩ → g ≠ W.heap.size := by
  intro g o e
  rcases h with ⟨h0, _, _⟩ | ⟨g', off, cur, ha, hB, hg, _⟩
  · rw [h0] at e; cases e
  · rw [ha] at e
    cases e
    have := (Array.getElem?_eq_some_iff.1 hg).1
    omega

theorem LR.drewN {b p : Nat} {w : World} {t u m S k : Nat} {a : Option Addr} {cap : Nat} {W : World} (h : LR b p w t u m S k a cap W) (q : Nat) : LR b p w t u m S k a cap (W.drewN q) :=
  ⟨h.ring.drewN q, h.row, h.xrow, h.apart, below_drewN h.below q⟩

theorem LR.next {b p : Nat} {w : World} {t u m S k : Nat} {a : Option Addr} {cap : Nat} {W : World} (h : LR b p w t u m S k a cap W) (hwb : w.heap.size ≤ b) (y : Nat) (hy : y = aft p t (u + k)) {a3 : Option Addr} {cap3 : Nat} {W3 : World} 
    (h1 : Mid (b + 1) W3 a3 (u + k + 1) cap3 (ext (fun i => aft p t i) (u + k) y)) (h2 : (W.alloc (.cells #[.int .i64 y] 3)).grownBy W3 (Value.slice a (u + k) cap).ownBlock)
    (h3 : ∃ g' o', a3 = some ⟨g', o', none⟩ ∧ (g' = (W.alloc (.cells #[.int .i64 y] 3)).heap.size ∨ ∃ o, a = some ⟨g', o, none⟩)) : LR b p w t u m S (k + 1) a3 cap3 W3 := by
  have hbk : ∀ g o, a = some ⟨g, o, none⟩ → b + 1 ≤ g := by
    intro g o e
    rcases h.row with ⟨h0, _, _⟩ | ⟨g', off, cur, ha, hB, _⟩
    · rw [h0] at e; cases e
    · rw [ha] at e; cases e; exact hB
  have key : ∀ g, g < W.heap.size → (∀ o, a ≠ some ⟨g, o, none⟩) → W3.heap[g]? = W.heap[g]? := by
    intro g hg hne
    rw [h2.block g (by simp; omega) ?_]
    · exact Below.heap_alloc _ _ _ hg
    · intro e
      rcases h.row with ⟨h0, _, _⟩ | ⟨g', off, cur, ha, hB, _⟩
      · rw [h0] at e; cases e
      · rw [ha] at e
        have : g = g' := by simpa [Value.ownBlock] using e
        subst this
        exact hne off ha
  have hbl := (Array.getElem?_eq_some_iff.1 h.ring.here).1
  have hSl := (Array.getElem?_eq_some_iff.1 h.xrow).1
  have hbw := h.below.size
  refine ⟨⟨(key b hbl (fun o e => by have := hbk b o e; omega)).trans h.ring.here, h.ring.pos, h.ring.most, h.ring.tl, h.ring.th, h.ring.used⟩, ?_, (key S hSl (fun o e => h.apart S o e rfl)).trans h.xrow, ?_, ?_⟩
  · refine h1.ext (fun i hi => ?_)
    by_cases e : i < u + k
    · exact ext_lt _ e
    · obtain rfl : i = u + k := by omega
      rw [ext_eq, hy]
  · intro g o e
    obtain ⟨g', o', ha3, hg'⟩ := h3
    rw [ha3] at e
    cases e
    rcases hg' with rfl | ⟨o2, ha⟩
    · simp; omega
    · exact h.apart g o2 ha
  · refine (h.below.alloc hbw (.cells #[.int .i64 y] 3)).grown h2 (by simp; omega) ?_
    intro r e
    rcases h.row with ⟨h0, _, _⟩ | ⟨g', off, cur, ha, hB, _⟩
    · rw [h0] at e; cases e
    · rw [ha] at e
      have : r = g' := by have : g' = r := by simpa [Value.ownBlock] using e
                          exact this.symm
      subst this
      omega

set_option maxRecDepth 100000 in
set_option maxHeartbeats 8000000 in
theorem apart_main (p : Nat) (hp1 : 39 ≤ p) (hp2 : p ≤ 255) (a : Option Addr) (len cap : Nat) (z : (Nat → Bool) × (Nat → Int)) (w : World) (hlen : len ≤ 400) (hz : IsActs w a len z) :
    Calls Try.prog 3 #[.int .i64 ((p : Int) + 1), .slice a len cap] w fun e w' => e = .returned (.bool true) ∧ Below w.heap.size w w' := by
  have HZ := Lib.hid hz
  clear hz
  have HN := Lib.hid (ring_p p w hp1 hp2)
  go_enter Try.func3, Try.ntmps3
  go_wp2_with (first | (go_at_call 9; refine (new_p p _ hp1 hp2).mono ?_; rintro e w2 ⟨rfl, hw2⟩; rw [hw2]; clear hw2))
  go_loopw [7, 8] (fun s v wr => ∃ (i t u : Nat) (a' : Option Addr) (cap' : Nat), i ≤ len ∧ v = .int .i64 i ∧ s = .slice a' u cap' ∧ AR w.heap.size p w t u a' cap' wr) (fun _ v _ => len - (intOf v).toNat)
  case atStart => exact ⟨0, 1, 0, none, 0, Nat.zero_le _, rfl, rfl, HN.out, Mid.nil _ _ _, (Below.refl _ w).alloc (Nat.le_refl _) _⟩
  case round =>
    obtain ⟨i, t, u, a', cap', hi, rfl, rfl, hr⟩ := hrel
    have hu := hr.ring.used
    have HR := Lib.hid hr
    clear hr HN
    by_cases hlt : i < len
    · have hz := HZ.out
      rcases hz with hz | ⟨blk, off, rfl, hblk, hz⟩
      · omega
      · obtain ⟨hcb, hcn, hb1, hb2⟩ := hz i hlt
        clear hz
        have hcb1 : wr.cell? ⟨blk, off + i * 2, none⟩ = some (.bool (z.1 i)) := (HR.out.below.cell (p := ⟨blk, off + i * 2, none⟩) hblk).trans hcb
        have hcn1 : wr.cell? ⟨blk, off + i * 2 + 1, none⟩ = some (.int .i64 (z.2 i)) := (HR.out.below.cell (p := ⟨blk, off + i * 2 + 1, none⟩) hblk).trans hcn
        have HCN : Hid (∀ W, Below w.heap.size w W → W.cell? ⟨blk, off + i * 2 + 1, none⟩ = some (.int .i64 (z.2 i))) := Lib.hid (fun W hb => (hb.cell (p := ⟨blk, off + i * 2 + 1, none⟩) hblk).trans hcn)
        clear hcb hcn
        have hl3 : (i : Int) < (len : Int) := by omega
        generalize z.2 i = x at *
        cases hg : z.1 i with
        | true =>
          rw [hg] at hcb1
          clear hg
          by_cases hx0 : x < 0
          · have hE : giveE u x = 2 := by unfold giveE; rw [if_pos hx0]
            have hT : giveT p t u x = t := by unfold giveT; rw [hE]; rfl
            have hU : giveU u x = u := by unfold giveU; rw [hE]; rfl
            go_wp2_with fail
            refine (give_at w.heap.size p t u x _ HR.out.ring _ t u hE hT hU).mono ?_
            rintro e w3 ⟨rfl, hm3⟩
            have HAR : Hid (AR w.heap.size p w t u a' cap' w3) := Lib.hid ⟨hm3.ring, HR.out.row.moved hm3 (by omega), HR.out.below.trans (hm3.below (Nat.le_refl _) HR.out.below.size)⟩
            clear hm3 HR hE hT hU
            go_wp2_with fail
            by_cases hu0 : 0 < u
            · obtain ⟨g0, o0, ha0, hc0⟩ := HAR.out.first hu0
              cases ha0
              have htt : ((t : Int) != (t : Int)) = false := by simp
              have hu1 : (0 : Int) < (u : Int) := by omega
              have hud : decide ((0 : Int) < (u : Int)) = true := by simpa using hu1
              have hud2 : decide (0 < u) = true := by simpa using hu0
              go_quiet ((go_at_call 12; exact Calls.quiet_of (tail_any w.heap.size p t u _ (HAR.out.ring.drewN _))))
              go_wp2
              go_roundw
              case rel => exact ⟨i + 1, t, u, _, _, by omega, by go_num, rfl, HAR.out.drewN _⟩
              case measure => simp [intOf]; omega
            · have hud : decide ((0 : Int) < (u : Int)) = false := by simp; omega
              have hud2 : decide (0 < u) = false := by simp; omega
              go_quiet (fail)
              go_wp2
              go_roundw
              case rel => exact ⟨i + 1, t, u, _, _, by omega, by go_num, rfl, HAR.out.drewN _⟩
              case measure => simp [intOf]; omega
          · by_cases hxu : (u : Int) < x
            · have hE : giveE u x = 120 := by unfold giveE; rw [if_neg hx0, if_pos hxu]
              have hT : giveT p t u x = t := by unfold giveT; rw [hE]; rfl
              have hU : giveU u x = u := by unfold giveU; rw [hE]; rfl
              go_wp2_with fail
              refine (give_at w.heap.size p t u x _ HR.out.ring _ t u hE hT hU).mono ?_
              rintro e w3 ⟨rfl, hm3⟩
              have HAR : Hid (AR w.heap.size p w t u a' cap' w3) := Lib.hid ⟨hm3.ring, HR.out.row.moved hm3 (by omega), HR.out.below.trans (hm3.below (Nat.le_refl _) HR.out.below.size)⟩
              clear hm3 HR hE hT hU
              go_wp2_with fail
              by_cases hu0 : 0 < u
              · obtain ⟨g0, o0, ha0, hc0⟩ := HAR.out.first hu0
                cases ha0
                have htt : ((t : Int) != (t : Int)) = false := by simp
                have hu1 : (0 : Int) < (u : Int) := by omega
                have hud : decide ((0 : Int) < (u : Int)) = true := by simpa using hu1
                have hud2 : decide (0 < u) = true := by simpa using hu0
                go_quiet ((go_at_call 12; exact Calls.quiet_of (tail_any w.heap.size p t u _ (HAR.out.ring.drewN _))))
                go_wp2
                go_roundw
                case rel => exact ⟨i + 1, t, u, _, _, by omega, by go_num, rfl, HAR.out.drewN _⟩
                case measure => simp [intOf]; omega
              · have hud : decide ((0 : Int) < (u : Int)) = false := by simp; omega
                have hud2 : decide (0 < u) = false := by simp; omega
                go_quiet (fail)
                go_wp2
                go_roundw
                case rel => exact ⟨i + 1, t, u, _, _, by omega, by go_num, rfl, HAR.out.drewN _⟩
                case measure => simp [intOf]; omega
            · obtain ⟨m, rfl⟩ := Int.eq_ofNat_of_zero_le (a := x) (by omega)
              have hE : giveE u m = 0 := by unfold giveE; rw [if_neg hx0, if_neg hxu]
              have hT : giveT p t u m = aft p t m := by unfold giveT; rw [hE]; rfl
              have hU : giveU u m = u - m := by unfold giveU; rw [hE]; rfl
              go_wp2_with fail
              refine (give_at w.heap.size p t u m _ HR.out.ring _ (aft p t m) (u - m) hE hT hU).mono ?_
              rintro e w3 ⟨rfl, hm3⟩
              have HMR := Lib.hid (HR.out.row.moved hm3 (by omega))
              have HRG := Lib.hid hm3.ring
              have HBL := Lib.hid (HR.out.below.trans (hm3.below (Nat.le_refl _) HR.out.below.size))
              have hcn3 := HCN.out w3 HBL.out
              have htl := HR.out.ring.tl
              have hmu : m ≤ u := by omega
              have hmu1 : (m : Int) ≤ (u : Int) := by omega
              have hcu := HMR.out.le
              clear hm3 HR hE hT hU
              by_cases hcap : cap' = m
              · obtain rfl : u = m := by omega
                subst hcap
                have HAR : Hid (AR w.heap.size p w (aft p t cap') 0 a' 0 w3) := Lib.hid ⟨by have := HRG.out; rw [Nat.sub_self] at this; exact this, HMR.out.cut_all _, HBL.out⟩
                clear HMR HRG HBL
                generalize aft p t cap' = T at *
                go_wp2_with fail
                go_quiet (fail)
                go_wp2
                go_roundw
                case rel => exact ⟨i + 1, T, 0, _, _, by omega, by go_num, rfl, HAR.out.drewN _⟩
                case measure => simp [intOf]; omega
              · obtain ⟨g, o, ha, hmid⟩ := HMR.out.cut hmu hcap
                cases ha
                have HAR : Hid (AR w.heap.size p w (aft p t m) (u - m) (some ⟨g, o + m, none⟩) (cap' - m) w3) := Lib.hid ⟨HRG.out, hmid.ext (fun i _ => (aft_aft (by omega) i htl).symm), HBL.out⟩
                clear HMR HRG HBL hmid
                go_wp2_with fail
                generalize aft p t m = T at *
                generalize u - m = U at *
                by_cases hu0 : 0 < U
                · obtain ⟨g0, o0, ha0, hc0⟩ := HAR.out.first hu0
                  cases ha0
                  have htt : ((T : Int) != (T : Int)) = false := by simp
                  have hu1 : (0 : Int) < (U : Int) := by omega
                  have hud : decide ((0 : Int) < (U : Int)) = true := by simpa using hu1
                  have hud2 : decide (0 < U) = true := by simpa using hu0
                  go_quiet ((go_at_call 12; exact Calls.quiet_of (tail_any w.heap.size p T U _ (HAR.out.ring.drewN _))))
                  go_wp2
                  go_roundw
                  case rel => exact ⟨i + 1, T, U, _, _, by omega, by go_num, rfl, HAR.out.drewN _⟩
                  case measure => simp [intOf]; omega
                · have hud : decide ((0 : Int) < (U : Int)) = false := by simp; omega
                  have hud2 : decide (0 < U) = false := by simp; omega
                  go_quiet (fail)
                  go_wp2
                  go_roundw
                  case rel => exact ⟨i + 1, T, U, _, _, by omega, by go_num, rfl, HAR.out.drewN _⟩
                  case measure => simp [intOf]; omega
        | false =>
          rw [hg] at hcb1
          clear hg
          by_cases hx1 : x < 1
          · go_wp2_with fail
            refine (take_low w.heap.size p t u x _ HR.out.ring hx1).mono ?_
            rintro e w3 ⟨rfl, k3, rfl⟩
            have HAR := Lib.hid (HR.out.drewN k3)
            have hcn3 := HCN.out _ HAR.out.below
            obtain ⟨W, hW⟩ : ∃ W, W = wr.drewN k3 := ⟨_, rfl⟩
            rw [← hW] at HAR hcn3 ⊢
            clear hW HR
            go_wp2_with fail
            refine wp_loop_rounds 1 ?_
            rw [rounds_succ]
            go_wp2_with fail
            by_cases hu0 : 0 < u
            · obtain ⟨g0, o0, ha0, hc0⟩ := HAR.out.first hu0
              cases ha0
              have htt : ((t : Int) != (t : Int)) = false := by simp
              have hu1 : (0 : Int) < (u : Int) := by omega
              have hud : decide ((0 : Int) < (u : Int)) = true := by simpa using hu1
              have hud2 : decide (0 < u) = true := by simpa using hu0
              go_quiet ((go_at_call 12; exact Calls.quiet_of (tail_any w.heap.size p t u _ (HAR.out.ring.drewN _))))
              go_wp2
              go_roundw
              case rel => exact ⟨i + 1, t, u, _, _, by omega, by go_num, rfl, HAR.out.drewN _⟩
              case measure => simp [intOf]; omega
            · have hud : decide ((0 : Int) < (u : Int)) = false := by simp; omega
              have hud2 : decide (0 < u) = false := by simp; omega
              go_quiet (fail)
              go_wp2
              go_roundw
              case rel => exact ⟨i + 1, t, u, _, _, by omega, by go_num, rfl, HAR.out.drewN _⟩
              case measure => simp [intOf]; omega
          · by_cases hxp : (p : Int) - u < x
            · go_wp2_with fail
              refine (take_much w.heap.size p t u x _ HR.out.ring hxp).mono ?_
              rintro e w3 ⟨rfl, k3, rfl⟩
              have HAR := Lib.hid (HR.out.drewN k3)
              have hcn3 := HCN.out _ HAR.out.below
              obtain ⟨W, hW⟩ : ∃ W, W = wr.drewN k3 := ⟨_, rfl⟩
              rw [← hW] at HAR hcn3 ⊢
              clear hW HR
              have hxq : decide (x ≤ (p : Int) - u) = false := by simp; omega
              go_wp2_with fail
              refine wp_loop_rounds 1 ?_
              rw [rounds_succ]
              go_wp2_with fail
              by_cases hu0 : 0 < u
              · obtain ⟨g0, o0, ha0, hc0⟩ := HAR.out.first hu0
                cases ha0
                have htt : ((t : Int) != (t : Int)) = false := by simp
                have hu1 : (0 : Int) < (u : Int) := by omega
                have hud : decide ((0 : Int) < (u : Int)) = true := by simpa using hu1
                have hud2 : decide (0 < u) = true := by simpa using hu0
                go_quiet ((go_at_call 12; exact Calls.quiet_of (tail_any w.heap.size p t u _ (HAR.out.ring.drewN _))))
                go_wp2
                go_roundw
                case rel => exact ⟨i + 1, t, u, _, _, by omega, by go_num, rfl, HAR.out.drewN _⟩
                case measure => simp [intOf]; omega
              · have hud : decide ((0 : Int) < (u : Int)) = false := by simp; omega
                have hud2 : decide (0 < u) = false := by simp; omega
                go_quiet (fail)
                go_wp2
                go_roundw
                case rel => exact ⟨i + 1, t, u, _, _, by omega, by go_num, rfl, HAR.out.drewN _⟩
                case measure => simp [intOf]; omega
            · obtain ⟨m, rfl⟩ := Int.eq_ofNat_of_zero_le (a := x) (by omega)
              have hm1 : 1 ≤ m := by omega
              have hm2 : m ≤ p - u := by omega
              have hmm : ((m : Int) != (m : Int)) = false := by simp
              go_wp2_with fail
              refine (take_does w.heap.size p t u m _ HR.out.ring hm1 hm2).mono ?_
              rintro e w3 ⟨rfl, hm3, hrow3⟩
              have HLR : Hid (LR w.heap.size p w t u m wr.heap.size 0 a' cap' w3) := Lib.hid ⟨hm3.ring, HR.out.row.moved hm3 (by omega), hrow3, HR.out.row.block_lt, HR.out.below.trans (hm3.below (Nat.le_refl _) HR.out.below.size)⟩
              have hcn3 := HCN.out _ HLR.out.below
              have htl := HR.out.ring.tl
              have hth := HR.out.ring.th
              have hSz : w.heap.size < wr.heap.size := (Array.getElem?_eq_some_iff.1 HR.out.ring.here).1
              clear hm3 hrow3 HR
              generalize wr.heap.size = S at *
              go_wp2_with fail
              go_loopw [7, 12] (fun s v wi => ∃ (k : Nat) (a2 : Option Addr) (cap2 : Nat), k ≤ m ∧ v = .int .i64 k ∧ s = .slice a2 (u + k) cap2 ∧ LR w.heap.size p w t u m S k a2 cap2 wi) (fun _ v _ => m - (intOf v).toNat)
              case atStart => exact ⟨0, a', cap', Nat.zero_le _, rfl, rfl, HLR.out⟩
              case round =>
                obtain ⟨k, a2, cap2, hk, rfl, rfl, hL⟩ := hrel
                have HL := Lib.hid hL
                clear hL HLR hcn3
                by_cases hkm : k < m
                · have hcx : wr.cell? ⟨S, k, none⟩ = some (.int .i64 (aft p t (u + k))) := by have := ic_cell HL.out.xrow k hkm; rwa [Nat.zero_add] at this
                  have hab := aft_bd p t (u + k) (by omega)
                  have hab1 := hab.1
                  have hab2 := hab.2
                  clear hab
                  have HNE : Hid (∀ j, j < u + k → ((aft p t j : Int) == (aft p t (u + k) : Int)) = false) := Lib.hid (fun j hj => by have := aft_ne (p := p) (t := t) hj (by omega); simp; omega)
                  have HYE : Hid (aft p t (u + k) = aft p t (u + k)) := Lib.hid rfl
                  have HNX := Lib.hid (fun (W : World) (hL : LR w.heap.size p w t u m S k a2 cap2 W) (a3 : Option Addr) (cap3 : Nat) (W3 : World) h1 h2 h3 => hL.next (Nat.le_refl _) (aft p t (u + k)) rfl h1 h2 h3 (a3 := a3) (cap3 := cap3) (W3 := W3))
                  generalize aft p t (u + k) = y at hcx hab1 hab2 HNE HNX
                  clear HYE
                  obtain ⟨wo, hwo⟩ : ∃ wo : World, wo = wr := ⟨_, rfl⟩
                  rw [← hwo] at HL hcx ⊢
                  clear hwo
                  have hl4 : (k : Int) < (m : Int) := by omega
                  go_wp2_with fail
                  go_loopw [13] (fun v wi => ∃ j : Nat, j ≤ u + k ∧ v = .int .i64 j ∧ ∃ q, wi = wo.drewN q) (fun v _ => u + k - (intOf v).toNat)
                  case atStart => exact ⟨0, Nat.zero_le _, rfl, 0, rfl⟩
                  case round =>
                    obtain ⟨j, hj, rfl, q, rfl⟩ := hrel
                    by_cases hjk : j < u + k
                    · obtain ⟨g, o, rfl, hBg, hcu⟩ := HL.out.row.at hjk
                      have c1 : (wo.drewN q).cell? ⟨g, o + j, none⟩ = some (.int .i64 (aft p t j)) := hcu
                      have c2 : (wo.drewN q).cell? ⟨S, k, none⟩ = some (.int .i64 y) := hcx
                      have hne := HNE.out j hjk
                      have hj1 : (j : Int) < (u : Int) + (k : Int) := by omega
                      have hj2 : (j : Int) < ((u + k : Nat) : Int) := by omega
                      obtain ⟨W, hW⟩ : ∃ W, W = wo.drewN q := ⟨_, rfl⟩
                      rw [← hW] at c1 c2 ⊢
                      have HW := Lib.hid hW
                      clear hW hcu hcx HNX HNE
                      generalize aft p t j = yj at *
                      go_wp2
                      go_quiet (fail)
                      go_wp2
                      go_roundw
                      case rel => exact ⟨j + 1, by omega, by go_num, q + nq, by rw [HW.out, World.drewN_drewN]⟩
                      case measure => simp [intOf]; omega
                    · have c2 : (wo.drewN q).cell? ⟨S, k, none⟩ = some (.int .i64 y) := hcx
                      have HLW := Lib.hid (HL.out.drewN q)
                      obtain ⟨W, hW⟩ : ∃ W, W = wo.drewN q := ⟨_, rfl⟩
                      rw [← hW] at c2 HLW ⊢
                      clear hW hcx HNE
                      have hWs : w.heap.size + 1 ≤ W.heap.size := (Array.getElem?_eq_some_iff.1 HLW.out.ring.here).1
                      go_wp2_with (at_builtin; refine wpList_append_mid (B := w.heap.size + 1) rfl (.tmp 157) (.tmp 162) rfl a2 (u + k) cap2 (fun i => aft p t i) W.heap.size y rfl rfl (HLW.out.row.keep ((Below.refl _ W).alloc (Nat.le_refl _) _)) (by omega) (by simp; omega) (heap_alloc_new W _) ?_; intro a3 cap3 W3 hmid hgrow hat)
                      have HL3 := Lib.hid (HNX.out W HLW.out a3 cap3 W3 hmid hgrow hat)
                      clear hmid hgrow hat HLW HNX
                      go_roundw
                      case rel => exact ⟨k + 1, a3, cap3, by omega, by go_num, rfl, HL3.out⟩
                      case measure => simp [intOf]; omega
                · obtain rfl : k = m := by omega
                  have HAR : Hid (AR w.heap.size p w t (u + k) a2 cap2 wr) := Lib.hid ⟨HL.out.ring, HL.out.row, HL.out.below⟩
                  clear HL
                  generalize u + k = U at *
                  go_wp2_with fail
                  by_cases hu0 : 0 < U
                  · obtain ⟨g0, o0, ha0, hc0⟩ := HAR.out.first hu0
                    cases ha0
                    have htt : ((t : Int) != (t : Int)) = false := by simp
                    have hu1 : (0 : Int) < (U : Int) := by omega
                    have hud : decide ((0 : Int) < (U : Int)) = true := by simpa using hu1
                    have hud2 : decide (0 < U) = true := by simpa using hu0
                    go_quiet ((go_at_call 12; exact Calls.quiet_of (tail_any w.heap.size p t U _ (HAR.out.ring.drewN _))))
                    go_wp2
                    go_roundw
                    case rel => exact ⟨i + 1, t, U, _, _, by omega, by go_num, rfl, HAR.out.drewN _⟩
                    case measure => simp [intOf]; omega
                  · have hud : decide ((0 : Int) < (U : Int)) = false := by simp; omega
                    have hud2 : decide (0 < U) = false := by simp; omega
                    go_quiet (fail)
                    go_wp2
                    go_roundw
                    case rel => exact ⟨i + 1, t, U, _, _, by omega, by go_num, rfl, HAR.out.drewN _⟩
                    case measure => simp [intOf]; omega
    · go_wp2_with fail
      refine (awake_any _).mono ?_
      rintro e w5 ⟨rfl, hb5⟩
      have HB5 := Lib.hid (HR.out.below.trans (hb5.mono HR.out.below.size))
      clear hb5
      go_wp2
      go_ret
      exact ⟨rfl, HB5.out⟩

set_option maxRecDepth 100000 in
set_option maxHeartbeats 400000 in
theorem apart_out (j : Int) (a : Option Addr) (len cap : Nat) (w : World) (h : j < 40 ∨ 256 < j ∨ 400 < len) :
    Calls Try.prog 3 #[.int .i64 j, .slice a len cap] w fun e w' => e = .returned (.bool true) ∧ Below w.heap.size w w' := by
  by_cases h1 : j < 40
  · go_enter Try.func3, Try.ntmps3
    go_wp2_with (go_at_call 8; refine (awake_any _).mono ?_; rintro e w5 ⟨rfl, hb5⟩; have HB5 := Lib.hid hb5; clear hb5)
    go_ret
    exact ⟨rfl, HB5.out⟩
  · by_cases h2 : 256 < j
    · clear h
      go_enter Try.func3, Try.ntmps3
      go_wp2_with (go_at_call 8; refine (awake_any _).mono ?_; rintro e w5 ⟨rfl, hb5⟩; have HB5 := Lib.hid hb5; clear hb5)
      go_ret
      exact ⟨rfl, HB5.out⟩
    · have h3 : 400 < len := by omega
      clear h
      go_enter Try.func3, Try.ntmps3
      go_wp2_with (go_at_call 8; refine (awake_any _).mono ?_; rintro e w5 ⟨rfl, hb5⟩; have HB5 := Lib.hid hb5; clear hb5)
      go_ret
      exact ⟨rfl, HB5.out⟩

theorem apart_walk (j : Int) (a : Option Addr) (len cap : Nat) (z : (Nat → Bool) × (Nat → Int)) (w : World) (_ : -9223372036854775808 ≤ j ∧ j ≤ 9223372036854775807) (h : IsActs w a len z) :
    Calls Try.prog 3 #[.int .i64 j, .slice a len cap] w fun e w' => e = .returned (.bool true) ∧ Below w.heap.size w w' := by
  by_cases hj : j < 40 ∨ 256 < j ∨ 400 < len
  · exact apart_out j a len cap w hj
  · obtain ⟨p, hp⟩ : ∃ p : Nat, j = (p : Int) + 1 := ⟨(j - 1).toNat, by omega⟩
    subst hp
    exact apart_main p (by omega) (by omega) a len cap z w (by omega) h
end Go.Proofs.Ytlccgphblbdjkaa
