/-
  The contract of paths.Indirect, by a sum over the pointers.
  Conditions: none.
-/
import Derived.Test.YtjniajojbnhmgaaOfA
import Derived.Lib.MinMax
namespace Go.Proofs.Ytjniajojbnhmgaa
open Go.RowKit Go.Shelf
attribute [local go_sem] Oper.semAt_some
set_option linter.unusedVariables false

/-- How many blocks of so many there are, if each holds s of l. -/
def up (l s : Int) : Int := (l + s - 1) / s
def part (l : Int) : Nat → Int
  | 0 => 0
  | j + 1 => part l j + up l (spn (j + 1 : Nat))
def lft (c : Int) (x : Nat) : Int := min (c - fst x) (spn (lev x))
def per (c : Int) (x : Nat) : Int := part (lft c x) (lev x).toNat
def tot (c : Int) : List Nat → Int
  | [] => 0
  | x :: l => per c x + tot c l

theorem tot_snoc (c : Int) (x : Nat) : ∀ pre, tot c (pre ++ [x]) = tot c pre + per c x
  | [] => by simp [tot]
  | y :: l => by simp only [List.cons_append, tot, tot_snoc c x l]; omega

theorem up_bd {l s : Int} (h0 : 0 ≤ l) (h1 : l ≤ 65536) (hs : s = 64 ∨ s = 4096 ∨ s = 262144) : 0 ≤ up l s ∧ up l s ≤ 1024 := by
  unfold up; rcases hs with rfl | rfl | rfl <;> omega
theorem spn_hi {j : Nat} (h : j < 3) : spn (j + 1 : Nat) = 64 ∨ spn (j + 1 : Nat) = 4096 ∨ spn (j + 1 : Nat) = 262144 := by
  have : j = 0 ∨ j = 1 ∨ j = 2 := by omega
  rcases this with rfl | rfl | rfl <;> decide
theorem part_bd {l : Int} (h0 : 0 ≤ l) (h1 : l ≤ 65536) : ∀ j : Nat, j ≤ 3 → 0 ≤ part l j ∧ part l j ≤ 1024 * j
  | 0, _ => by simp [part]
  | j + 1, h => by
    have h2 := part_bd h0 h1 j (by omega)
    have h3 := up_bd h0 h1 (spn_hi (j := j) (by omega))
    unfold part
    omega
theorem tot_bd {c : Int} (hc : c ≤ 65536) : ∀ pre : List Nat, (∀ y ∈ pre, 0 < lft c y) → 0 ≤ tot c pre ∧ tot c pre ≤ 4096 * pre.length
  | [], _ => by simp [tot]
  | x :: l, h => by
    have h2 := tot_bd hc l (fun y hy => h y (List.mem_cons_of_mem _ hy))
    have h3 := h x (List.mem_cons_self ..)
    have h4 : lft c x ≤ 65536 := by unfold lft; omega
    have h5 := lev_bd x
    have h6 := part_bd (l := lft c x) (by omega) h4 (lev x).toNat (by omega)
    simp only [tot, per, List.length_cons]
    omega

/-- The variables of Indirect, in memory. -/
structure IVars (c : Int) (w : World) (t : Int) (W : World) : Prop where
  box : W.heap[w.heap.size]? = some (.cells #[.int .i64 c] 3)
  sum : W.heap[w.heap.size + 1]? = some (.cells #[.int .i64 t] 3)
  below : Below w.heap.size w W

theorem IVars.kept {c : Int} {w : World} {t : Int} {B : Nat} (hB : w.heap.size ≤ B) {A A' : World} {row : Option Nat} (h : IVars c w t A) (hg : A.grownBy A' row)
    (hr : ∀ r, row = some r → B ≤ r ∧ ∃ o : Obj, A.heap[r]? = some o ∧ o.isCells = false) : IVars c w t A' :=
  ⟨heap_kept hg (fun r e => (hr r e).2) h.box, heap_kept hg (fun r e => (hr r e).2) h.sum, h.below.grown hg h.below.size (fun k e => Nat.le_trans hB (hr k e).1)⟩
theorem IVars.set {c : Int} {w : World} {t : Int} {W : World} (h : IVars c w t W) (u : Int) : IVars c w u (W.setCell ⟨w.heap.size + 1, 0, none⟩ (.int .i64 u)) :=
  ⟨(heap_setCell_other _ _ _ _ (by simp)).trans h.box, heap_setCell_same W (w.heap.size + 1) 0 _ 3 _ h.sum, h.below.setCell (p := ⟨w.heap.size + 1, 0, none⟩) (by simp) _⟩
theorem IVars.drew {c : Int} {w : World} {t : Int} {W : World} (h : IVars c w t W) : IVars c w t { W with drawn := W.drawn + 1 } :=
  ⟨h.box, h.sum, ⟨h.below.os, h.below.tape, h.below.output, h.below.size, h.below.block⟩⟩
theorem below_draw {B : Nat} {A W : World} (h : Below B A W) : Below B A { W with drawn := W.drawn + 1 } := ⟨h.os, h.tape, h.output, h.size, h.block⟩

/-- What holds at the head of Indirect's inner loop. -/
structure IRel (c : Int) (w W1 : World) (T l : Int) (N j : Nat) (wr : World) : Prop where
  le : j ≤ N
  vars : IVars c w (T + part l j) wr
  keeps : KeepsOthers W1 wr
  below : Below 0 W1 wr

set_option maxRecDepth 100000 in
set_option maxHeartbeats 2000000 in
theorem indirect_raw (b : Int) (w : World) : Calls Try.prog 26 #[.int .i64 b] w fun e w' => ∃ pre, e = .returned (.int .i64 (tot (min (max b 0) 65536) pre)) ∧ Below w.heap.size w w' ∧ (∀ y ∈ pre, 0 < lft (min (max b 0) 65536) y) ∧
    (pre = List.range 11 ∨ ∃ x, pre ++ [x] <+: List.range 11 ∧ lft (min (max b 0) 65536) x ≤ 0) := by
  obtain ⟨m, hm⟩ : ∃ m, max b 0 = m := ⟨_, rfl⟩
  obtain ⟨c, hc⟩ : ∃ c, min m 65536 = c := ⟨_, rfl⟩
  rw [hm, hc]
  have hc0 : 0 ≤ c := by omega
  have hc1 : c ≤ 65536 := by omega
  refine callsIn_wide (n := 10).1 ?_
  refine callsIn_of_wp_marks Try.func26 rfl trivial ?_ rfl
  refine wpIn_wide.2 ?_
  simp only [Try.ntmps26, List.size_toArray, List.length_cons, List.length_nil, Nat.reduceAdd, Nat.reduceSub, Array.replicate_succ, Array.replicate_zero, List.push_toArray, List.append_toArray, List.nil_append, List.cons_append]
  go_wp2_with (go_at_call 29; refine (ptrs_any _).mono ?_; rintro e w2 ⟨rfl, hw2⟩; rw [hw2]; clear hw2)
  clear hm hc
  have V0 : Hid (IVars c w 0 ((w.alloc (.cells #[.int .i64 c] 3)).alloc (.cells #[.int .i64 0] 3))) :=
    Lib.hid ⟨heap_alloc2_old _ _ _, heap_alloc2_new _ _ _, ((Below.refl w.heap.size w).alloc (Nat.le_refl _) _).alloc (by simp) _⟩
  obtain ⟨W0, hW0⟩ : ∃ W0, W0 = (w.alloc (.cells #[.int .i64 c] 3)).alloc (.cells #[.int .i64 0] 3) := ⟨_, rfl⟩
  have hsz : W0.heap.size = w.heap.size + 1 + 1 := by rw [hW0]; simp
  rw [← hW0] at V0 ⊢
  clear hW0
  refine wpIn_wide (n := 10).1 ?_
  refine wpIn_rangeFunc_ownF rfl (by omega) (gf := 31) (lb := #[]) rfl trivial (enters_of Try.func31 (by kernel_rfl) rfl)
    (ptr_stops (10 - 1) (by omega) 0 W0) belowK_t (belowK_b (by omega)) (Below.refl _ _) (fun _ => rfl)
    (fun pre W => (∀ x ∈ pre, 0 < lft c x) ∧ IVars c w (tot c pre) W)
    (fun e pre W => e = .exit 0 ∧ ∃ ini x, pre = ini ++ [x] ∧ (∀ y ∈ ini, 0 < lft c y) ∧ lft c x ≤ 0 ∧ IVars c w (tot c ini) W)
    (fun s A A' row hs hg hr => ⟨hs.1, hs.2.kept (by omega) hg hr⟩) (fun e s A A' row hs hg hr => ⟨hs.1, let ⟨ini, x, h1, h2, h3, h4⟩ := hs.2; ⟨ini, x, h1, h2, h3, h4.kept (by omega) hg hr⟩⟩) ⟨(fun x h => by cases h), V0.out⟩
    (fun x => { tmps := #[.int .i64 b, .pointer (some ⟨w.heap.size, 0, none⟩), .int .i64 0, .pointer (some ⟨w.heap.size + 1, 0, none⟩), .int .i64 x, .int .i64 (fst x), undef, undef, .int .i64 b, .int .i64 m, .int .i64 c, .func (.func 31) #[] #[], .int .i64 x, .int .i64 (fst x),
      undef, undef, undef, undef, undef, undef, undef, undef, undef, undef, undef, undef, undef, undef, undef, undef, undef, undef, undef, undef, undef, undef, undef, undef, undef, undef], defers := [] }) ?assign ?body ?done ?stop
  case assign =>
    intro l x W K hK
    gi_wp2
    exact hK
  case body =>
    rintro l pre x W1 ⟨hall, hV⟩ hlen
    have htb := tot_bd hc1 pre hall
    have HA := Lib.hid hall
    have hfl := fst_le x
    have hsb := spn_bd (lev x)
    have hlb := lev_bd x
    have HTS := Lib.hid (tot_snoc c x pre)
    have HPE : Hid (per c x = part (lft c x) (lev x).toNat) := Lib.hid rfl
    have hlft : min (c - fst x) (spn (lev x)) = lft c x := rfl
    have HV := Lib.hid hV.drew
    obtain ⟨W2, hW2⟩ : ∃ W2 : World, W2 = { W1 with drawn := W1.drawn + 1 } := ⟨_, rfl⟩
    have HK2 : Hid (KeepsOthers W1 W2) := by rw [hW2]; exact Lib.hid (KeepsOthers.drew W1)
    have HB2 : Hid (Below 0 W1 W2) := by rw [hW2]; exact Lib.hid (below_draw (Below.refl _ _))
    clear hall hV
    generalize hT : tot c pre = T at *
    generalize hE : lft c x = e at *
    generalize hL : lev x = L at *
    generalize hS : spn L = S at *
    generalize hF : fst x = F at *
    have hw1 : IntKind.i64.wrap (c - F) = c - F := IntWalk.i64_in _ (by omega)
    have HLV : Hid (∀ W, Calls Try.prog 18 #[.int .i64 x] W fun e w' => e = .returned (.int .i64 L) ∧ w' = W) := Lib.hid (fun W => by have := level_any x W; rw [hL] at this; exact this)
    have HSP : Hid (∀ W, Calls Try.prog 20 #[.int .i64 L] W fun e w' => e = .returned (.int .i64 S) ∧ w' = W) := Lib.hid (fun W => by have := span_any L W; rw [hS] at this; exact this)
    gi_wp2
    refine round_still_tail 7 (by kernel_rfl) (by kernel_rfl) (by kernel_rfl) ?_
    simp only [List.take_succ_cons, List.take_zero, List.drop_succ_cons, List.drop_zero]
    rw [← hW2] at HV ⊢
    clear hW2
    have hcb := cell_of_one' HV.out.box
    repeat still_step
    still_call (HLV.out _)
    still_call (HSP.out _)
    repeat still_step
    refine wpStill_nil ?_
    go_wp2
    refine ⟨rfl, ?_⟩
    clear hcb hw1
    go_simp
    by_cases hl0 : e ≤ 0
    · gi_wp2
      exact ⟨HK2.out, rfl, pre, x, rfl, HA.out, by rw [hE]; exact hl0, by rw [hT]; exact HV.out⟩
    · have hl1 : 0 < e := by omega
      have hl2 : e ≤ 65536 := by omega
      obtain ⟨N, hN⟩ : ∃ N, N = L.toNat := ⟨_, rfl⟩
      have hN3 : N ≤ 3 := by omega
      have HLN : Hid (-1 ≤ L ∧ L ≤ 3 ∧ N = L.toNat) := Lib.hid ⟨by omega, by omega, hN⟩
      rw [← hN] at HPE
      clear hN
      gi_wp2
      gi_loopw [7] (fun v wr => ∃ j : Nat, v = .int .i64 ((j : Int) + 1) ∧ IRel c w W1 T e N j wr) (fun v _ => (4 - intOf v).toNat)
      case atStart => exact ⟨0, rfl, Nat.zero_le _, by rw [show T + part e 0 = T by simp [part]]; exact HV.out, HK2.out, HB2.out⟩
      case round =>
        obtain ⟨j, rfl, hR⟩ := hrel
        have hjN := hR.le
        have HR := Lib.hid hR
        have hpb := part_bd (l := e) (by omega) hl2 j (by omega)
        clear hR HV HK2 HB2
        by_cases hlt : (j : Int) + 1 ≤ L
        · have hj3 : j < 3 := by omega
          have hs3 := spn_hi hj3
          have hub := up_bd (l := e) (by omega) hl2 hs3
          have HPS : Hid (part e (j + 1) = part e j + up e (spn (j + 1 : Nat))) := Lib.hid rfl
          have HPS2 : Hid (T + part e (j + 1) = T + part e j + up e (spn (j + 1 : Nat))) := Lib.hid (by rw [HPS.out]; omega)
          have hupe : (e + spn (j + 1 : Nat) - 1).tdiv (spn (j + 1 : Nat)) = up e (spn (j + 1 : Nat)) := by
            unfold up; rw [Int.tdiv_eq_ediv_of_nonneg (by omega)]
          have HSJ : Hid (∀ W, Calls Try.prog 20 #[.int .i64 ((j : Int) + 1)] W fun e w' => e = .returned (.int .i64 (spn (j + 1 : Nat))) ∧ w' = W) := Lib.hid (fun W => by have := span_any ((j : Int) + 1) W; rw [show (j : Int) + 1 = ((j + 1 : Nat) : Int) by omega] at this ⊢; exact this)
          have HV2 := Lib.hid HR.out.vars.drew
          obtain ⟨W3, hW3⟩ : ∃ W3 : World, W3 = { wr with drawn := wr.drawn + 1 } := ⟨_, rfl⟩
          have HK3 : Hid (KeepsOthers W1 W3) := by rw [hW3]; exact Lib.hid (HR.out.keeps.trans (KeepsOthers.drew wr))
          have HB3 : Hid (Below 0 W1 W3) := by rw [hW3]; exact Lib.hid (below_draw HR.out.below)
          clear HR
          generalize part e j = R at *
          generalize hY : spn (j + 1 : Nat) = Y at *
          generalize hU : up e Y = U at *
          have hY0 : Y ≠ 0 := by omega
          have hwa : IntKind.i64.wrap (e + Y) = e + Y := IntWalk.i64_in _ (by omega)
          have hwb : IntKind.i64.wrap (e + Y - 1) = e + Y - 1 := IntWalk.i64_in _ (by omega)
          have hwc : IntKind.i64.wrap U = U := IntWalk.i64_in _ (by omega)
          have hwd : IntKind.i64.wrap (T + R + U) = T + R + U := IntWalk.i64_in _ (by omega)
          gi_wp2_with (refine ⟨trivial, ?_⟩; gi_at_call 18; refine (CallsIn.inRound l (callsIn_wide.2 (HLV.out _))).mono ?_; rintro e w1 ⟨rfl, hw1⟩; rw [hw1]; clear hw1)
          refine round_still_tail 10 (by kernel_rfl) (by kernel_rfl) (by kernel_rfl) ?_
          simp only [List.take_succ_cons, List.take_zero, List.drop_succ_cons, List.drop_zero]
          rw [← hW3] at HV2 ⊢
          clear hW3
          have hcs := cell_of_one' HV2.out.sum
          have hzs := frozen_of_row _ _ 0 _ _ HV2.out.sum
          repeat still_step
          still_call (HSJ.out _)
          repeat still_step
          still_call (HSJ.out _)
          repeat still_step
          refine wpStill_nil ?_
          go_wp2
          refine ⟨rfl, ?_⟩
          have HV4 := Lib.hid (HV2.out.set (T + R + U))
          have HK4 := Lib.hid (HK3.out.trans (KeepsOthers.setCell W3 ⟨w.heap.size + 1, 0, none⟩ (.int .i64 (T + R + U))))
          have HB4 := Lib.hid (HB3.out.setCell (p := ⟨w.heap.size + 1, 0, none⟩) (Nat.zero_le _) (.int .i64 (T + R + U)))
          obtain ⟨W4, hW4⟩ : ∃ W4, W4 = W3.setCell ⟨w.heap.size + 1, 0, none⟩ (.int .i64 (T + R + U)) := ⟨_, rfl⟩
          rw [← hW4] at HV4 HK4 HB4 ⊢
          clear hW4 hcs hzs HV2 HK3 HB3 hwa hwb hwc hwd hupe
          go_simp
          gi_wp2
          go_roundw
          case rel => exact ⟨j + 1, by go_num, by have := HLN.out; omega, by rw [HPS2.out]; exact HV4.out, HK4.out, HB4.out⟩
          case measure => simp [intOf]; omega
        · gi_wp2_with (refine ⟨trivial, ?_⟩; gi_at_call 18; refine (CallsIn.inRound l (callsIn_wide.2 (HLV.out _))).mono ?_; rintro e w1 ⟨rfl, hw1⟩; rw [hw1]; clear hw1)
          obtain rfl : j = N := by have := HLN.out; omega
          refine ⟨HR.out.keeps, HR.out.below, ?_, ?_⟩
          · intro y hy
            rcases List.mem_append.1 hy with hy | hy
            · exact HA.out y hy
            · obtain rfl : y = x := by simpa using hy
              rw [hE]; exact hl1
          · rw [HTS.out, HPE.out]; exact HR.out.vars
  case done =>
    rintro D ys W hD rfl ⟨hall, hV⟩ hK
    have hcr := cell_of_one' hV.sum
    have HA := Lib.hid hall
    have HV := Lib.hid hV
    have HK := Lib.hid hK
    clear hV hK hall
    generalize hT : tot c (List.range 11) = T at *
    go_wp2
    refine ⟨by simp, .inl ⟨_, _, rfl, run_takeDeferred HK.out, ?_⟩⟩
    refine ⟨.int .i64 T, ?_, List.range 11, by rw [hT], HV.out.below.trans (belowK_b (w := w) (Nat.le_refl _) _ D _ _ (by omega) HK.out rfl rfl), HA.out, .inl rfl⟩
    simp [results, Try.f26, go_sem]
  case stop =>
    rintro D c' pre W hD hSp ⟨rfl, ini, x, hpre, hini, hlx, hV⟩ hK
    have hcr := cell_of_one' hV.sum
    have HA := Lib.hid hini
    have HV := Lib.hid hV
    have HK := Lib.hid hK
    have HSP : Hid (ini ++ [x] <+: List.range 11) := Lib.hid (hpre ▸ hSp)
    clear hV hK hini hSp hpre
    generalize hT : tot c ini = T at *
    gi_wp2
    go_wp2
    refine ⟨by simp, .inl ⟨_, _, rfl, run_takeDeferred HK.out, ?_⟩⟩
    refine ⟨.int .i64 T, ?_, ini, by rw [hT], HV.out.below.trans (belowK_b (w := w) (Nat.le_refl _) _ D _ _ (by omega) HK.out rfl rfl), HA.out, .inr ⟨x, HSP.out, hlx⟩⟩
    simp [results, Try.f26, go_sem]
end Go.Proofs.Ytjniajojbnhmgaa
