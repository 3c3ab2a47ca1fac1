/-
  The walk of quernlaw04.BitsCount: it returns true, of any block and number, and changes nothing that was there.
  Conditions: none.
-/
import Derived.Test.YtiajohnnmnoijaaAll
import Derived.Test.YtiajohnnmnoijaaAwake
import Derived.StillTailTactics
import Derived.OrdersHeld
import Derived.Deep.RegionHeld3
namespace Go.Proofs.Ytiajohnnmnoijaa
open Go.RowKit Go.Shelf
attribute [local go_sem] Oper.semAt_some run_equalIn_top
set_option linter.unusedVariables false

theorem has_val (f : Nat → Nat) (hf : Bytes f) (i : Int) (w : World) (b : Bool) (h : hasB f i = b) :
    Calls Try.prog 17 #[.agg (bc f), .int .i64 i] w fun e w' => e = .returned (.bool b) ∧ Below w.heap.size w w' := by subst h; exact has_any f hf i w

/-- A block of cells is as it was where new blocks are laid and a block that is no cells is turned. -/
theorem heap_kept {A B : World} {row : Option Nat} (hg : A.grownBy B row) (hr : ∀ r, row = some r → ∃ o : Obj, A.heap[r]? = some o ∧ o.isCells = false) {g : Nat} {c : Array Value} {t : TypeId} {fr : Nat × Nat}
    (h : A.heap[g]? = some (.cells c t fr)) : B.heap[g]? = some (.cells c t fr) := by
  rw [hg.block g (Array.getElem?_eq_some_iff.1 h).1 ?_]
  · exact h
  · intro e
    obtain ⟨o, ho, hc⟩ := hr g e.symm
    rw [h] at ho
    cases Option.some.inj ho
    cases hc

theorem keeps_of_below {A B : World} (h : Below A.heap.size A B) : KeepsOthers A B :=
  ⟨h.size, fun k o hk _ => (h.block k (Array.getElem?_eq_some_iff.1 hk).1).trans hk⟩

/-- How many of some numbers are below n. -/
def below (n : Int) (l : List Nat) : Nat := (l.filter fun x : Nat => decide ((x : Int) < n)).length
theorem below_snoc (n : Int) (l : List Nat) (x : Nat) : below n (l ++ [x]) = below n l + if (x : Int) < n then 1 else 0 := by
  unfold below
  rw [List.filter_append]
  by_cases h : (x : Int) < n <;> simp [h]
theorem below_le (n : Int) (l : List Nat) : below n l ≤ l.length := List.length_filter_le _ _

/-- The variables of BitsCount, in memory. -/
structure CVars (f : Nat → Nat) (n : Int) (w : World) (S : Nat) (v : Int) (W : World) : Prop where
  b : W.heap[w.heap.size]? = some (.cells (bc f) 23)
  num : W.heap[w.heap.size + 1]? = some (.cells #[.int .i64 n] 3)
  res : W.heap[w.heap.size + 1 + 1]? = some (.cells #[.bool false] 4)
  sum : W.heap[S]? = some (.cells #[.int .i64 v] 3)
  below : Below w.heap.size w W

/-- Those that the last statement reads. -/
structure CV3 (f : Nat → Nat) (n : Int) (w : World) (S : Nat) (v : Int) (W : World) : Prop where
  b : W.heap[w.heap.size]? = some (.cells (bc f) 23)
  num : W.heap[w.heap.size + 1]? = some (.cells #[.int .i64 n] 3)
  sum : W.heap[S]? = some (.cells #[.int .i64 v] 3)
theorem CVars.three {f : Nat → Nat} {n : Int} {w : World} {S : Nat} {v : Int} {W : World} (h : CVars f n w S v W) : CV3 f n w S v W := ⟨h.b, h.num, h.sum⟩

theorem CVars.own {f : Nat → Nat} {n : Int} {w : World} {S B : Nat} {v : List Nat → Int} {I : List Nat → Prop} (hB : w.heap.size ≤ B) : OwnFrom B (fun pre W => I pre ∧ CVars f n w S (v pre) W) :=
  fun s A A' row hs hg hr => ⟨hs.1, heap_kept hg (fun r e => (hr r e).2) hs.2.b, heap_kept hg (fun r e => (hr r e).2) hs.2.num, heap_kept hg (fun r e => (hr r e).2) hs.2.res, heap_kept hg (fun r e => (hr r e).2) hs.2.sum,
    hs.2.below.grown hg hs.2.below.size (fun k e => Nat.le_trans hB (hr k e).1)⟩

theorem CVars.get {f : Nat → Nat} {n : Int} {w : World} {S : Nat} {v : Int} {W W2 : World} (h : CVars f n w S v W) (h2 : Below W.heap.size W W2) : CVars f n w S v W2 :=
  ⟨Below.get h2 h.b, Below.get h2 h.num, Below.get h2 h.res, Below.get h2 h.sum, h.below.trans (h2.mono h.below.size)⟩

theorem CVars.set {f : Nat → Nat} {n : Int} {w : World} {S : Nat} {v : Int} {W : World} (h : CVars f n w S v W) (hS : w.heap.size + 1 + 1 < S) (u : Int) : CVars f n w S u (W.setCell ⟨S, 0, none⟩ (.int .i64 u)) :=
  ⟨(heap_setCell_other _ _ _ _ (by simp; omega)).trans h.b, (heap_setCell_other _ _ _ _ (by simp; omega)).trans h.num, (heap_setCell_other _ _ _ _ (by simp; omega)).trans h.res,
    heap_setCell_same W S 0 _ 3 _ h.sum, h.below.setCell (p := ⟨S, 0, none⟩) (by simp; omega) _⟩

theorem cell_of_one' {W : World} {g : Nat} {v : Value} {t : TypeId} (h : W.heap[g]? = some (.cells #[v] t)) : W.cell? ⟨g, 0, none⟩ = some v := by
  rw [cell_of_row _ _ _ _ _ _ h]; rfl

theorem run_load_block {W : World} {o : Oper} {a : Act} (x : Operand) (ho : o.op = .load 23 x) (g : Nat) (hx : a.eval x = .pointer (some ⟨g, 0, none⟩)) (f : Nat → Nat) (hg : W.heap[g]? = some (.cells (bc f) 23)) :
    (execOp a.eval o).run Try.prog W = .ok (.value (.agg (bc f))) W := by
  unfold execOp
  simp only [ho, hx, Instr.loadAt, Instr.sureAddr, Sem.run_bind, Sem.run_pure, Result.andThen_ok, run_loadVar_row _ g 23 23 (bc f) (0, 0) _ hg Try.underlying23 rfl (by rw [bc_size]; exact info23)]

theorem ones_mem (f : Nat → Nat) : ∀ k, k ≤ 2048 → ∀ x ∈ onesTo f k, x < 2048 ∧ bit f x = true
  | 0, _, x, h => by cases h
  | k + 1, hk, x, h => by
    cases hb : bit f k with
    | false => rw [onesTo_no f k hb] at h; exact ones_mem f k (by omega) x h
    | true =>
      rw [onesTo_yes f k hb, List.mem_append] at h
      rcases h with h | h
      · exact ones_mem f k (by omega) x h
      · obtain rfl : x = k := by simpa using h
        exact ⟨by omega, hb⟩

theorem ones_below (f : Nat → Nat) (n : Int) : ∀ k, k ≤ 2048 → below n (onesTo f k) = cnt f (min k (clamp n))
  | 0, _ => by simp [onesTo, below, cnt]
  | k + 1, hk => by
    have ih := ones_below f n k (by omega)
    by_cases hn : (k : Int) < n
    · have e1 : min (k + 1) (clamp n) = k + 1 := by unfold clamp; omega
      have e2 : min k (clamp n) = k := by unfold clamp; omega
      rw [e1, cnt_succ]; rw [e2] at ih
      cases hb : bit f k with
      | false => rw [onesTo_no f k hb, ih]; simp
      | true => rw [onesTo_yes f k hb, below_snoc, ih, if_pos hn]; simp
    · have e1 : min (k + 1) (clamp n) = min k (clamp n) := by unfold clamp; omega
      rw [e1, ← ih]
      cases hb : bit f k with
      | false => rw [onesTo_no f k hb]
      | true => rw [onesTo_yes f k hb, below_snoc, if_neg hn]; simp

set_option maxRecDepth 100000 in
set_option maxHeartbeats 2000000 in
theorem bcount_walk (f : Nat → Nat) (hf : Bytes f) (n : Int) (w : World) :
    Calls Try.prog 9 #[.agg (bc f), .int .i64 n] w fun e w' => e = .returned (.bool true) ∧ Below w.heap.size w w' := by
  have HF := Lib.hid hf
  clear hf
  refine callsIn_wide (n := 10).1 ?_
  refine callsIn_of_wp_marks Try.func9 rfl trivial ?_ rfl
  simp only [Try.ntmps9, List.size_toArray, List.length_cons, List.length_nil, Nat.reduceAdd, Nat.reduceSub, Array.replicate_succ, Array.replicate_zero, List.push_toArray, List.append_toArray, List.nil_append, List.cons_append]
  refine wpIn_wide.2 ?_
  have HB0 := Lib.hid ((((Below.refl w.heap.size w).alloc (Nat.le_refl _) (.cells (bc f) 23)).alloc (by simp) (.cells #[.int .i64 n] 3)).alloc (by simp; omega) (.cells #[.bool false] 4))
  have G0 : Hid ((((w.alloc (.cells (bc f) 23)).alloc (.cells #[.int .i64 n] 3)).alloc (.cells #[.bool false] 4)).heap[w.heap.size]? = some (.cells (bc f) 23)) := Lib.hid ((Below.heap_alloc _ _ _ (by simp; omega)).trans (heap_alloc2_old _ _ _))
  go_wp2_with (first | (go_at_call 22; refine (awake_any _).mono ?_; rintro e w1 ⟨rfl, hb1⟩; have G1 := Lib.hid (Below.get hb1 G0.out)) | (refine wpList_load_block rfl _ rfl w.heap.size rfl f G1.out ?_) | (go_at_call 11; refine (all_any f _).mono ?_; rintro e w2 ⟨rfl, hw2⟩; have hsn := run_seq_nil w1.heap.size))
  obtain ⟨B, hB⟩ : ∃ B, B = w1.heap.size := ⟨_, rfl⟩
  have hlt : w.heap.size + 1 + 1 < B := by have := hb1.size; simp at this; omega
  have V0 : Hid (CVars f n w (B + 1) 0 ((w1.alloc (.cells (bc f) 23)).alloc (.cells #[.int .i64 0] 3))) := Lib.hid (by
    have h1 : CVars f n w (B + 1) 0 ((w1.alloc (.cells (bc f) 23)).alloc (.cells #[.int .i64 0] 3)) := by
      have hbb : Below w1.heap.size w1 ((w1.alloc (.cells (bc f) 23)).alloc (.cells #[.int .i64 0] 3)) := ((Below.refl _ w1).alloc (Nat.le_refl _) _).alloc (by simp) _
      have g1 : w1.heap[w.heap.size + 1]? = some (.cells #[.int .i64 n] 3) := Below.get hb1 ((Below.heap_alloc _ _ _ (by simp)).trans (heap_alloc2_new _ _ _))
      have g2 : w1.heap[w.heap.size + 1 + 1]? = some (.cells #[.bool false] 4) := Below.get hb1 (by have := heap_alloc_new ((w.alloc (.cells (bc f) 23)).alloc (.cells #[.int .i64 n] 3)) (.cells #[.bool false] 4); simpa using this)
      exact ⟨Below.get hbb G1.out, Below.get hbb g1, Below.get hbb g2, by rw [hB]; exact heap_alloc2_new _ _ _, HB0.out.trans ((hb1.mono HB0.out.size).trans (hbb.mono (by omega)))⟩
    exact h1)
  have HK : Hid (((w1.alloc (.cells (bc f) 23)).alloc (.cells #[.int .i64 0] 3)).heap[B]? = some (.cells (bc f) 23)) := Lib.hid (by rw [hB]; exact heap_alloc2_old _ _ _)
  obtain ⟨W0, hW0⟩ : ∃ W0, W0 = (w1.alloc (.cells (bc f) 23)).alloc (.cells #[.int .i64 0] 3) := ⟨_, rfl⟩
  have hsz : W0.heap.size = B + 1 + 1 := by rw [hW0, hB]; simp
  rw [← hW0] at V0 HK ⊢
  rw [← hB]
  clear hW0 hB hb1 G0 G1 HB0 hsn
  refine wpIn_wide (n := 10).1 ?_
  refine wpIn_rangeFunc_ownF rfl (by omega) (gf := 23) (lb := #[.pointer (some ⟨B, 0, none⟩)]) rfl trivial (enters_of Try.func23 (by kernel_rfl) rfl)
    (all_stops f HF.out (10 - 1) (by omega) B (B + 1) (by omega) W0 HK.out) belowK_t (belowK_b (by omega)) (Below.refl _ _) (fun _ => rfl)
    (fun pre W => (∀ x ∈ pre, hasB f x = true) ∧ CVars f n w (B + 1) (below n pre) W)
    (fun c pre W => c = .ret ∧ ¬ pre <+: onesTo f 2048)
    (CVars.own (by omega)) (fun c s A B row hs hg hr => hs) ⟨(fun x h => by cases h), V0.out⟩
    (fun x => { tmps := #[.agg (bc f), .int .i64 n, .pointer (some ⟨w.heap.size, 0, none⟩), .pointer (some ⟨w.heap.size + 1, 0, none⟩), .pointer (some ⟨w.heap.size + 1 + 1, 0, none⟩),
      .func (.func 23) #[] #[.pointer (some ⟨B, 0, none⟩)], .pointer (some ⟨B + 1, 0, none⟩), .int .i64 x, .bool true, .bool false, .agg (bc f), .func (.func 23) #[] #[.pointer (some ⟨B, 0, none⟩)], .func (.func 23) #[] #[.pointer (some ⟨B, 0, none⟩)], .bool false,
      .func (.func 23) #[] #[.pointer (some ⟨B, 0, none⟩)], .int .i64 x, undef, undef, undef, undef, undef, undef, undef, undef, undef, undef, undef, undef, undef, undef], defers := [] }) ?assign ?body ?done ?stop
  case assign =>
    intro l x W K hK
    gi_wp2
    exact hK
  case body =>
    rintro l pre x W ⟨hall, hV⟩ hlen
    have HA := Lib.hid hall
    have hbl := below_le n pre
    clear hall
    cases hx : hasB f x with
    | false =>
      gi_wp2_with (first | (refine wpListIn_load_block rfl _ rfl w.heap.size rfl f hV.b ?_) | (refine ⟨trivial, ?_⟩; gi_at_call 17; refine (CallsIn.inRound l (callsIn_wide.2 (has_val f HF.out _ _ _ hx))).mono ?_; rintro e W2 ⟨rfl, hW2⟩; have hV2 := hV.get hW2; have hcr := cell_of_one' hV2.res; have hzr := frozen_of_row _ _ 0 _ _ hV2.res; have hcs := cell_of_one' hV2.sum; have hzs := frozen_of_row _ _ 0 _ _ hV2.sum; have hcn := cell_of_one' hV2.num; have HV2 := Lib.hid hV2; clear hV2))
      refine ⟨(keeps_of_below hW2).trans (KeepsOthers.setCell _ _ _), rfl, ?_⟩
      intro hp
      have := ones_mem f 2048 (Nat.le_refl _) x (hp.subset (by simp))
      rw [hasB_nat f x this.1] at hx
      rw [hx] at this
      cases this.2
    | true =>
      have HS := Lib.hid (below_snoc n pre x)
      gi_wp2_with (first | (refine wpListIn_load_block rfl _ rfl w.heap.size rfl f hV.b ?_) | (refine ⟨trivial, ?_⟩; gi_at_call 17; refine (CallsIn.inRound l (callsIn_wide.2 (has_val f HF.out _ _ _ hx))).mono ?_; rintro e W2 ⟨rfl, hW2⟩; have hV2 := hV.get hW2; have hcr := cell_of_one' hV2.res; have hzr := frozen_of_row _ _ 0 _ _ hV2.res; have hcs := cell_of_one' hV2.sum; have hzs := frozen_of_row _ _ 0 _ _ hV2.sum; have hcn := cell_of_one' hV2.num; have HV2 := Lib.hid hV2; clear hV2))
      · have hlt2 : B + 1 < W.heap.size := (Array.getElem?_eq_some_iff.1 hV.sum).1
        refine ⟨(keeps_of_below hW2).trans (KeepsOthers.setCell _ _ _), (hW2.mono (by omega)).setCell (p := ⟨B + 1, 0, none⟩) (by simp) _, ?_, ?_⟩
        · intro y hy
          rcases List.mem_append.1 hy with hy | hy
          · exact HA.out y hy
          · obtain rfl : y = x := by simpa using hy
            exact hx
        · have hlx : (x : Int) < n := by assumption
          rw [HS.out, if_pos hlx]
          exact HV2.out.set (by omega) _
      · have hlt2 : B + 1 < W.heap.size := (Array.getElem?_eq_some_iff.1 hV.sum).1
        refine ⟨keeps_of_below hW2, hW2.mono (by omega), ?_, ?_⟩
        · intro y hy
          rcases List.mem_append.1 hy with hy | hy
          · exact HA.out y hy
          · obtain rfl : y = x := by simpa using hy
            exact hx
        · rw [HS.out, if_neg (by omega)]
          exact HV2.out
  case done =>
    rintro D ys W hD rfl ⟨hall, hV⟩ hK
    have HE : Hid ((below n (onesTo f 2048) : Int) = (cnt f (clamp n) : Int)) := Lib.hid (by rw [ones_below f n 2048 (Nat.le_refl _), Nat.min_eq_right (clamp_le n)])
    rw [HE.out] at hV
    clear HE hall
    go_wp2
    refine wp_region_noPanic ?_
    refine wp_region_held (S := fun W' => CV3 f n w (B + 1) (cnt f (clamp n)) W') (by kernel_rfl) ?_
    have hS : CVars f n w (B + 1) (cnt f (clamp n)) { W with drawn := W.drawn + 1 } := ⟨hV.b, hV.num, hV.res, hV.sum, ⟨hV.below.os, hV.below.tape, hV.below.output, hV.below.size, hV.below.block⟩⟩
    have hKd : ({ W with drawn := W.drawn + 1 } : World).heap[D]? = some (.deferred (some [])) := hK
    obtain ⟨W1, hW1⟩ : ∃ W1 : World, W1 = { W with drawn := W.drawn + 1 } := ⟨_, rfl⟩
    rw [← hW1] at hS hKd ⊢
    clear hW1 hV hK
    refine wpAnyH_take (i := 0) (v := .int .i64 (cnt f (clamp n))) rfl (by kernel_rfl) (by kernel_rfl) (by kernel_rfl) (fun _ _ _ h => h) (.inl ⟨rfl, fun W' hS => by have hc := cell_of_one' hS.sum; go_simp⟩) hS.three ?_
    refine wpAnyH_take (i := 1) (v := .agg (bc f)) rfl (by kernel_rfl) (by kernel_rfl) (by kernel_rfl) (fun _ _ _ h => h) (.inl ⟨rfl, fun W' hS => run_load_block _ rfl _ rfl f hS.b⟩) hS.three ?_
    refine wpAnyH_take (i := 2) (v := .int .i64 n) rfl (by kernel_rfl) (by kernel_rfl) (by kernel_rfl) (fun _ _ _ h => h) (.inl ⟨rfl, fun W' hS => by have hc := cell_of_one' hS.num; go_simp⟩) hS.three ?_
    refine wpAnyH_all (rs := [3]) (by kernel_rfl) (by simp) ?_
    intro j hj
    obtain rfl : j = 3 := by simpa using hj
    refine wpOp_step rfl fun K' hK' => ?_
    have HS := Lib.hid hS
    have HD := Lib.hid hKd
    clear hS hKd
    go_simp
    refine (count_any f HF.out n _).mono ?_
    rintro e W2 ⟨rfl, hb2⟩
    have hS := HS.out.get hb2
    refine hK' _ _ ⟨hS.three, ?_⟩
    clear hK'
    have hKd : W2.heap[D]? = some (.deferred (some [])) := Below.get hb2 HD.out
    refine wpAnyH_take (i := 4) (v := .bool true) rfl (by kernel_rfl) (by kernel_rfl) (by kernel_rfl) (fun _ _ _ h => h) (.inl ⟨rfl, fun W' hS => by go_simp⟩) hS.three ?_
    refine wpAnyH_all (rs := [5]) (by kernel_rfl) (by simp) ?_
    intro j hj
    obtain rfl : j = 5 := by simpa using hj
    refine wpOp_step rfl fun K' hK' => ?_
    have hcr := cell_of_one' hS.res
    have hzr := frozen_of_row _ _ 0 _ _ hS.res
    have HS2 := Lib.hid hS
    have HD2 := Lib.hid hKd
    clear hS hKd
    go_simp
    refine hK' _ _ ⟨?_, ?_⟩
    · exact ⟨(heap_setCell_other _ _ _ _ (by simp; omega)).trans HS2.out.b, (heap_setCell_other _ _ _ _ (by simp)).trans HS2.out.num, (heap_setCell_other _ _ _ _ (by simp; omega)).trans HS2.out.sum⟩
    clear hK'
    have hR := Lib.hid (heap_setCell_same _ _ 0 _ _ (.bool true) HS2.out.res)
    have HB2 := Lib.hid (HS2.out.below.setCell (p := ⟨w.heap.size + 1 + 1, 0, none⟩) (by simp; omega) (.bool true))
    have hDr : D ≠ w.heap.size + 1 + 1 := fun e => by have h1 := HD2.out; rw [e, HS2.out.res] at h1; cases h1
    have HD3 := Lib.hid ((heap_setCell_other W2 ⟨w.heap.size + 1 + 1, 0, none⟩ D (.bool true) hDr).trans HD2.out)
    refine wpAnyH_done (by kernel_rfl) ?_ _
    refine NoPanic.normal ?_
    obtain ⟨W3, hW3⟩ : ∃ W3, W3 = W2.setCell ⟨w.heap.size + 1 + 1, 0, none⟩ (.bool true) := ⟨_, rfl⟩
    rw [← hW3] at hR HB2 HD3 ⊢
    clear hW3
    go_simp
    go_wp2
    refine ⟨by simp, .inl ⟨_, _, rfl, run_takeDeferred HD3.out, ?_⟩⟩
    have hc5 := cell_of_one' (heap_kept (grownBy_putObj' W3 D (.deferred none)) (fun r e => by cases e; exact ⟨_, HD3.out, rfl⟩) hR.out)
    refine ⟨.bool true, ?_, rfl, HB2.out.trans (belowK_b (w := w) (Nat.le_refl _) _ D _ _ (by omega) HD3.out rfl rfl)⟩
    simp [results, Try.f9, go_sem, hc5]
  case stop =>
    rintro D c pre W hD hSp ⟨rfl, hn⟩ hK
    exact absurd hSp hn
end Go.Proofs.Ytiajohnnmnoijaa
