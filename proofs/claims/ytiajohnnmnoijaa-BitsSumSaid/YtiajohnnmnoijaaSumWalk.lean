/-
  The walk of quernlaw04.BitsSum: it returns true, of any block and numbers, and changes nothing that was there.
  Conditions: none.
-/
import Derived.Test.YtiajohnnmnoijaaAllWalk
namespace Go.Proofs.Ytiajohnnmnoijaa
open Go.RowKit Go.Shelf
attribute [local go_sem] Oper.semAt_some run_equalIn_top
set_option linter.unusedVariables false

/-- The last of some numbers; -1 if there is none. -/
def lastOf : List Nat → Int
  | [] => -1
  | l => (l.getLast?.getD 0 : Nat)
theorem lastOf_snoc (l : List Nat) (x : Nat) : lastOf (l ++ [x]) = x := by
  unfold lastOf
  cases l with
  | nil => simp
  | cons a l =>
    show ((((a :: l) ++ [x]).getLast?.getD 0 : Nat) : Int) = x
    rw [List.getLast?_concat]; rfl
theorem ones_rise (f : Nat → Nat) : ∀ k, (onesTo f k).Pairwise (· < ·) ∧ ∀ x ∈ onesTo f k, x < k
  | 0 => ⟨List.Pairwise.nil, fun x h => by cases h⟩
  | k + 1 => by
    obtain ⟨h1, h2⟩ := ones_rise f k
    cases hb : bit f k with
    | false => rw [onesTo_no f k hb]; exact ⟨h1, fun x h => Nat.lt_succ_of_lt (h2 x h)⟩
    | true =>
      rw [onesTo_yes f k hb]
      refine ⟨List.pairwise_append.2 ⟨h1, List.pairwise_singleton _ _, fun a ha b hb => ?_⟩, fun x h => ?_⟩
      · obtain rfl : b = k := by simpa using hb
        exact h2 a ha
      · rcases List.mem_append.1 h with h | h
        · exact Nat.lt_succ_of_lt (h2 x h)
        · obtain rfl : x = k := by simpa using h
          omega
theorem ones_last (f : Nat → Nat) (l : List Nat) (x : Nat) (h : (l ++ [x]) <+: onesTo f 2048) : lastOf l < x := by
  cases hl : l with
  | nil => simp [lastOf]; omega
  | cons a r =>
    rw [← hl]
    have h1 : (l ++ [x]).Pairwise (· < ·) := (ones_rise f 2048).1.sublist h.sublist
    have h2 := (List.pairwise_append.1 h1).2.2
    obtain ⟨b, hb⟩ : ∃ b, l.getLast? = some b := by rw [hl]; exact ⟨_, List.getLast?_cons⟩
    have h3 := h2 b (List.mem_of_getLast? hb) x (by simp)
    rw [hl] at hb ⊢
    unfold lastOf
    simp only [hb, Option.getD_some]
    omega

/-- The variables of BitsSum, in memory. -/
structure SVars (f : Nat → Nat) (w : World) (B : Nat) (la al : Int) (W : World) : Prop where
  b : W.heap[w.heap.size]? = some (.cells (bc f) 23)
  res : W.heap[w.heap.size + 1]? = some (.cells #[.bool false] 4)
  la : W.heap[B + 1]? = some (.cells #[.int .i64 la] 3)
  al : W.heap[B + 1 + 1]? = some (.cells #[.int .i64 al] 3)
  below : Below w.heap.size w W

theorem SVars.kept {f : Nat → Nat} {w : World} {B C : Nat} {la al : Int} (hB : w.heap.size ≤ C) {A A' : World} {row : Option Nat} (h : SVars f w B la al A) (hg : A.grownBy A' row)
    (hr : ∀ r, row = some r → C ≤ r ∧ ∃ o : Obj, A.heap[r]? = some o ∧ o.isCells = false) : SVars f w B la al A' :=
  ⟨heap_kept hg (fun r e => (hr r e).2) h.b, heap_kept hg (fun r e => (hr r e).2) h.res, heap_kept hg (fun r e => (hr r e).2) h.la, heap_kept hg (fun r e => (hr r e).2) h.al, h.below.grown hg h.below.size (fun k e => Nat.le_trans hB (hr k e).1)⟩
theorem SVars.get {f : Nat → Nat} {w : World} {B : Nat} {la al : Int} {W W2 : World} (h : SVars f w B la al W) (h2 : Below W.heap.size W W2) : SVars f w B la al W2 :=
  ⟨Below.get h2 h.b, Below.get h2 h.res, Below.get h2 h.la, Below.get h2 h.al, h.below.trans (h2.mono h.below.size)⟩
theorem SVars.set {f : Nat → Nat} {w : World} {B : Nat} {la al : Int} {W : World} (h : SVars f w B la al W) (hB : w.heap.size + 1 < B) (u v : Int) :
    SVars f w B u v ((W.setCell ⟨B + 1, 0, none⟩ (.int .i64 u)).setCell ⟨B + 1 + 1, 0, none⟩ (.int .i64 v)) := by
  have h1 : SVars f w B u al (W.setCell ⟨B + 1, 0, none⟩ (.int .i64 u)) :=
    ⟨(heap_setCell_other _ _ _ _ (by simp; omega)).trans h.b, (heap_setCell_other _ _ _ _ (by simp; omega)).trans h.res, heap_setCell_same W (B + 1) 0 _ 3 _ h.la, (heap_setCell_other _ _ _ _ (by simp)).trans h.al, h.below.setCell (p := ⟨B + 1, 0, none⟩) (by simp; omega) _⟩
  exact ⟨(heap_setCell_other _ _ _ _ (by simp; omega)).trans h1.b, (heap_setCell_other _ _ _ _ (by simp; omega)).trans h1.res, (heap_setCell_other _ _ _ _ (by simp)).trans h1.la, heap_setCell_same _ (B + 1 + 1) 0 _ 3 _ h1.al, h1.below.setCell (p := ⟨B + 1 + 1, 0, none⟩) (by simp; omega) _⟩
/-- Those that the last statement reads. -/
structure SV2 (f : Nat → Nat) (w : World) (B : Nat) (al : Int) (W : World) : Prop where
  b : W.heap[w.heap.size]? = some (.cells (bc f) 23)
  al : W.heap[B + 1 + 1]? = some (.cells #[.int .i64 al] 3)
theorem SVars.two {f : Nat → Nat} {w : World} {B : Nat} {la al : Int} {W : World} (h : SVars f w B la al W) : SV2 f w B al W := ⟨h.b, h.al⟩

set_option maxRecDepth 100000 in
set_option maxHeartbeats 2000000 in
theorem sum_out (f : Nat → Nat) (hf : Bytes f) (lo hi : Int) (w : World) (h : lo < 0 ∨ hi < lo ∨ 2048 < hi) :
    Calls Try.prog 10 #[.agg (bc f), .int .i64 lo, .int .i64 hi] w fun e w' => e = .returned (.bool true) ∧ Below w.heap.size w w' := by
  have HF := Lib.hid hf
  clear hf
  refine callsIn_wide (n := 10).1 ?_
  refine callsIn_of_wp_marks Try.func10 rfl trivial ?_ rfl
  simp only [Try.ntmps10, List.size_toArray, List.length_cons, List.length_nil, Nat.reduceAdd, Nat.reduceSub, Array.replicate_succ, Array.replicate_zero, List.push_toArray, List.append_toArray, List.nil_append, List.cons_append]
  refine wpIn_wide.2 ?_
  have HB0 := Lib.hid (((Below.refl w.heap.size w).alloc (Nat.le_refl _) (.cells (bc f) 23)).alloc (by simp) (.cells #[.bool false] 4))
  have HR0 := Lib.hid (heap_alloc2_new w (.cells (bc f) 23) (.cells #[.bool false] 4))
  rcases h with h | h | h
  · go_wp2_with (first | (go_at_call 22; refine (awake_any _).mono ?_; rintro e w1 ⟨rfl, hb1⟩; have HR1 := Lib.hid (Below.get hb1 HR0.out); have hc1 := cell_of_one' HR1.out; have hz1 := frozen_of_row _ _ 0 _ _ HR1.out))
    have hR := heap_setCell_same _ _ 0 _ _ (.bool true) HR1.out
    refine ⟨.bool true, ?_, rfl, (HB0.out.trans (hb1.mono HB0.out.size)).setCell (p := ⟨w.heap.size + 1, 0, none⟩) (by simp) _⟩
    have hc5 := cell_of_one' hR
    simp [results, Try.f10, go_sem, hc5]
  · by_cases h0 : lo < 0
    · go_wp2_with (first | (go_at_call 22; refine (awake_any _).mono ?_; rintro e w1 ⟨rfl, hb1⟩; have HR1 := Lib.hid (Below.get hb1 HR0.out); have hc1 := cell_of_one' HR1.out; have hz1 := frozen_of_row _ _ 0 _ _ HR1.out))
      have hR := heap_setCell_same _ _ 0 _ _ (.bool true) HR1.out
      refine ⟨.bool true, ?_, rfl, (HB0.out.trans (hb1.mono HB0.out.size)).setCell (p := ⟨w.heap.size + 1, 0, none⟩) (by simp) _⟩
      have hc5 := cell_of_one' hR
      simp [results, Try.f10, go_sem, hc5]
    · have d0 : decide (lo < 0) = false := by simp; omega
      have d1 : decide (hi < lo) = true := by simp; omega
      go_wp2_with (first | (go_at_call 22; refine (awake_any _).mono ?_; rintro e w1 ⟨rfl, hb1⟩; have HR1 := Lib.hid (Below.get hb1 HR0.out); have hc1 := cell_of_one' HR1.out; have hz1 := frozen_of_row _ _ 0 _ _ HR1.out))
      have hR := heap_setCell_same _ _ 0 _ _ (.bool true) HR1.out
      refine ⟨.bool true, ?_, rfl, (HB0.out.trans (hb1.mono HB0.out.size)).setCell (p := ⟨w.heap.size + 1, 0, none⟩) (by simp) _⟩
      have hc5 := cell_of_one' hR
      simp [results, Try.f10, go_sem, hc5]
  · by_cases h0 : lo < 0
    · go_wp2_with (first | (go_at_call 22; refine (awake_any _).mono ?_; rintro e w1 ⟨rfl, hb1⟩; have HR1 := Lib.hid (Below.get hb1 HR0.out); have hc1 := cell_of_one' HR1.out; have hz1 := frozen_of_row _ _ 0 _ _ HR1.out))
      have hR := heap_setCell_same _ _ 0 _ _ (.bool true) HR1.out
      refine ⟨.bool true, ?_, rfl, (HB0.out.trans (hb1.mono HB0.out.size)).setCell (p := ⟨w.heap.size + 1, 0, none⟩) (by simp) _⟩
      have hc5 := cell_of_one' hR
      simp [results, Try.f10, go_sem, hc5]
    · have d0 : decide (lo < 0) = false := by simp; omega
      by_cases h1 : hi < lo
      · have d1 : decide (hi < lo) = true := by simp; omega
        go_wp2_with (first | (go_at_call 22; refine (awake_any _).mono ?_; rintro e w1 ⟨rfl, hb1⟩; have HR1 := Lib.hid (Below.get hb1 HR0.out); have hc1 := cell_of_one' HR1.out; have hz1 := frozen_of_row _ _ 0 _ _ HR1.out))
        have hR := heap_setCell_same _ _ 0 _ _ (.bool true) HR1.out
        refine ⟨.bool true, ?_, rfl, (HB0.out.trans (hb1.mono HB0.out.size)).setCell (p := ⟨w.heap.size + 1, 0, none⟩) (by simp) _⟩
        have hc5 := cell_of_one' hR
        simp [results, Try.f10, go_sem, hc5]
      · have d1 : decide (hi < lo) = false := by simp; omega
        have d2 : decide (2048 < hi) = true := by simp; omega
        go_wp2_with (first | (go_at_call 22; refine (awake_any _).mono ?_; rintro e w1 ⟨rfl, hb1⟩; have HR1 := Lib.hid (Below.get hb1 HR0.out); have hc1 := cell_of_one' HR1.out; have hz1 := frozen_of_row _ _ 0 _ _ HR1.out))
        have hR := heap_setCell_same _ _ 0 _ _ (.bool true) HR1.out
        refine ⟨.bool true, ?_, rfl, (HB0.out.trans (hb1.mono HB0.out.size)).setCell (p := ⟨w.heap.size + 1, 0, none⟩) (by simp) _⟩
        have hc5 := cell_of_one' hR
        simp [results, Try.f10, go_sem, hc5]
/-- The two variables ahead of the loop. -/
structure SBox (f : Nat → Nat) (w W : World) : Prop where
  b : W.heap[w.heap.size]? = some (.cells (bc f) 23)
  res : W.heap[w.heap.size + 1]? = some (.cells #[.bool false] 4)
  below : Below w.heap.size w W
theorem SBox.get {f : Nat → Nat} {w W W2 : World} (h : SBox f w W) (h2 : Below W.heap.size W W2) : SBox f w W2 := ⟨Below.get h2 h.b, Below.get h2 h.res, h.below.trans (h2.mono h.below.size)⟩

set_option maxRecDepth 100000 in
set_option maxHeartbeats 4000000 in
theorem sum_in (f : Nat → Nat) (hf : Bytes f) (a c : Nat) (w : World) (hac : a ≤ c) (hc : c ≤ 2048) :
    Calls Try.prog 10 #[.agg (bc f), .int .i64 a, .int .i64 c] w fun e w' => e = .returned (.bool true) ∧ Below w.heap.size w w' := by
  have HF := Lib.hid hf
  clear hf
  refine callsIn_wide (n := 10).1 ?_
  refine callsIn_of_wp_marks Try.func10 rfl trivial ?_ rfl
  simp only [Try.ntmps10, List.size_toArray, List.length_cons, List.length_nil, Nat.reduceAdd, Nat.reduceSub, Array.replicate_succ, Array.replicate_zero, List.push_toArray, List.append_toArray, List.nil_append, List.cons_append]
  refine wpIn_wide.2 ?_
  have HX : Hid (SBox f w ((w.alloc (.cells (bc f) 23)).alloc (.cells #[.bool false] 4))) := Lib.hid ⟨heap_alloc2_old _ _ _, heap_alloc2_new _ _ _, ((Below.refl w.heap.size w).alloc (Nat.le_refl _) (.cells (bc f) 23)).alloc (by simp) (.cells #[.bool false] 4)⟩
  have d0 : decide ((a : Int) < 0) = false := by simp
  have d1 : decide ((c : Int) < (a : Int)) = false := by simp; omega
  have d2 : decide ((2048 : Int) < (c : Int)) = false := by simp; omega
  have d1' : decide (c < a) = false := by simp; omega
  have d2' : decide (2048 < c) = false := by simp; omega
  go_wp2_with (first | (go_at_call 22; refine (awake_any _).mono ?_; rintro e w1 ⟨rfl, hb1⟩; have HX := Lib.hid (HX.out.get hb1)))
  go_loopw [7, 8] (fun s v wr => ∃ i : Nat, a ≤ i ∧ i ≤ c ∧ v = .int .i64 i ∧ s = .int .i64 ((cnt f i - cnt f a : Nat) : Int) ∧ SBox f w wr) (fun _ v _ => c - (intOf v).toNat)
  case atStart => exact ⟨a, Nat.le_refl _, hac, rfl, by simp, HX.out⟩
  case round =>
    obtain ⟨i, hi1, hi2, rfl, rfl, hw⟩ := hrel
    have HW := Lib.hid hw
    have hcl := cnt_le f i
    have hmo := cnt_mono f hi1
    clear hw
    by_cases hlt : i < c
    · have HS := Lib.hid (cnt_succ f i)
      cases hb : bit f i with
      | true =>
        have hh : hasB f i = true := by rw [hasB_nat f i (by omega)]; exact hb
        rw [hb] at HS
        go_wp2_with (first | (refine wpList_load_block rfl _ rfl w.heap.size rfl f HW.out.b ?_) | (go_at_call 17; refine (has_val f HF.out _ _ _ hh).mono ?_; rintro e w3 ⟨rfl, hb3⟩))
        go_roundw
        case rel => exact ⟨i + 1, by omega, by omega, by go_num, by rw [HS.out]; congr 1; simp only [if_true]; omega, HW.out.get hb3⟩
        case measure => simp [intOf]; omega
      | false =>
        have hh : hasB f i = false := by rw [hasB_nat f i (by omega)]; exact hb
        rw [hb] at HS
        go_wp2_with (first | (refine wpList_load_block rfl _ rfl w.heap.size rfl f HW.out.b ?_) | (go_at_call 17; refine (has_val f HF.out _ _ _ hh).mono ?_; rintro e w3 ⟨rfl, hb3⟩))
        go_roundw
        case rel => exact ⟨i + 1, by omega, by omega, by go_num, by rw [HS.out]; simp, HW.out.get hb3⟩
        case measure => simp [intOf]; omega
    · obtain rfl : i = c := by omega
      have hsn := run_seq_nil wr.heap.size
      go_wp2_with (first | (refine wpList_load_block rfl _ rfl w.heap.size rfl f HW.out.b ?_) | (go_at_call 11; refine (all_any f _).mono ?_; rintro e w2 ⟨rfl, hw2⟩))
      have hbb : Below wr.heap.size wr (((wr.alloc (.cells (bc f) 23)).alloc (.cells #[.int .i64 (-1)] 3)).alloc (.cells #[.int .i64 0] 3)) := (((Below.refl _ wr).alloc (Nat.le_refl _) _).alloc (by simp) _).alloc (by simp; omega) _
      have hlt1 : w.heap.size + 1 < wr.heap.size := (Array.getElem?_eq_some_iff.1 HW.out.res).1
      have V0 : Hid (SVars f w wr.heap.size (-1) 0 (((wr.alloc (.cells (bc f) 23)).alloc (.cells #[.int .i64 (-1)] 3)).alloc (.cells #[.int .i64 0] 3))) := Lib.hid ⟨Below.get hbb HW.out.b, Below.get hbb HW.out.res, (Below.heap_alloc _ _ _ (by simp)).trans (heap_alloc2_new _ _ _), by
        have := heap_alloc_new ((wr.alloc (.cells (bc f) 23)).alloc (.cells #[.int .i64 (-1)] 3)) (.cells #[.int .i64 0] 3); simpa using this, HW.out.below.trans (hbb.mono HW.out.below.size)⟩
      have HQ : Hid ((((wr.alloc (.cells (bc f) 23)).alloc (.cells #[.int .i64 (-1)] 3)).alloc (.cells #[.int .i64 0] 3)).heap[wr.heap.size]? = some (.cells (bc f) 23)) := Lib.hid ((Below.heap_alloc _ _ _ (by simp; omega)).trans (heap_alloc2_old _ _ _))
      obtain ⟨W0, hW0⟩ : ∃ W0, W0 = (((wr.alloc (.cells (bc f) 23)).alloc (.cells #[.int .i64 (-1)] 3)).alloc (.cells #[.int .i64 0] 3)) := ⟨_, rfl⟩
      have hsz : W0.heap.size = wr.heap.size + 1 + 1 + 1 := by rw [hW0]; simp
      rw [← hW0] at V0 HQ ⊢
      obtain ⟨B, hB⟩ : ∃ B, B = wr.heap.size := ⟨_, rfl⟩
      rw [← hB] at V0 HQ hsz hlt1 ⊢
      clear hW0 hB hbb hsn HX HW
      refine wpIn_wide (n := 10).1 ?_
      refine wpIn_rangeFunc_ownF rfl (by omega) (gf := 23) (lb := #[.pointer (some ⟨B, 0, none⟩)]) rfl trivial (enters_of Try.func23 (by kernel_rfl) rfl)
        (all_stops f HF.out (10 - 1) (by omega) B (B + 1) (by omega) W0 HQ.out) belowK_t (belowK_b (by omega)) (Below.refl _ _) (fun _ => rfl)
        (fun pre W => SVars f w B (lastOf pre) pre.length W)
        (fun c pre W => c = .ret ∧ ¬ pre <+: onesTo f 2048)
        (fun s A A' row hs hg hr => hs.kept (C := W0.heap.size) (by omega) hg hr) (fun c s A A' row hs hg hr => hs) V0.out
        (fun x => { tmps := #[.agg (bc f), .int .i64 a, .int .i64 i, .pointer (some ⟨w.heap.size, 0, none⟩), undef, undef, .pointer (some ⟨w.heap.size + 1, 0, none⟩), .int .i64 ((cnt f i - cnt f a : Nat) : Int), .int .i64 i, .func (.func 23) #[] #[.pointer (some ⟨B, 0, none⟩)], .pointer (some ⟨B + 1, 0, none⟩), .pointer (some ⟨B + 1 + 1, 0, none⟩), .int .i64 x, .bool true, .bool false, .int .i64 a, .bool false, .bool false, .int .i64 i, .int .i64 a, .bool false, .bool false, .bool false, .int .i64 i, .bool false, .bool false, .int .i64 a, .int .i64 i, .int .i64 i, .bool false, u30, u31, u32, u33, u34, u35, u36, .agg (bc f), .func (.func 23) #[] #[.pointer (some ⟨B, 0, none⟩)], .func (.func 23) #[] #[.pointer (some ⟨B, 0, none⟩)], .bool false, .func (.func 23) #[] #[.pointer (some ⟨B, 0, none⟩)], .int .i64 x, undef, undef, undef, undef, undef, undef, undef, undef, undef, undef, undef, undef, undef, undef, undef, undef, undef, undef, undef, undef, undef, undef, undef, undef, undef, undef, undef], defers := [] }) ?assign ?body ?done ?stop
      case assign =>
        intro l x W K hK
        gi_wp2
        exact hK
      case body =>
        rintro l pre x W hV hlen
        have HV := Lib.hid hV
        have cla := cell_of_one' hV.la
        have cres := cell_of_one' hV.res
        have zres := frozen_of_row _ _ 0 _ _ hV.res
        clear hV
        by_cases hx : (x : Int) ≤ lastOf pre
        · have hx1 : decide ((x : Int) ≤ lastOf pre) = true := by simpa using hx
          gi_wp2
          refine ⟨trivial, ?_⟩
          gi_wp2
          refine ⟨KeepsOthers.setCell _ _ _, rfl, fun hp => ?_⟩
          have := ones_last f pre x hp
          omega
        · have hx1 : decide ((x : Int) ≤ lastOf pre) = false := by simpa using hx
          cases hh : hasB f x with
          | false =>
            gi_wp2_with (first | (refine wpListIn_load_block rfl _ rfl w.heap.size rfl f HV.out.b ?_) | (refine ⟨trivial, ?_⟩; gi_at_call 17; refine (CallsIn.inRound l (callsIn_wide.2 (has_val f HF.out _ _ _ hh))).mono ?_; rintro e W2 ⟨rfl, hW2⟩; have HV := Lib.hid (HV.out.get hW2); have cres := cell_of_one' HV.out.res; have zres := frozen_of_row _ _ 0 _ _ HV.out.res))
            refine ⟨(keeps_of_below hW2).trans (KeepsOthers.setCell _ _ _), rfl, fun hp => ?_⟩
            have := ones_mem f 2048 (Nat.le_refl _) x (hp.subset (by simp))
            rw [hasB_nat f x this.1] at hh
            rw [hh] at this
            cases this.2
          | true =>
            have hltB : B + 1 + 1 < W.heap.size := (Array.getElem?_eq_some_iff.1 HV.out.al).1
            gi_wp2_with (first | (refine wpListIn_load_block rfl _ rfl w.heap.size rfl f HV.out.b ?_) | (refine ⟨trivial, ?_⟩; gi_at_call 17; refine (CallsIn.inRound l (callsIn_wide.2 (has_val f HF.out _ _ _ hh))).mono ?_; rintro e W2 ⟨rfl, hW2⟩; have HV := Lib.hid (HV.out.get hW2); have cla2 := cell_of_one' HV.out.la; have zla2 := frozen_of_row _ _ 0 _ _ HV.out.la; have cal2 := cell_of_one' HV.out.al; have zal2 := frozen_of_row _ _ 0 _ _ HV.out.al))
            refine ⟨((keeps_of_below hW2).trans (KeepsOthers.setCell _ _ _)).trans (KeepsOthers.setCell _ _ _), ((hW2.mono (by omega)).setCell (p := ⟨B + 1, 0, none⟩) (by simp) _).setCell (p := ⟨B + 1 + 1, 0, none⟩) (by simp) _, ?_⟩
            have hX := HV.out.set (by omega) (x : Int) ((pre.length : Int) + 1)
            show SVars f w B (lastOf (pre ++ [x])) ((pre ++ [x]).length : Nat) _
            rw [lastOf_snoc]
            simpa using hX
      case done =>
        rintro D ys W hD rfl hV hK
        rw [ones_len f 2048] at hV
        have HC0 : Hid (clamp 2048 = 2048) := Lib.hid (by decide)
        have HC1 : Hid (clamp (i : Int) = i) := Lib.hid (by unfold clamp; omega)
        have HC2 : Hid (clamp (a : Int) = a) := Lib.hid (by unfold clamp; omega)
        generalize lastOf (onesTo f 2048) = la at hV
        have hsub : (cnt f i : Int) - (cnt f a : Int) = ((cnt f i - cnt f a : Nat) : Int) := by omega
        have hwr : IntKind.i64.wrap ((cnt f i : Int) - (cnt f a : Int)) = ((cnt f i - cnt f a : Nat) : Int) := by rw [hsub]; exact IntWalk.i64_in _ (by omega)
        have HWR := Lib.hid hwr
        clear hwr hsub
        go_wp2
        refine wp_region_noPanic ?_
        refine wp_region_held (S := fun W' => SV2 f w B (cnt f 2048) W') (by kernel_rfl) ?_
        have hS : SVars f w B la (cnt f 2048) { W with drawn := W.drawn + 1 } := ⟨hV.b, hV.res, hV.la, hV.al, ⟨hV.below.os, hV.below.tape, hV.below.output, hV.below.size, hV.below.block⟩⟩
        have hKd : ({ W with drawn := W.drawn + 1 } : World).heap[D]? = some (.deferred (some [])) := hK
        obtain ⟨W1, hW1⟩ : ∃ W1 : World, W1 = { W with drawn := W.drawn + 1 } := ⟨_, rfl⟩
        rw [← hW1] at hS hKd ⊢
        clear hW1 hV hK
        refine wpAnyH_take (i := 0) (v := .agg (bc f)) rfl (by kernel_rfl) (by kernel_rfl) (by kernel_rfl) (fun _ _ _ h => h) (.inl ⟨rfl, fun W' hS => run_load_block _ rfl _ rfl f hS.b⟩) hS.two ?_
        refine wpAnyH_take (i := 1) (v := .int .i64 i) rfl (by kernel_rfl) (by kernel_rfl) (by kernel_rfl) (fun _ _ _ h => h) (.inl ⟨rfl, fun W' hS => rfl⟩) hS.two ?_
        refine wpAnyH_take (i := 3) (v := .agg (bc f)) rfl (by kernel_rfl) (by kernel_rfl) (by kernel_rfl) (fun _ _ _ h => h) (.inl ⟨rfl, fun W' hS => run_load_block _ rfl _ rfl f hS.b⟩) hS.two ?_
        refine wpAnyH_take (i := 4) (v := .int .i64 a) rfl (by kernel_rfl) (by kernel_rfl) (by kernel_rfl) (fun _ _ _ h => h) (.inl ⟨rfl, fun W' hS => rfl⟩) hS.two ?_
        refine wpAnyH_take (i := 7) (v := .int .i64 ((cnt f i - cnt f a : Nat) : Int)) rfl (by kernel_rfl) (by kernel_rfl) (by kernel_rfl) (fun _ _ _ h => h) (.inl ⟨rfl, fun W' hS => rfl⟩) hS.two ?_
        refine wpAnyH_all (rs := [2]) (by kernel_rfl) (by simp) ?_
        intro j hj
        obtain rfl : j = 2 := by simpa using hj
        refine wpOp_step rfl fun K' hK' => ?_
        have HS := Lib.hid hS
        have HD := Lib.hid hKd
        clear hS hKd
        go_simp
        refine (count_any f HF.out i _).mono ?_
        rintro e W2 ⟨rfl, hb2⟩
        rw [HC1.out]
        have hS := HS.out.get hb2
        refine hK' _ _ ⟨hS.two, ?_⟩
        clear hK'
        have hKd := Below.get hb2 HD.out
        refine wpAnyH_all (rs := [5]) (by kernel_rfl) (by simp) ?_
        intro j hj
        obtain rfl : j = 5 := by simpa using hj
        refine wpOp_step rfl fun K' hK' => ?_
        have HS := Lib.hid hS
        have HD := Lib.hid hKd
        clear hS hKd
        go_simp
        refine (count_any f HF.out a _).mono ?_
        rintro e W2 ⟨rfl, hb2⟩
        rw [HC2.out]
        have hS := HS.out.get hb2
        refine hK' _ _ ⟨hS.two, ?_⟩
        clear hK'
        have hKd := Below.get hb2 HD.out
        have hwr := HWR.out
        refine wpAnyH_take (i := 6) (v := .int .i64 ((cnt f i - cnt f a : Nat) : Int)) rfl (by kernel_rfl) (by kernel_rfl) (by kernel_rfl) (fun _ _ _ h => h) (.inl ⟨rfl, fun W' hS => by go_simp⟩) hS.two ?_
        clear hwr
        refine wpAnyH_take (i := 8) (v := .bool true) rfl (by kernel_rfl) (by kernel_rfl) (by kernel_rfl) (fun _ _ _ h => h) (.inl ⟨rfl, fun W' hS => by go_simp⟩) hS.two ?_
        refine wpAnyH_take (i := 9) (v := .bool true) rfl (by kernel_rfl) (by kernel_rfl) (by kernel_rfl) (fun _ _ _ h => h) (.inl ⟨rfl, fun W' hS => rfl⟩) hS.two ?_
        refine wpAnyH_take (i := 10) (v := .int .i64 (cnt f 2048)) rfl (by kernel_rfl) (by kernel_rfl) (by kernel_rfl) (fun _ _ _ h => h) (.inl ⟨rfl, fun W' hS => by have hc := cell_of_one' hS.al; go_simp⟩) hS.two ?_
        refine wpAnyH_take (i := 11) (v := .agg (bc f)) rfl (by kernel_rfl) (by kernel_rfl) (by kernel_rfl) (fun _ _ _ h => h) (.inl ⟨rfl, fun W' hS => run_load_block _ rfl _ rfl f hS.b⟩) hS.two ?_
        refine wpAnyH_all (rs := [12]) (by kernel_rfl) (by simp) ?_
        intro j hj
        obtain rfl : j = 12 := by simpa using hj
        refine wpOp_step rfl fun K' hK' => ?_
        have HS := Lib.hid hS
        have HD := Lib.hid hKd
        clear hS hKd
        go_simp
        refine (count_any f HF.out 2048 _).mono ?_
        rintro e W2 ⟨rfl, hb2⟩
        rw [HC0.out]
        have hS := HS.out.get hb2
        refine hK' _ _ ⟨hS.two, ?_⟩
        clear hK'
        have hKd := Below.get hb2 HD.out
        refine wpAnyH_take (i := 13) (v := .bool true) rfl (by kernel_rfl) (by kernel_rfl) (by kernel_rfl) (fun _ _ _ h => h) (.inl ⟨rfl, fun W' hS => by go_simp⟩) hS.two ?_
        refine wpAnyH_take (i := 14) (v := .bool true) rfl (by kernel_rfl) (by kernel_rfl) (by kernel_rfl) (fun _ _ _ h => h) (.inl ⟨rfl, fun W' hS => by go_simp⟩) hS.two ?_
        refine wpAnyH_all (rs := [15]) (by kernel_rfl) (by simp) ?_
        intro j hj
        obtain rfl : j = 15 := by simpa using hj
        refine wpOp_step rfl fun K' hK' => ?_
        have hcr := cell_of_one' hS.res
        have hzr := frozen_of_row _ _ 0 _ _ hS.res
        have HS2 := Lib.hid hS
        have HD2 := Lib.hid hKd
        clear hS hKd
        go_simp
        refine hK' _ _ ⟨?_, ?_⟩
        · exact ⟨(heap_setCell_other _ _ _ _ (by simp)).trans HS2.out.b, (heap_setCell_other _ _ _ _ (by simp; omega)).trans HS2.out.al⟩
        clear hK'
        have hR := Lib.hid (heap_setCell_same _ _ 0 _ _ (.bool true) HS2.out.res)
        have HB2 := Lib.hid (HS2.out.below.setCell (p := ⟨w.heap.size + 1, 0, none⟩) (by simp) (.bool true))
        have hDr : D ≠ w.heap.size + 1 := fun e => by have h1 := HD2.out; rw [e, HS2.out.res] at h1; cases h1
        have HD3 := Lib.hid ((heap_setCell_other W2 ⟨w.heap.size + 1, 0, none⟩ D (.bool true) hDr).trans HD2.out)
        refine wpAnyH_done (by kernel_rfl) ?_ _
        refine NoPanic.normal ?_
        obtain ⟨W3, hW3⟩ : ∃ W3, W3 = W2.setCell ⟨w.heap.size + 1, 0, none⟩ (.bool true) := ⟨_, rfl⟩
        rw [← hW3] at hR HB2 HD3 ⊢
        clear hW3
        go_simp
        go_wp2
        refine ⟨by simp, .inl ⟨_, _, rfl, run_takeDeferred HD3.out, ?_⟩⟩
        have hc5 := cell_of_one' (heap_kept (grownBy_putObj' W3 D (.deferred none)) (fun r e => by cases e; exact ⟨_, HD3.out, rfl⟩) hR.out)
        refine ⟨.bool true, ?_, rfl, HB2.out.trans (belowK_b (w := w) (Nat.le_refl _) _ D _ _ (by omega) HD3.out rfl rfl)⟩
        simp [results, Try.f10, go_sem, hc5]
      case stop =>
        rintro D c pre W hD hSp ⟨rfl, hn⟩ hK
        exact absurd hSp hn

theorem sum_walk (f : Nat → Nat) (hf : Bytes f) (lo hi : Int) (w : World) :
    Calls Try.prog 10 #[.agg (bc f), .int .i64 lo, .int .i64 hi] w fun e w' => e = .returned (.bool true) ∧ Below w.heap.size w w' := by
  by_cases h : lo < 0 ∨ hi < lo ∨ 2048 < hi
  · exact sum_out f hf lo hi w h
  · obtain ⟨a, rfl⟩ := Int.eq_ofNat_of_zero_le (a := lo) (by omega)
    obtain ⟨c, rfl⟩ := Int.eq_ofNat_of_zero_le (a := hi) (by omega)
    exact sum_in f hf a c w (by omega) (by omega)
end Go.Proofs.Ytiajohnnmnoijaa
