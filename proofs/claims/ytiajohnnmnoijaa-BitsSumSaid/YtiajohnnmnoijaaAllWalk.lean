/-
  The walk of quernlaw04.BitsAll: it returns true, of any block and number, and changes nothing that was there.
  Conditions: none.
-/
import Derived.Test.YtiajohnnmnoijaaCountWalk
import Derived.Test.YtiajohnnmnoijaaRef
namespace Go.Proofs.Ytiajohnnmnoijaa
open Go.RowKit Go.Shelf
attribute [local go_sem] Oper.semAt_some run_equalIn_top
set_option linter.unusedVariables false

/-- The variables of BitsAll, in memory. -/
structure AVars (f : Nat → Nat) (st : Int) (w : World) (R L : Nat) (nx nn : Int) (W : World) : Prop where
  b : W.heap[w.heap.size]? = some (.cells (bc f) 23)
  st : W.heap[w.heap.size + 1]? = some (.cells #[.int .i64 st] 3)
  res : W.heap[w.heap.size + 1 + 1]? = some (.cells #[.bool false] 4)
  row : W.heap[R]? = some (.cells (bl (bit f)) 4)
  l : W.heap[L]? = some (.cells #[.slice (some ⟨R, 0, none⟩) 2048 2048] 27)
  nx : W.heap[L + 1]? = some (.cells #[.int .i64 nx] 3)
  nn : W.heap[L + 1 + 1]? = some (.cells #[.int .i64 nn] 3)
  below : Below w.heap.size w W

theorem AVars.kept {f : Nat → Nat} {st : Int} {w : World} {R L B : Nat} {nx nn : Int} (hB : w.heap.size ≤ B) {A A' : World} {row : Option Nat} (h : AVars f st w R L nx nn A) (hg : A.grownBy A' row)
    (hr : ∀ r, row = some r → B ≤ r ∧ ∃ o : Obj, A.heap[r]? = some o ∧ o.isCells = false) : AVars f st w R L nx nn A' :=
  ⟨heap_kept hg (fun r e => (hr r e).2) h.b, heap_kept hg (fun r e => (hr r e).2) h.st, heap_kept hg (fun r e => (hr r e).2) h.res, heap_kept hg (fun r e => (hr r e).2) h.row, heap_kept hg (fun r e => (hr r e).2) h.l,
    heap_kept hg (fun r e => (hr r e).2) h.nx, heap_kept hg (fun r e => (hr r e).2) h.nn, h.below.grown hg h.below.size (fun k e => Nat.le_trans hB (hr k e).1)⟩

theorem AVars.get {f : Nat → Nat} {st : Int} {w : World} {R L : Nat} {nx nn : Int} {W W2 : World} (h : AVars f st w R L nx nn W) (h2 : Below W.heap.size W W2) : AVars f st w R L nx nn W2 :=
  ⟨Below.get h2 h.b, Below.get h2 h.st, Below.get h2 h.res, Below.get h2 h.row, Below.get h2 h.l, Below.get h2 h.nx, Below.get h2 h.nn, h.below.trans (h2.mono h.below.size)⟩

theorem AVars.setNx {f : Nat → Nat} {st : Int} {w : World} {R L : Nat} {nx nn : Int} {W : World} (h : AVars f st w R L nx nn W) (hR : w.heap.size + 1 + 1 < R) (hL : R < L) (u : Int) :
    AVars f st w R L u nn (W.setCell ⟨L + 1, 0, none⟩ (.int .i64 u)) :=
  ⟨(heap_setCell_other _ _ _ _ (by simp; omega)).trans h.b, (heap_setCell_other _ _ _ _ (by simp; omega)).trans h.st, (heap_setCell_other _ _ _ _ (by simp; omega)).trans h.res, (heap_setCell_other _ _ _ _ (by simp; omega)).trans h.row,
    (heap_setCell_other _ _ _ _ (by simp)).trans h.l, heap_setCell_same W (L + 1) 0 _ 3 _ h.nx, (heap_setCell_other _ _ _ _ (by simp)).trans h.nn, h.below.setCell (p := ⟨L + 1, 0, none⟩) (by simp; omega) _⟩
theorem AVars.setNn {f : Nat → Nat} {st : Int} {w : World} {R L : Nat} {nx nn : Int} {W : World} (h : AVars f st w R L nx nn W) (hR : w.heap.size + 1 + 1 < R) (hL : R < L) (u : Int) :
    AVars f st w R L nx u (W.setCell ⟨L + 1 + 1, 0, none⟩ (.int .i64 u)) :=
  ⟨(heap_setCell_other _ _ _ _ (by simp; omega)).trans h.b, (heap_setCell_other _ _ _ _ (by simp; omega)).trans h.st, (heap_setCell_other _ _ _ _ (by simp; omega)).trans h.res, (heap_setCell_other _ _ _ _ (by simp; omega)).trans h.row,
    (heap_setCell_other _ _ _ _ (by simp; omega)).trans h.l, (heap_setCell_other _ _ _ _ (by simp)).trans h.nx, heap_setCell_same W (L + 1 + 1) 0 _ 3 _ h.nn, h.below.setCell (p := ⟨L + 1 + 1, 0, none⟩) (by simp; omega) _⟩

theorem ones_flat (f : Nat → Nat) (m : Nat) : ∀ d, (∀ i, m ≤ i → i < m + d → bit f i = false) → onesTo f (m + d) = onesTo f m
  | 0, _ => rfl
  | d + 1, h => by
    show onesTo f (m + d + 1) = onesTo f m
    rw [onesTo_no f (m + d) (h _ (by omega) (by omega))]
    exact ones_flat f m d fun i h1 h2 => h i h1 (by omega)
theorem ones_flat' (f : Nat → Nat) {m j : Nat} (h : m ≤ j) (hc : ∀ i, m ≤ i → i < j → bit f i = false) : onesTo f j = onesTo f m := by
  obtain ⟨d, rfl⟩ := Nat.exists_eq_add_of_le h
  exact ones_flat f m d hc
theorem ones_len (f : Nat → Nat) : ∀ k, (onesTo f k).length = cnt f k
  | 0 => rfl
  | k + 1 => by
    rw [cnt_succ]
    cases hb : bit f k with
    | false => rw [onesTo_no f k hb, ones_len f k]; simp
    | true => rw [onesTo_yes f k hb, List.length_append, ones_len f k]; simp
theorem ones_not (f : Nat → Nat) {m j x : Nat} (h : m ≤ j) (hj : j < 2048) (hc : ∀ i, m ≤ i → i < j → bit f i = false) (hb : bit f j = true) (hx : x ≠ j) : ¬ (onesTo f m ++ [x]) <+: onesTo f 2048 := by
  intro hp
  have h1 : (onesTo f m ++ [j]) <+: onesTo f 2048 := by
    have := onesTo_prefix f (a := j + 1) (b := 2048) (by omega)
    rwa [onesTo_yes f j hb, ones_flat' f h hc] at this
  have h2 := List.prefix_of_prefix_length_le hp h1 (by simp)
  have h3 := h2.eq_of_length (by simp)
  simp at h3
  exact hx h3
theorem ones_end (f : Nat → Nat) {m x : Nat} (h : m ≤ 2048) (hc : ∀ i, m ≤ i → i < 2048 → bit f i = false) : ¬ (onesTo f m ++ [x]) <+: onesTo f 2048 := by
  intro hp
  have := hp.length_le
  rw [ones_flat' f h hc] at this
  simp at this
  omega

/-- Those that the last statement reads. -/
structure AV2 (f : Nat → Nat) (w : World) (L : Nat) (nn : Int) (W : World) : Prop where
  b : W.heap[w.heap.size]? = some (.cells (bc f) 23)
  nn : W.heap[L + 1 + 1]? = some (.cells #[.int .i64 nn] 3)
theorem AVars.two {f : Nat → Nat} {st : Int} {w : World} {R L : Nat} {nx nn : Int} {W : World} (h : AVars f st w R L nx nn W) : AV2 f w L nn W := ⟨h.b, h.nn⟩

/-- What holds where the inner loop comes to the bit j, from m on: those between are clear. -/
def ARel (f : Nat → Nat) (st : Int) (w : World) (R L m k n₀ : Nat) (W wr : World) : Prop :=
  ∃ j : Nat, m ≤ j ∧ j ≤ 2048 ∧ (∀ i, m ≤ i → i < j → bit f i = false) ∧ AVars f st w R L j k wr ∧ KeepsOthers W wr ∧ Below n₀ W wr

/-- How many bits the inner loop has left. -/
def aLeft (L : Nat) (wr : World) : Nat := match wr.cell? ⟨L + 1, 0, none⟩ with
  | some v => (2048 - intOf v).toNat
  | none => 0
theorem aLeft_of {L : Nat} {wr : World} {j : Int} {t : TypeId} (h : wr.heap[L + 1]? = some (.cells #[.int .i64 j] t)) : aLeft L wr = (2048 - j).toNat := by
  unfold aLeft; rw [cell_of_one' h]; rfl

set_option maxRecDepth 100000 in
set_option maxHeartbeats 2000000 in
theorem ball_walk (f : Nat → Nat) (hf : Bytes f) (st : Int) (w : World) :
    Calls Try.prog 3 #[.agg (bc f), .int .i64 st] w fun e w' => e = .returned (.bool true) ∧ Below w.heap.size w w' := by
  have HF := Lib.hid hf
  clear hf
  refine callsIn_wide (n := 10).1 ?_
  refine callsIn_of_wp_marks Try.func3 rfl trivial ?_ rfl
  simp only [Try.ntmps3, List.size_toArray, List.length_cons, List.length_nil, Nat.reduceAdd, Nat.reduceSub, Array.replicate_succ, Array.replicate_zero, List.push_toArray, List.append_toArray, List.nil_append, List.cons_append]
  refine wpIn_wide.2 ?_
  have HB1 : Hid (Below w.heap.size w (((w.alloc (.cells (bc f) 23)).alloc (.cells #[.int .i64 st] 3)).alloc (.cells #[.bool false] 4))) := Lib.hid ((((Below.refl w.heap.size w).alloc (Nat.le_refl _) (.cells (bc f) 23)).alloc (by simp) (.cells #[.int .i64 st] 3)).alloc (by simp; omega) (.cells #[.bool false] 4))
  have HB2 : Hid (Below w.heap.size w ((((w.alloc (.cells (bc f) 23)).alloc (.cells #[.int .i64 st] 3)).alloc (.cells #[.bool false] 4)).alloc (.cells (bc f) 23))) := Lib.hid (HB1.out.alloc HB1.out.size _)
  have HS1 : Hid ((((w.alloc (.cells (bc f) 23)).alloc (.cells #[.int .i64 st] 3)).alloc (.cells #[.bool false] 4)).heap.size = w.heap.size + 1 + 1 + 1) := Lib.hid (by simp)
  have G0 : Hid ((((w.alloc (.cells (bc f) 23)).alloc (.cells #[.int .i64 st] 3)).alloc (.cells #[.bool false] 4)).heap[w.heap.size]? = some (.cells (bc f) 23)) := Lib.hid ((Below.heap_alloc _ _ _ (by simp; omega)).trans (heap_alloc2_old _ _ _))
  have G0s : Hid ((((w.alloc (.cells (bc f) 23)).alloc (.cells #[.int .i64 st] 3)).alloc (.cells #[.bool false] 4)).heap[w.heap.size + 1]? = some (.cells #[.int .i64 st] 3)) := Lib.hid ((Below.heap_alloc _ _ _ (by simp)).trans (heap_alloc2_new _ _ _))
  have G0r : Hid ((((w.alloc (.cells (bc f) 23)).alloc (.cells #[.int .i64 st] 3)).alloc (.cells #[.bool false] 4)).heap[w.heap.size + 1 + 1]? = some (.cells #[.bool false] 4)) := Lib.hid (by have := heap_alloc_new ((w.alloc (.cells (bc f) 23)).alloc (.cells #[.int .i64 st] 3)) (.cells #[.bool false] 4); simpa using this)
  have G1 : Hid (((((w.alloc (.cells (bc f) 23)).alloc (.cells #[.int .i64 st] 3)).alloc (.cells #[.bool false] 4)).alloc (.cells (bc f) 23)).heap[w.heap.size]? = some (.cells (bc f) 23)) := Lib.hid ((Below.heap_alloc _ _ _ (by simp; omega)).trans G0.out)
  have G1s : Hid (((((w.alloc (.cells (bc f) 23)).alloc (.cells #[.int .i64 st] 3)).alloc (.cells #[.bool false] 4)).alloc (.cells (bc f) 23)).heap[w.heap.size + 1]? = some (.cells #[.int .i64 st] 3)) := Lib.hid ((Below.heap_alloc _ _ _ (by simp)).trans G0s.out)
  have G1r : Hid (((((w.alloc (.cells (bc f) 23)).alloc (.cells #[.int .i64 st] 3)).alloc (.cells #[.bool false] 4)).alloc (.cells (bc f) 23)).heap[w.heap.size + 1 + 1]? = some (.cells #[.bool false] 4)) := Lib.hid ((Below.heap_alloc _ _ _ (by simp)).trans G0r.out)
  have G1q : Hid (((((w.alloc (.cells (bc f) 23)).alloc (.cells #[.int .i64 st] 3)).alloc (.cells #[.bool false] 4)).alloc (.cells (bc f) 23)).heap[w.heap.size + 1 + 1 + 1]? = some (.cells (bc f) 23)) := Lib.hid (by have := heap_alloc_new (((w.alloc (.cells (bc f) 23)).alloc (.cells #[.int .i64 st] 3)).alloc (.cells #[.bool false] 4)) (.cells (bc f) 23); rwa [HS1.out] at this)
  have hsn := run_seq_nil (w.heap.size + 1 + 1 + 1)
  go_wp2_with (first | (refine wpList_load_block rfl _ rfl w.heap.size rfl f G1.out ?_) | (refine wpList_load_block rfl _ rfl w.heap.size rfl f G0.out ?_) | (go_at_call 11; refine (all_any f _).mono ?_; rintro e w2 ⟨rfl, hw2⟩) | (go_at_call 12; refine (of_at f HF.out (w.heap.size + 1 + 1 + 1 + 1) _ (by simp)).mono ?_; rintro e w3 ⟨rfl, h3⟩))
  have hl3 : w.heap.size + 1 + 1 + 1 + 1 + 1 < w3.heap.size := (Array.getElem?_eq_some_iff.1 h3.row).1
  have hbb : Below w3.heap.size w3 (((w3.alloc (.cells #[.slice (some ⟨w.heap.size + 1 + 1 + 1 + 1 + 1, 0, none⟩) 2048 2048] 27)).alloc (.cells #[.int .i64 0] 3)).alloc (.cells #[.int .i64 0] 3)) := (((Below.refl _ w3).alloc (Nat.le_refl _) _).alloc (by simp) _).alloc (by simp; omega) _
  have V0 : Hid (AVars f st w (w.heap.size + 1 + 1 + 1 + 1 + 1) w3.heap.size 0 0 (((w3.alloc (.cells #[.slice (some ⟨w.heap.size + 1 + 1 + 1 + 1 + 1, 0, none⟩) 2048 2048] 27)).alloc (.cells #[.int .i64 0] 3)).alloc (.cells #[.int .i64 0] 3))) := Lib.hid (by
    refine ⟨Below.get hbb (Below.get h3.below G1.out), Below.get hbb (Below.get h3.below G1s.out), Below.get hbb (Below.get h3.below G1r.out), Below.get hbb h3.row, ?_, ?_, ?_, HB2.out.trans ((h3.below.mono HB2.out.size).trans (hbb.mono (by omega)))⟩
    · exact (Below.heap_alloc _ _ _ (by simp; omega)).trans (heap_alloc2_old _ _ _)
    · exact (Below.heap_alloc _ _ _ (by simp)).trans (heap_alloc2_new _ _ _)
    · have := heap_alloc_new ((w3.alloc (.cells #[.slice (some ⟨w.heap.size + 1 + 1 + 1 + 1 + 1, 0, none⟩) 2048 2048] 27)).alloc (.cells #[.int .i64 0] 3)) (.cells #[.int .i64 0] 3); simpa using this)
  have HQ : Hid ((((w3.alloc (.cells #[.slice (some ⟨w.heap.size + 1 + 1 + 1 + 1 + 1, 0, none⟩) 2048 2048] 27)).alloc (.cells #[.int .i64 0] 3)).alloc (.cells #[.int .i64 0] 3)).heap[w.heap.size + 1 + 1 + 1]? = some (.cells (bc f) 23)) := Lib.hid (Below.get hbb (Below.get h3.below G1q.out))
  obtain ⟨W0, hW0⟩ : ∃ W0, W0 = (((w3.alloc (.cells #[.slice (some ⟨w.heap.size + 1 + 1 + 1 + 1 + 1, 0, none⟩) 2048 2048] 27)).alloc (.cells #[.int .i64 0] 3)).alloc (.cells #[.int .i64 0] 3)) := ⟨_, rfl⟩
  have hsz : W0.heap.size = w3.heap.size + 1 + 1 + 1 := by rw [hW0]; simp
  rw [← hW0] at V0 HQ ⊢
  obtain ⟨L, hL⟩ : ∃ L, L = w3.heap.size := ⟨_, rfl⟩
  rw [← hL] at V0 hl3 hsz ⊢
  clear hW0 hL hbb h3 G0 G0s G0r G1 G1s G1r G1q HB1 HB2 HS1 hsn
  refine wpIn_wide (n := 10).1 ?_
  refine wpIn_rangeFunc_ownF rfl (by omega) (gf := 23) (lb := #[.pointer (some ⟨w.heap.size + 1 + 1 + 1, 0, none⟩)]) rfl trivial (enters_of Try.func23 (by kernel_rfl) rfl)
    (all_stops f HF.out (10 - 1) (by omega) (w.heap.size + 1 + 1 + 1) (w.heap.size + 1 + 1 + 1 + 1) (by omega) W0 HQ.out) belowK_t (belowK_b (by omega)) (Below.refl _ _) (fun _ => rfl)
    (fun pre W => ∃ m : Nat, m ≤ 2048 ∧ pre = onesTo f m ∧ AVars f st w (w.heap.size + 1 + 1 + 1 + 1 + 1) L m pre.length W)
    (fun c pre W => c = .ret ∧ (¬ pre <+: onesTo f 2048 ∨ (W.heap[w.heap.size + 1 + 1]? = some (.cells #[.bool true] 4) ∧ Below w.heap.size w W)))
    (fun s A A' row hs hg hr => by obtain ⟨m, h1, h2, h3⟩ := hs; exact ⟨m, h1, h2, h3.kept (B := W0.heap.size) (by omega) hg hr⟩)
    (fun c s A A' row hs hg hr => ⟨hs.1, hs.2.imp id fun h => ⟨heap_kept hg (fun r e => (hr r e).2) h.1, h.2.grown hg h.2.size (fun k e => Nat.le_trans (by omega) (hr k e).1)⟩⟩)
    ⟨0, by omega, rfl, V0.out⟩
    (fun x => { tmps := #[.agg (bc f), .int .i64 st, .pointer (some ⟨w.heap.size, 0, none⟩), .pointer (some ⟨w.heap.size + 1, 0, none⟩), .pointer (some ⟨w.heap.size + 1 + 1, 0, none⟩), .func (.func 23) #[] #[.pointer (some ⟨w.heap.size + 1 + 1 + 1, 0, none⟩)],
      .pointer (some ⟨L, 0, none⟩), .pointer (some ⟨L + 1, 0, none⟩), .pointer (some ⟨L + 1 + 1, 0, none⟩), .int .i64 x, .agg (bc f), .func (.func 23) #[] #[.pointer (some ⟨w.heap.size + 1 + 1 + 1, 0, none⟩)], .func (.func 23) #[] #[.pointer (some ⟨w.heap.size + 1 + 1 + 1, 0, none⟩)], .bool false, .agg (bc f), .slice (some ⟨w.heap.size + 1 + 1 + 1 + 1 + 1, 0, none⟩) 2048 2048, .func (.func 23) #[] #[.pointer (some ⟨w.heap.size + 1 + 1 + 1, 0, none⟩)], .int .i64 x,
      undef, undef, undef, undef, undef, undef, undef, undef, undef, undef, undef, undef, undef, undef, undef, undef, undef, undef, undef, undef, undef, undef, undef, undef, undef, undef, undef, undef, undef], defers := [] }) ?assign ?body ?done ?stop
  case assign =>
    intro l x W K hK
    gi_wp2
    exact hK
  case body =>
    rintro l pre x W ⟨m, hm, rfl, hV⟩ hlen
    gi_wp2
    gi_loopw [18] (fun _ wr => ARel f st w (w.heap.size + 1 + 1 + 1 + 1 + 1) L m (onesTo f m).length (w.heap.size + 1 + 1 + 1 + 1) W wr) (fun _ wr => aLeft L wr)
    case atStart => exact ⟨m, Nat.le_refl _, hm, fun i h1 h2 => by omega, hV, KeepsOthers.refl _, Below.refl _ _⟩
    case round =>
      obtain ⟨j, hj1, hj2, hj3, hA, hKo, hBl⟩ := hrel
      have HJ := Lib.hid hj3
      have HA := Lib.hid hA
      have HKo := Lib.hid hKo
      have HBl := Lib.hid hBl
      have cnx := cell_of_one' hA.nx
      have znx := frozen_of_row _ _ 0 _ _ hA.nx
      have cl := cell_of_one' hA.l
      clear hj3 hA hKo hBl
      by_cases hjl : j < 2048
      · have hjl3 : (j : Int) < 2048 := by omega
        have crow : wr.cell? ⟨w.heap.size + 1 + 1 + 1 + 1 + 1, j, none⟩ = some (.bool (bit f j)) := by rw [cell_of_row _ _ _ _ _ _ HA.out.row]; exact bl_get _ j hjl
        cases hb : bit f j with
        | false =>
          rw [hb] at crow
          gi_wp2
          have HX := HA.out.setNx (by omega) (by omega) ((j : Int) + 1)
          refine ⟨⟨j + 1, by omega, by omega, fun i h1 h2 => ?_, by simpa using HX, HKo.out.trans (KeepsOthers.setCell _ _ _), HBl.out.setCell (p := ⟨L + 1, 0, none⟩) (by simp; omega) _⟩, ?_⟩
          · by_cases e : i = j
            · rw [e]; exact hb
            · exact HJ.out i h1 (by omega)
          · rw [aLeft_of HX.nx, aLeft_of HA.out.nx]; omega
        | true =>
          rw [hb] at crow
          have cres := cell_of_one' HA.out.res
          have zres := frozen_of_row _ _ 0 _ _ HA.out.res
          by_cases hxj : x = j
          · subst hxj
            have cnn := cell_of_one' HA.out.nn
            have znn := frozen_of_row _ _ 0 _ _ HA.out.nn
            have cst := cell_of_one' HA.out.st
            have hne : ((x : Int) == 2048) = false := by simp; omega
            have hne2 : ((x : Int) != (x : Int)) = false := by simp
            have HX := Lib.hid ((HA.out.setNx (by omega) (by omega) ((x : Int) + 1)).setNn (by omega) (by omega) (((onesTo f m).length : Int) + 1))
            have HY := Lib.hid (onesTo_yes f x hb)
            have HZ := Lib.hid (ones_flat' f hj1 HJ.out)
            by_cases hst : ((onesTo f m).length : Int) + 1 = st
            · have hst1 : (((onesTo f m).length : Int) + 1 == st) = true := by simpa using hst
              have HT := Lib.hid hst
              clear hst
              gi_wp2
              refine ⟨((HKo.out.trans (KeepsOthers.setCell _ _ _)).trans (KeepsOthers.setCell _ _ _)).trans (KeepsOthers.setCell _ _ _), rfl, .inr ⟨heap_setCell_same _ _ 0 _ _ _ HX.out.res, HX.out.below.setCell (p := ⟨w.heap.size + 1 + 1, 0, none⟩) (by simp; omega) _⟩⟩
            · have hst1 : (((onesTo f m).length : Int) + 1 == st) = false := by simpa using hst
              clear hst
              gi_wp2
              refine ⟨(HKo.out.trans (KeepsOthers.setCell _ _ _)).trans (KeepsOthers.setCell _ _ _), (HBl.out.setCell (p := ⟨L + 1, 0, none⟩) (by simp; omega) _).setCell (p := ⟨L + 1 + 1, 0, none⟩) (by simp; omega) _, x + 1, by omega, by rw [HY.out, HZ.out], ?_⟩
              have hX := HX.out
              simpa using hX
          · have hne : ((x : Int) != (j : Int)) = true := by simp; omega
            gi_wp2
            refine ⟨HKo.out.trans (KeepsOthers.setCell _ _ _), rfl, .inl (ones_not f hj1 hjl HJ.out hb hxj)⟩
      · obtain rfl : j = 2048 := by omega
        have cres := cell_of_one' HA.out.res
        have zres := frozen_of_row _ _ 0 _ _ HA.out.res
        by_cases hx : ((x : Int) != 2048) = true
        · gi_wp2
          refine ⟨HKo.out.trans (KeepsOthers.setCell _ _ _), rfl, .inl (ones_end f hm HJ.out)⟩
        · have hx2 : ((x : Int) != 2048) = false := by simpa using hx
          gi_wp2
          refine ⟨HKo.out.trans (KeepsOthers.setCell _ _ _), rfl, .inl (ones_end f hm HJ.out)⟩
  case done =>
    rintro D ys W hD rfl ⟨m, hm, hpre, hV⟩ hK
    rw [ones_len f 2048] at hV
    have e2048 : clamp 2048 = 2048 := by decide
    have HC := Lib.hid e2048
    clear e2048 hpre
    go_wp2
    refine wp_region_noPanic ?_
    refine wp_region_held (S := fun W' => AV2 f w L (cnt f 2048) W') (by kernel_rfl) ?_
    have hS : AVars f st w (w.heap.size + 1 + 1 + 1 + 1 + 1) L m (cnt f 2048) { W with drawn := W.drawn + 1 } := ⟨hV.b, hV.st, hV.res, hV.row, hV.l, hV.nx, hV.nn, ⟨hV.below.os, hV.below.tape, hV.below.output, hV.below.size, hV.below.block⟩⟩
    have hKd : ({ W with drawn := W.drawn + 1 } : World).heap[D]? = some (.deferred (some [])) := hK
    obtain ⟨W1, hW1⟩ : ∃ W1 : World, W1 = { W with drawn := W.drawn + 1 } := ⟨_, rfl⟩
    rw [← hW1] at hS hKd ⊢
    clear hW1 hV hK
    refine wpAnyH_take (i := 0) (v := .int .i64 (cnt f 2048)) rfl (by kernel_rfl) (by kernel_rfl) (by kernel_rfl) (fun _ _ _ h => h) (.inl ⟨rfl, fun W' hS => by have hc := cell_of_one' hS.nn; go_simp⟩) hS.two ?_
    refine wpAnyH_take (i := 1) (v := .agg (bc f)) rfl (by kernel_rfl) (by kernel_rfl) (by kernel_rfl) (fun _ _ _ h => h) (.inl ⟨rfl, fun W' hS => run_load_block _ rfl _ rfl f hS.b⟩) hS.two ?_
    refine wpAnyH_all (rs := [2]) (by kernel_rfl) (by simp) ?_
    intro j hj
    obtain rfl : j = 2 := by simpa using hj
    refine wpOp_step rfl fun K' hK' => ?_
    have HS := Lib.hid hS
    have HD := Lib.hid hKd
    clear hS hKd
    go_simp
    refine (rcount_any f HF.out 2048 _).mono ?_
    rintro e W2 ⟨rfl, hb2⟩
    rw [HC.out]
    have hS := HS.out.get hb2
    refine hK' _ _ ⟨hS.two, ?_⟩
    clear hK'
    have hKd : W2.heap[D]? = some (.deferred (some [])) := Below.get hb2 HD.out
    refine wpAnyH_take (i := 3) (v := .bool true) rfl (by kernel_rfl) (by kernel_rfl) (by kernel_rfl) (fun _ _ _ h => h) (.inl ⟨rfl, fun W' hS => by go_simp⟩) hS.two ?_
    refine wpAnyH_all (rs := [4]) (by kernel_rfl) (by simp) ?_
    intro j hj
    obtain rfl : j = 4 := by simpa using hj
    refine wpOp_step rfl fun K' hK' => ?_
    have hcr := cell_of_one' hS.res
    have hzr := frozen_of_row _ _ 0 _ _ hS.res
    have HS2 := Lib.hid hS
    have HD2 := Lib.hid hKd
    clear hS hKd
    go_simp
    refine hK' _ _ ⟨?_, ?_⟩
    · exact ⟨(heap_setCell_other _ _ _ _ (by simp; omega)).trans HS2.out.b, (heap_setCell_other _ _ _ _ (by simp; omega)).trans HS2.out.nn⟩
    clear hK'
    have hR := Lib.hid (heap_setCell_same _ _ 0 _ _ (.bool true) HS2.out.res)
    have HB2 := Lib.hid (HS2.out.below.setCell (p := ⟨w.heap.size + 1 + 1, 0, none⟩) (by simp; omega) (.bool true))
    have hDr : D ≠ w.heap.size + 1 + 1 := fun e => by have h1 := HD2.out; rw [e, HS2.out.res] at h1; cases h1
    have HD3 := Lib.hid ((heap_setCell_other W2 ⟨w.heap.size + 1 + 1, 0, none⟩ D (.bool true) hDr).trans HD2.out)
    refine wpAnyH_done (by kernel_rfl) ?_ _
    refine NoPanic.normal ?_
    obtain ⟨W3, hW3⟩ : ∃ W3, W3 = W2.setCell ⟨w.heap.size + 1 + 1, 0, none⟩ (.bool true) := ⟨_, rfl⟩
    rw [← hW3] at hR HB2 HD3 ⊢
    clear hW3
    go_simp
    go_wp2
    refine ⟨by simp, .inl ⟨_, _, rfl, run_takeDeferred HD3.out, ?_⟩⟩
    have hc5 := cell_of_one' (heap_kept (grownBy_putObj' W3 D (.deferred none)) (fun r e => by cases e; exact ⟨_, HD3.out, rfl⟩) hR.out)
    refine ⟨.bool true, ?_, rfl, HB2.out.trans (belowK_b (w := w) (Nat.le_refl _) _ D _ _ (by omega) HD3.out rfl rfl)⟩
    simp [results, Try.f3, go_sem, hc5]
  case stop =>
    rintro D c pre W hD hSp ⟨rfl, hn⟩ hK
    rcases hn with hn | ⟨hR, hB⟩
    · exact absurd hSp hn
    refine wpIn_wide.2 ?_
    have HD := Lib.hid hK
    have HR := Lib.hid hR
    have HB := Lib.hid hB
    clear hK hR hB
    go_wp2
    refine ⟨by simp, .inl ⟨_, _, rfl, run_takeDeferred HD.out, ?_⟩⟩
    have hc5 := cell_of_one' (heap_kept (grownBy_putObj' W D (.deferred none)) (fun r e => by cases e; exact ⟨_, HD.out, rfl⟩) HR.out)
    refine ⟨.bool true, ?_, rfl, HB.out.trans (belowK_b (w := w) (Nat.le_refl _) _ D _ _ (by omega) HD.out rfl rfl)⟩
    simp [results, Try.f3, go_sem, hc5]
end Go.Proofs.Ytiajohnnmnoijaa
