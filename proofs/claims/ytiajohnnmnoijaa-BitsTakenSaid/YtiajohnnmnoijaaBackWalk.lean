/-
  The walk of quernlaw04.BitsBack: it returns true, of any block and numbers, and changes nothing that was there.
  Conditions: none.
-/
import Derived.Test.YtiajohnnmnoijaaAwake
import Derived.Test.YtiajohnnmnoijaaQuiet
namespace Go.Proofs.Ytiajohnnmnoijaa
open Go.RowKit Go.Sort Go.BigFrame
attribute [local go_sem] run_equalIn_top

theorem eqB_self (f : Nat → Nat) : eqB f f = true := (eqB_iff f f).2 fun _ _ => rfl

/-- The two blocks of BitsBack: b in its box, c behind p. -/
structure Two (f g : Nat → Nat) (p : Nat) (w wr : World) : Prop where
  below : Below w.heap.size w wr
  box : wr.heap[w.heap.size]? = some (.cells (bc f) 23)
  here : wr.heap[p]? = some (.cells (bc g) 23)

theorem Two.get {f g : Nat → Nat} {p : Nat} {w wr w2 : World} (h : Two f g p w wr) (h2 : Below wr.heap.size wr w2) : Two f g p w w2 :=
  ⟨h.below.trans (h2.mono h.below.size), (h2.block _ (Array.getElem?_eq_some_iff.1 h.box).1).trans h.box, (h2.block _ (Array.getElem?_eq_some_iff.1 h.here).1).trans h.here⟩
theorem Two.wrote {f g g2 : Nat → Nat} {p : Nat} {w wr w2 : World} (h : Two f g p w wr) (hp : w.heap.size < p) (h2 : Wrote p g2 wr w2) : Two f g2 p w w2 :=
  ⟨h.below.trans (h2.below (by omega)), (h2.block _ (by omega)).trans h.box, h2.here⟩
theorem Two.start {f : Nat → Nat} {w w1 : World} (hb : Below w.heap.size w w1) (hx : w1.heap[w.heap.size]? = some (.cells (bc f) 23)) :
    Two f f w1.heap.size w ((w1.alloc (.cells (bc zB) 23)).setRow w1.heap.size (bc f)) := by
  have hlt : w.heap.size < w1.heap.size := (Array.getElem?_eq_some_iff.1 hx).1
  refine ⟨?_, ?_, setRow_heap _ _ _ (bc f) _ _ (heap_alloc_new w1 (.cells (bc zB) 23))⟩
  · exact below_setRow (hb.alloc hb.size _) hb.size _
  · rw [setRow_other _ _ _ _ (by omega)]
    have := (Below.refl w1.heap.size w1).alloc (Nat.le_refl _) (.cells (bc zB) 23)
    exact (this.block _ hlt).trans hx

theorem has_is (f : Nat → Nat) (hf : Bytes f) (i : Int) (w : World) (b : Bool) (h : hasB f i = b) :
    Calls Try.prog 17 #[.agg (bc f), .int .i64 i] w fun e w' => e = .returned (.bool b) ∧ Below w.heap.size w w' := by subst h; exact has_any f hf i w

theorem hasB_set_other (f : Nat → Nat) (i k : Int) (h : i ≠ k) : hasB (setI f i) k = hasB f k := by
  rcases isB_cases k with hk | ⟨n, hn, rfl⟩
  · rw [hasB_no _ _ hk, hasB_no _ _ hk]
  · rw [hasB_nat _ n hn, hasB_nat _ n hn]
    unfold setI; split
    · rename_i hs
      simp only [Bool.and_eq_true] at hs
      rw [bit_setB]
      have : ¬ n = i.toNat := by
        have h1 := hs.1; unfold isB at h1; simp at h1; omega
      simp [this]
    · rfl

set_option maxRecDepth 100000 in
set_option maxHeartbeats 2000000 in
theorem back_set (f : Nat → Nat) (hf : Bytes f) (i k : Int) (w : World) (n : Nat) (hn : n < 2048) (hi : i = n) (hb : bit f n = false) :
    Calls Try.prog 8 #[.agg (bc f), .int .i64 i, .int .i64 k] w fun e w' => e = .returned (.bool true) ∧ Below w.heap.size w w' := by
  have HF := Lib.hid hf
  have HX := Lib.hid (Boxes.mk1 f w)
  have hoth : i ≠ k → hasB (setI f i) k = hasB f k := hasB_set_other f i k
  have HO := Lib.hid hoth
  have HS := Lib.hid (setI_bytes hf i)
  have hI : isB i = true := by rw [hi]; exact isB_nat n hn
  have hT : i.toNat = n := by rw [hi]; rfl
  have e1 : setI f i = setB f n := by unfold setI; rw [hI, hT, hb]; rfl
  have c1 : bit (setI f i) n = true := by rw [e1, bit_setB]; simp
  have HC := Lib.hid (clrI_bytes (setI_bytes hf i) i)
  have e2 : clrI (setI f i) i = clrB (setI f i) n := by unfold clrI; rw [hI, hT, c1]; rfl
  have c2 : bit (clrI (setI f i) i) n = false := by rw [e2, bit_clrB]; simp
  have q2 : eqB (clrI (setI f i) i) f = true := by
    rw [eqB_iff]
    refine block_ext (clrI_bytes (setI_bytes hf i) i) hf fun j _ => ?_
    rw [e2, bit_clrB, e1, bit_setB]
    by_cases h : j = n
    · subst h; simp [hb]
    · simp [h]
  have HD := Lib.hid (clrI_bytes (clrI_bytes (setI_bytes hf i) i) i)
  have e3 : clrI (clrI (setI f i) i) i = clrI (setI f i) i := by
    rw [show clrI (clrI (setI f i) i) i = if isB i && bit (clrI (setI f i) i) i.toNat then clrB (clrI (setI f i) i) i.toNat else clrI (setI f i) i from rfl, hI, hT, c2]; simp
  have s1 : (isB i && !bit f i.toNat) = true := by rw [hI, hT, hb]; rfl
  have s2 : (isB i && bit (setI f i) i.toNat) = true := by rw [hI, hT, c1]; rfl
  have s3 : (isB i && bit (clrI (setI f i) i) i.toNat) = false := by rw [hT, c2]; simp
  have t1 : hasB f i = false := by rw [hi, hasB_nat f n hn]; exact hb
  have t2 : hasB (setI f i) i = true := by rw [hi, hasB_nat _ n hn, ← hi]; exact c1
  have t3 : hasB (clrI (clrI (setI f i) i) i) i = false := by rw [e3, hi, hasB_nat _ n hn, ← hi]; exact c2
  clear e1 e2 e3 c1 c2 hb hi hI hT
  clear hf hoth
  have hcase : (i != k) = false ∨ ((i != k) = true ∧ (hasB (setI f i) k == hasB f k) = true) := by
    by_cases e : i = k
    · left; simp [e]
    · right; exact ⟨by simpa using e, by rw [HO.out e]; simp⟩
  clear HO
  rcases hcase with hik | ⟨hik, hne⟩
  · go_enter Try.func8, Try.ntmps8
    go_wp2_with (first | (go_at_call 22; refine (awake_any _).mono ?_; rintro e w1 ⟨rfl, hb1⟩; have HX := Lib.hid (Two.start (HX.out.below.trans (hb1.mono HX.out.below.size)) (Below.get hb1 HX.out.box)); have HX1 := Lib.hid (Below.get hb1 (Boxes.mk1 f w).box); have hlt : w.heap.size < w1.heap.size := (Array.getElem?_eq_some_iff.1 HX1.out).1) | (refine wpList_load_block rfl _ rfl w.heap.size rfl f HX1.out ?_) | (refine wpList_alloc0 rfl rfl ?_) | (refine wpList_store_block rfl _ _ rfl w1.heap.size f rfl rfl zB (heap_alloc_new w1 _) ?_))
    obtain ⟨W, hW⟩ : ∃ W, W = (w1.alloc (.cells (bc zB) 23)).setRow w1.heap.size (bc f) := ⟨_, rfl⟩
    rw [← hW] at HX ⊢
    obtain ⟨p, hp⟩ : ∃ p, p = w1.heap.size := ⟨_, rfl⟩
    rw [← hp] at HX hlt ⊢
    clear hW hp HX1
    refine (set_any p f HF.out i _ HX.out.here).mono ?_
    rintro e w2 ⟨rfl, hw2⟩
    have HX := Lib.hid (HX.out.wrote hlt hw2)
    clear hw2
    go_wp2
    refine wp_region_quiet_below (by kernel_rfl) (by kernel_rfl) ?_
    repeat (first | go_big_quiet_skip | (go_big_quiet_want; (first | (refine quiet_load_block _ rfl w.heap.size rfl f HX.out.box ?_) | (refine quiet_load_block _ rfl p rfl (setI f i) HX.out.here ?_)); go_big_quiet_on; simp only [Act.put, List.setIfInBounds_toArray, List.set_cons_succ, List.set_cons_zero]) | go_big_quiet_step (first | (go_at_call 17; exact Calls.regrown_of (has_is _ (by first | exact HF.out | exact HS.out) _ _ _ (by first | exact t1 | exact t2 | rfl)))))
    refine wpQuiet_nil ?_
    rintro _ ⟨q, rfl⟩
    have HX := Lib.hid (HX.out.get (below_regrown w2 q.d q.os))
    obtain ⟨w3, hw3⟩ : ∃ w3, w3 = grow (redrawn w2 q.d) q.os := ⟨_, rfl⟩
    rw [← hw3] at HX ⊢
    clear hw3
    go_wp2_with fail
    refine (clear_any p (setI f i) HS.out i _ HX.out.here).mono ?_
    rintro e w4 ⟨rfl, hw4⟩
    have HX := Lib.hid (HX.out.wrote hlt hw4)
    clear hw4
    go_wp2_with (first | (refine wpList_load_block rfl _ rfl p rfl (clrI (setI f i) i) HX.out.here ?_) | (refine wpList_load_block rfl _ rfl w.heap.size rfl f HX.out.box ?_))
    refine (clear_any p (clrI (setI f i) i) HC.out i _ HX.out.here).mono ?_
    rintro e w5 ⟨rfl, hw5⟩
    have HX := Lib.hid (HX.out.wrote hlt hw5)
    clear hw5
    go_wp2_with (first | (refine wpList_load_block rfl _ rfl w.heap.size rfl f HX.out.box ?_) | (refine wpList_load_block rfl _ rfl p rfl _ HX.out.here ?_) | (go_at_call 17; refine (has_any _ (by first | exact HF.out | exact HD.out) _ _).mono ?_; rintro e w6 ⟨rfl, hw6⟩; have HX := Lib.hid (HX.out.get hw6); clear hw6))
    go_ret
    exact ⟨rfl, HX.out.below⟩
  · go_enter Try.func8, Try.ntmps8
    go_wp2_with (first | (go_at_call 22; refine (awake_any _).mono ?_; rintro e w1 ⟨rfl, hb1⟩; have HX := Lib.hid (Two.start (HX.out.below.trans (hb1.mono HX.out.below.size)) (Below.get hb1 HX.out.box)); have HX1 := Lib.hid (Below.get hb1 (Boxes.mk1 f w).box); have hlt : w.heap.size < w1.heap.size := (Array.getElem?_eq_some_iff.1 HX1.out).1) | (refine wpList_load_block rfl _ rfl w.heap.size rfl f HX1.out ?_) | (refine wpList_alloc0 rfl rfl ?_) | (refine wpList_store_block rfl _ _ rfl w1.heap.size f rfl rfl zB (heap_alloc_new w1 _) ?_))
    obtain ⟨W, hW⟩ : ∃ W, W = (w1.alloc (.cells (bc zB) 23)).setRow w1.heap.size (bc f) := ⟨_, rfl⟩
    rw [← hW] at HX ⊢
    obtain ⟨p, hp⟩ : ∃ p, p = w1.heap.size := ⟨_, rfl⟩
    rw [← hp] at HX hlt ⊢
    clear hW hp HX1
    refine (set_any p f HF.out i _ HX.out.here).mono ?_
    rintro e w2 ⟨rfl, hw2⟩
    have HX := Lib.hid (HX.out.wrote hlt hw2)
    clear hw2
    go_wp2
    refine wp_region_quiet_below (by kernel_rfl) (by kernel_rfl) ?_
    repeat (first | go_big_quiet_skip | (go_big_quiet_want; (first | (refine quiet_load_block _ rfl w.heap.size rfl f HX.out.box ?_) | (refine quiet_load_block _ rfl p rfl (setI f i) HX.out.here ?_)); go_big_quiet_on; simp only [Act.put, List.setIfInBounds_toArray, List.set_cons_succ, List.set_cons_zero]) | go_big_quiet_step (first | (go_at_call 17; exact Calls.regrown_of (has_is _ (by first | exact HF.out | exact HS.out) _ _ _ (by first | exact t1 | exact t2 | rfl)))))
    refine wpQuiet_nil ?_
    rintro _ ⟨q, rfl⟩
    have HX := Lib.hid (HX.out.get (below_regrown w2 q.d q.os))
    obtain ⟨w3, hw3⟩ : ∃ w3, w3 = grow (redrawn w2 q.d) q.os := ⟨_, rfl⟩
    rw [← hw3] at HX ⊢
    clear hw3
    go_wp2_with fail
    refine (clear_any p (setI f i) HS.out i _ HX.out.here).mono ?_
    rintro e w4 ⟨rfl, hw4⟩
    have HX := Lib.hid (HX.out.wrote hlt hw4)
    clear hw4
    go_wp2_with (first | (refine wpList_load_block rfl _ rfl p rfl (clrI (setI f i) i) HX.out.here ?_) | (refine wpList_load_block rfl _ rfl w.heap.size rfl f HX.out.box ?_))
    refine (clear_any p (clrI (setI f i) i) HC.out i _ HX.out.here).mono ?_
    rintro e w5 ⟨rfl, hw5⟩
    have HX := Lib.hid (HX.out.wrote hlt hw5)
    clear hw5
    go_wp2_with (first | (refine wpList_load_block rfl _ rfl w.heap.size rfl f HX.out.box ?_) | (refine wpList_load_block rfl _ rfl p rfl _ HX.out.here ?_) | (go_at_call 17; refine (has_any _ (by first | exact HF.out | exact HD.out) _ _).mono ?_; rintro e w6 ⟨rfl, hw6⟩; have HX := Lib.hid (HX.out.get hw6); clear hw6))
    go_ret
    exact ⟨rfl, HX.out.below⟩

set_option maxRecDepth 100000 in
set_option maxHeartbeats 2000000 in
theorem back_not (f : Nat → Nat) (hf : Bytes f) (i k : Int) (w : World) (h : isB i = false) :
    Calls Try.prog 8 #[.agg (bc f), .int .i64 i, .int .i64 k] w fun e w' => e = .returned (.bool true) ∧ Below w.heap.size w w' := by
  have HF := Lib.hid hf
  have HX := Lib.hid (Boxes.mk1 f w)
  have hoth : i ≠ k → hasB (setI f i) k = hasB f k := hasB_set_other f i k
  have HO := Lib.hid hoth
  have HS := Lib.hid (setI_bytes hf i)
  have e1 : setI f i = f := by unfold setI; rw [h]; rfl
  have e2 : clrI (setI f i) i = setI f i := by unfold clrI; rw [h]; rfl
  have HD := Lib.hid (clrI_bytes (setI_bytes hf i) i)
  have q1 : eqB (setI f i) f = true := by rw [e1]; exact eqB_self f
  have s1 : (isB i && !bit f i.toNat) = false := by rw [h]; rfl
  have s2 : (isB i && bit (setI f i) i.toNat) = false := by rw [h]; rfl
  have t1 : hasB f i = false := hasB_no f i h
  have t2 : hasB (clrI (setI f i) i) i = false := hasB_no _ i h
  clear e1 e2 h
  clear hf hoth
  have hcase : (i != k) = false ∨ ((i != k) = true ∧ (hasB (setI f i) k == hasB f k) = true) := by
    by_cases e : i = k
    · left; simp [e]
    · right; exact ⟨by simpa using e, by rw [HO.out e]; simp⟩
  clear HO
  rcases hcase with hik | ⟨hik, hne⟩
  · go_enter Try.func8, Try.ntmps8
    go_wp2_with (first | (go_at_call 22; refine (awake_any _).mono ?_; rintro e w1 ⟨rfl, hb1⟩; have HX := Lib.hid (Two.start (HX.out.below.trans (hb1.mono HX.out.below.size)) (Below.get hb1 HX.out.box)); have HX1 := Lib.hid (Below.get hb1 (Boxes.mk1 f w).box); have hlt : w.heap.size < w1.heap.size := (Array.getElem?_eq_some_iff.1 HX1.out).1) | (refine wpList_load_block rfl _ rfl w.heap.size rfl f HX1.out ?_) | (refine wpList_alloc0 rfl rfl ?_) | (refine wpList_store_block rfl _ _ rfl w1.heap.size f rfl rfl zB (heap_alloc_new w1 _) ?_))
    obtain ⟨W, hW⟩ : ∃ W, W = (w1.alloc (.cells (bc zB) 23)).setRow w1.heap.size (bc f) := ⟨_, rfl⟩
    rw [← hW] at HX ⊢
    obtain ⟨p, hp⟩ : ∃ p, p = w1.heap.size := ⟨_, rfl⟩
    rw [← hp] at HX hlt ⊢
    clear hW hp HX1
    refine (set_any p f HF.out i _ HX.out.here).mono ?_
    rintro e w2 ⟨rfl, hw2⟩
    have HX := Lib.hid (HX.out.wrote hlt hw2)
    clear hw2
    go_wp2
    refine wp_region_quiet_below (by kernel_rfl) (by kernel_rfl) ?_
    repeat (first | go_big_quiet_skip | (go_big_quiet_want; (first | (refine quiet_load_block _ rfl w.heap.size rfl f HX.out.box ?_) | (refine quiet_load_block _ rfl p rfl (setI f i) HX.out.here ?_)); go_big_quiet_on; simp only [Act.put, List.setIfInBounds_toArray, List.set_cons_succ, List.set_cons_zero]) | go_big_quiet_step (first | (go_at_call 17; exact Calls.regrown_of (has_is _ (by first | exact HF.out | exact HS.out) _ _ _ (by first | exact t1 | exact t2 | rfl)))))
    refine wpQuiet_nil ?_
    rintro _ ⟨q, rfl⟩
    have HX := Lib.hid (HX.out.get (below_regrown w2 q.d q.os))
    obtain ⟨w3, hw3⟩ : ∃ w3, w3 = grow (redrawn w2 q.d) q.os := ⟨_, rfl⟩
    rw [← hw3] at HX ⊢
    clear hw3
    go_wp2_with fail
    refine (clear_any p (setI f i) HS.out i _ HX.out.here).mono ?_
    rintro e w5 ⟨rfl, hw5⟩
    have HX := Lib.hid (HX.out.wrote hlt hw5)
    clear hw5
    go_wp2_with (first | (refine wpList_load_block rfl _ rfl w.heap.size rfl f HX.out.box ?_) | (refine wpList_load_block rfl _ rfl p rfl _ HX.out.here ?_) | (go_at_call 17; refine (has_any _ (by first | exact HF.out | exact HD.out) _ _).mono ?_; rintro e w6 ⟨rfl, hw6⟩; have HX := Lib.hid (HX.out.get hw6); clear hw6))
    go_ret
    exact ⟨rfl, HX.out.below⟩
  · go_enter Try.func8, Try.ntmps8
    go_wp2_with (first | (go_at_call 22; refine (awake_any _).mono ?_; rintro e w1 ⟨rfl, hb1⟩; have HX := Lib.hid (Two.start (HX.out.below.trans (hb1.mono HX.out.below.size)) (Below.get hb1 HX.out.box)); have HX1 := Lib.hid (Below.get hb1 (Boxes.mk1 f w).box); have hlt : w.heap.size < w1.heap.size := (Array.getElem?_eq_some_iff.1 HX1.out).1) | (refine wpList_load_block rfl _ rfl w.heap.size rfl f HX1.out ?_) | (refine wpList_alloc0 rfl rfl ?_) | (refine wpList_store_block rfl _ _ rfl w1.heap.size f rfl rfl zB (heap_alloc_new w1 _) ?_))
    obtain ⟨W, hW⟩ : ∃ W, W = (w1.alloc (.cells (bc zB) 23)).setRow w1.heap.size (bc f) := ⟨_, rfl⟩
    rw [← hW] at HX ⊢
    obtain ⟨p, hp⟩ : ∃ p, p = w1.heap.size := ⟨_, rfl⟩
    rw [← hp] at HX hlt ⊢
    clear hW hp HX1
    refine (set_any p f HF.out i _ HX.out.here).mono ?_
    rintro e w2 ⟨rfl, hw2⟩
    have HX := Lib.hid (HX.out.wrote hlt hw2)
    clear hw2
    go_wp2
    refine wp_region_quiet_below (by kernel_rfl) (by kernel_rfl) ?_
    repeat (first | go_big_quiet_skip | (go_big_quiet_want; (first | (refine quiet_load_block _ rfl w.heap.size rfl f HX.out.box ?_) | (refine quiet_load_block _ rfl p rfl (setI f i) HX.out.here ?_)); go_big_quiet_on; simp only [Act.put, List.setIfInBounds_toArray, List.set_cons_succ, List.set_cons_zero]) | go_big_quiet_step (first | (go_at_call 17; exact Calls.regrown_of (has_is _ (by first | exact HF.out | exact HS.out) _ _ _ (by first | exact t1 | exact t2 | rfl)))))
    refine wpQuiet_nil ?_
    rintro _ ⟨q, rfl⟩
    have HX := Lib.hid (HX.out.get (below_regrown w2 q.d q.os))
    obtain ⟨w3, hw3⟩ : ∃ w3, w3 = grow (redrawn w2 q.d) q.os := ⟨_, rfl⟩
    rw [← hw3] at HX ⊢
    clear hw3
    go_wp2_with fail
    refine (clear_any p (setI f i) HS.out i _ HX.out.here).mono ?_
    rintro e w5 ⟨rfl, hw5⟩
    have HX := Lib.hid (HX.out.wrote hlt hw5)
    clear hw5
    go_wp2_with (first | (refine wpList_load_block rfl _ rfl w.heap.size rfl f HX.out.box ?_) | (refine wpList_load_block rfl _ rfl p rfl _ HX.out.here ?_) | (go_at_call 17; refine (has_any _ (by first | exact HF.out | exact HD.out) _ _).mono ?_; rintro e w6 ⟨rfl, hw6⟩; have HX := Lib.hid (HX.out.get hw6); clear hw6))
    go_ret
    exact ⟨rfl, HX.out.below⟩

set_option maxRecDepth 100000 in
set_option maxHeartbeats 2000000 in
theorem back_is (f : Nat → Nat) (hf : Bytes f) (i k : Int) (w : World) (n : Nat) (hn : n < 2048) (hi : i = n) (hb : bit f n = true) :
    Calls Try.prog 8 #[.agg (bc f), .int .i64 i, .int .i64 k] w fun e w' => e = .returned (.bool true) ∧ Below w.heap.size w w' := by
  have HF := Lib.hid hf
  have HX := Lib.hid (Boxes.mk1 f w)
  have hoth : i ≠ k → hasB (setI f i) k = hasB f k := hasB_set_other f i k
  have HO := Lib.hid hoth
  have HS := Lib.hid (setI_bytes hf i)
  have hI : isB i = true := by rw [hi]; exact isB_nat n hn
  have hT : i.toNat = n := by rw [hi]; rfl
  have e1 : setI f i = f := by unfold setI; rw [hI, hT, hb]; rfl
  have e2 : clrI (setI f i) i = clrB f n := by rw [e1]; unfold clrI; rw [hI, hT, hb]; rfl
  have HD := Lib.hid (clrI_bytes (setI_bytes hf i) i)
  have c2 : bit (clrI (setI f i) i) n = false := by rw [e2, bit_clrB]; simp
  have e3 : setI (clrI (setI f i) i) i = setB (clrI (setI f i) i) n := by
    rw [show setI (clrI (setI f i) i) i = if isB i && !bit (clrI (setI f i) i) i.toNat then setB (clrI (setI f i) i) i.toNat else clrI (setI f i) i from rfl, hI, hT, c2]; rfl
  have q1 : eqB (setI f i) f = true := by rw [e1]; exact eqB_self f
  have q3 : eqB (setI (clrI (setI f i) i) i) f = true := by
    rw [eqB_iff]
    refine block_ext (setI_bytes (clrI_bytes (setI_bytes hf i) i) i) hf fun j _ => ?_
    rw [e3, bit_setB, e2, bit_clrB]
    by_cases h : j = n
    · subst h; simp [hb]
    · simp [h]
  have s1 : (isB i && !bit f i.toNat) = false := by rw [hT, hb]; simp
  have s2 : (isB i && bit (setI f i) i.toNat) = true := by rw [hI, hT, e1, hb]; rfl
  have s3 : (isB i && !bit (clrI (setI f i) i) i.toNat) = true := by rw [hI, hT, c2]; rfl
  have t1 : hasB f i = true := by rw [hi, hasB_nat f n hn]; exact hb
  have t2 : hasB (clrI (setI f i) i) i = false := by rw [hi, hasB_nat _ n hn, ← hi]; exact c2
  clear e1 e2 e3 c2 hb hi hI hT
  clear hf hoth
  have hcase : (i != k) = false ∨ ((i != k) = true ∧ (hasB (setI f i) k == hasB f k) = true) := by
    by_cases e : i = k
    · left; simp [e]
    · right; exact ⟨by simpa using e, by rw [HO.out e]; simp⟩
  clear HO
  rcases hcase with hik | ⟨hik, hne⟩
  · go_enter Try.func8, Try.ntmps8
    go_wp2_with (first | (go_at_call 22; refine (awake_any _).mono ?_; rintro e w1 ⟨rfl, hb1⟩; have HX := Lib.hid (Two.start (HX.out.below.trans (hb1.mono HX.out.below.size)) (Below.get hb1 HX.out.box)); have HX1 := Lib.hid (Below.get hb1 (Boxes.mk1 f w).box); have hlt : w.heap.size < w1.heap.size := (Array.getElem?_eq_some_iff.1 HX1.out).1) | (refine wpList_load_block rfl _ rfl w.heap.size rfl f HX1.out ?_) | (refine wpList_alloc0 rfl rfl ?_) | (refine wpList_store_block rfl _ _ rfl w1.heap.size f rfl rfl zB (heap_alloc_new w1 _) ?_))
    obtain ⟨W, hW⟩ : ∃ W, W = (w1.alloc (.cells (bc zB) 23)).setRow w1.heap.size (bc f) := ⟨_, rfl⟩
    rw [← hW] at HX ⊢
    obtain ⟨p, hp⟩ : ∃ p, p = w1.heap.size := ⟨_, rfl⟩
    rw [← hp] at HX hlt ⊢
    clear hW hp HX1
    refine (set_any p f HF.out i _ HX.out.here).mono ?_
    rintro e w2 ⟨rfl, hw2⟩
    have HX := Lib.hid (HX.out.wrote hlt hw2)
    clear hw2
    go_wp2
    refine wp_region_quiet_below (by kernel_rfl) (by kernel_rfl) ?_
    repeat (first | go_big_quiet_skip | (go_big_quiet_want; (first | (refine quiet_load_block _ rfl w.heap.size rfl f HX.out.box ?_) | (refine quiet_load_block _ rfl p rfl (setI f i) HX.out.here ?_)); go_big_quiet_on; simp only [Act.put, List.setIfInBounds_toArray, List.set_cons_succ, List.set_cons_zero]) | go_big_quiet_step (first | (go_at_call 17; exact Calls.regrown_of (has_is _ (by first | exact HF.out | exact HS.out) _ _ _ (by first | exact t1 | exact t2 | rfl)))))
    refine wpQuiet_nil ?_
    rintro _ ⟨q, rfl⟩
    have HX := Lib.hid (HX.out.get (below_regrown w2 q.d q.os))
    obtain ⟨w3, hw3⟩ : ∃ w3, w3 = grow (redrawn w2 q.d) q.os := ⟨_, rfl⟩
    rw [← hw3] at HX ⊢
    clear hw3
    go_wp2_with fail
    refine (clear_any p (setI f i) HS.out i _ HX.out.here).mono ?_
    rintro e w5 ⟨rfl, hw5⟩
    have HX := Lib.hid (HX.out.wrote hlt hw5)
    clear hw5
    go_wp2_with (first | (refine wpList_load_block rfl _ rfl w.heap.size rfl f HX.out.box ?_) | (refine wpList_load_block rfl _ rfl p rfl _ HX.out.here ?_) | (go_at_call 17; refine (has_any _ (by first | exact HF.out | exact HD.out) _ _).mono ?_; rintro e w6 ⟨rfl, hw6⟩; have HX := Lib.hid (HX.out.get hw6); clear hw6) | (go_at_call 14; refine (set_any p _ HD.out i _ HX.out.here).mono ?_; rintro e w7 ⟨rfl, hw7⟩; have HX := Lib.hid (HX.out.wrote hlt hw7); clear hw7))
    go_ret
    exact ⟨rfl, HX.out.below⟩
  · go_enter Try.func8, Try.ntmps8
    go_wp2_with (first | (go_at_call 22; refine (awake_any _).mono ?_; rintro e w1 ⟨rfl, hb1⟩; have HX := Lib.hid (Two.start (HX.out.below.trans (hb1.mono HX.out.below.size)) (Below.get hb1 HX.out.box)); have HX1 := Lib.hid (Below.get hb1 (Boxes.mk1 f w).box); have hlt : w.heap.size < w1.heap.size := (Array.getElem?_eq_some_iff.1 HX1.out).1) | (refine wpList_load_block rfl _ rfl w.heap.size rfl f HX1.out ?_) | (refine wpList_alloc0 rfl rfl ?_) | (refine wpList_store_block rfl _ _ rfl w1.heap.size f rfl rfl zB (heap_alloc_new w1 _) ?_))
    obtain ⟨W, hW⟩ : ∃ W, W = (w1.alloc (.cells (bc zB) 23)).setRow w1.heap.size (bc f) := ⟨_, rfl⟩
    rw [← hW] at HX ⊢
    obtain ⟨p, hp⟩ : ∃ p, p = w1.heap.size := ⟨_, rfl⟩
    rw [← hp] at HX hlt ⊢
    clear hW hp HX1
    refine (set_any p f HF.out i _ HX.out.here).mono ?_
    rintro e w2 ⟨rfl, hw2⟩
    have HX := Lib.hid (HX.out.wrote hlt hw2)
    clear hw2
    go_wp2
    refine wp_region_quiet_below (by kernel_rfl) (by kernel_rfl) ?_
    repeat (first | go_big_quiet_skip | (go_big_quiet_want; (first | (refine quiet_load_block _ rfl w.heap.size rfl f HX.out.box ?_) | (refine quiet_load_block _ rfl p rfl (setI f i) HX.out.here ?_)); go_big_quiet_on; simp only [Act.put, List.setIfInBounds_toArray, List.set_cons_succ, List.set_cons_zero]) | go_big_quiet_step (first | (go_at_call 17; exact Calls.regrown_of (has_is _ (by first | exact HF.out | exact HS.out) _ _ _ (by first | exact t1 | exact t2 | rfl)))))
    refine wpQuiet_nil ?_
    rintro _ ⟨q, rfl⟩
    have HX := Lib.hid (HX.out.get (below_regrown w2 q.d q.os))
    obtain ⟨w3, hw3⟩ : ∃ w3, w3 = grow (redrawn w2 q.d) q.os := ⟨_, rfl⟩
    rw [← hw3] at HX ⊢
    clear hw3
    go_wp2_with fail
    refine (clear_any p (setI f i) HS.out i _ HX.out.here).mono ?_
    rintro e w5 ⟨rfl, hw5⟩
    have HX := Lib.hid (HX.out.wrote hlt hw5)
    clear hw5
    go_wp2_with (first | (refine wpList_load_block rfl _ rfl w.heap.size rfl f HX.out.box ?_) | (refine wpList_load_block rfl _ rfl p rfl _ HX.out.here ?_) | (go_at_call 17; refine (has_any _ (by first | exact HF.out | exact HD.out) _ _).mono ?_; rintro e w6 ⟨rfl, hw6⟩; have HX := Lib.hid (HX.out.get hw6); clear hw6) | (go_at_call 14; refine (set_any p _ HD.out i _ HX.out.here).mono ?_; rintro e w7 ⟨rfl, hw7⟩; have HX := Lib.hid (HX.out.wrote hlt hw7); clear hw7))
    go_ret
    exact ⟨rfl, HX.out.below⟩

theorem back_walk (f : Nat → Nat) (hf : Bytes f) (i k : Int) (w : World) :
    Calls Try.prog 8 #[.agg (bc f), .int .i64 i, .int .i64 k] w fun e w' => e = .returned (.bool true) ∧ Below w.heap.size w w' := by
  rcases isB_cases i with h | ⟨n, h, hi⟩
  · exact back_not f hf i k w h
  · cases hb : bit f n with
    | true => exact back_is f hf i k w n h hi hb
    | false => exact back_set f hf i k w n h hi hb
end Go.Proofs.Ytiajohnnmnoijaa
