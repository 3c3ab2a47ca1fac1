/-
  The contract of paths.Of.
  Conditions: none.
-/
import Derived.Test.YtjniajojbnhmgaaOfA
import Derived.Outline
namespace Go.Proofs.Ytjniajojbnhmgaa
open Go.RowKit Go.Shelf
attribute [local go_sem] Oper.semAt_some
set_option linter.unusedVariables false

set_option maxRecDepth 100000 in
set_option maxHeartbeats 2000000 in
theorem of_none (k : Int) (hk : k < 0 ∨ 65536 ≤ k) (w : World) : Calls Try.prog 17 #[.int .i64 k] w fun e w' => e = .returned (.tuple #[.int .i64 0, .slice none 0 0, .int .i64 100]) ∧ Below w.heap.size w w' := by
  have hcb := cell_of_one' (w3_box k w)
  have hcp := cell_of_one' (w3_ptr k w)
  have hcv := cell_of_one' (w3_bel k w)
  have hzp := frozen_of_row _ _ 0 _ _ (w3_ptr k w)
  have hzv := frozen_of_row _ _ 0 _ _ (w3_bel k w)
  have HB := Lib.hid (w3_below k w)
  go_enter Try.func17, Try.ntmps17
  go_wp2
  obtain ⟨W, hW⟩ : ∃ W, W = w3 k w := ⟨_, rfl⟩
  have hsz : W.heap.size = w.heap.size + 1 + 1 + 1 := by rw [hW]; simp
  change Code.wp _ _ _ _ (w3 k w)
  rw [← hW] at HB hcb hcp hcv hzp hzv ⊢
  clear hW
  rcases hk with hk | hk
  all_goals
    go_step3
    go_wp2
    rw [Exit.noGoto_ret]
    obtain ⟨hcp2, hcv2⟩ := two_stores (B := w.heap.size) hcp hcv (.int .i64 0) (.slice none 0 0)
    refine bodyPost_ret (v := .tuple #[.int .i64 0, .slice none 0 0, .int .i64 100]) (by simp [results, Try.f17, go_sem, hcp2, hcv2]) rfl ⟨rfl, ?_⟩
    exact (HB.out.setCell (p := ⟨w.heap.size + 1, 0, none⟩) (by simp) _).setCell (p := ⟨w.heap.size + 1 + 1, 0, none⟩) (by simp; omega) _

set_option maxRecDepth 100000 in
set_option maxHeartbeats 2000000 in
theorem of_any (k : Int) (hk0 : 0 ≤ k) (hk1 : k < 65536) (w : World) : Calls Try.prog 17 #[.int .i64 k] w fun e w' => ∃ (x : Nat) (v : Value), e = .returned (.tuple #[.int .i64 x, v, .int .i64 0]) ∧ Below w.heap.size w w' ∧
    (∃ ini, ini ++ [x] <+: List.range 11 ∧ (∀ y ∈ ini, (fst y : Int) + spn (lev y) ≤ k)) ∧ k < fst x + spn (lev x) ∧ w'.ownsRow (w.heap.size + 4) 3 1 v (dg (lev x).toNat (k - fst x)).length (vs (dg (lev x).toNat (k - fst x))) := by
  have hcb := cell_of_one' (w3_box k w)
  have V3 := Lib.hid (⟨w3_box k w, w3_ptr k w, w3_bel k w, w3_below k w⟩ : (w3 k w).heap[w.heap.size]? = some (.cells #[.int .i64 k] 3) ∧ (w3 k w).heap[w.heap.size + 1]? = some (.cells #[.int .i64 0] 3) ∧ (w3 k w).heap[w.heap.size + 1 + 1]? = some (.cells #[.slice none 0 0] 22) ∧ Below w.heap.size w (w3 k w))
  refine callsIn_wide (n := 10).1 ?_
  refine callsIn_of_wp_marks Try.func17 rfl trivial ?_ rfl
  refine wpIn_wide.2 ?_
  simp only [Try.ntmps17, List.size_toArray, List.length_cons, List.length_nil, Nat.reduceAdd, Nat.reduceSub, Array.replicate_succ, Array.replicate_zero, List.push_toArray, List.append_toArray, List.nil_append, List.cons_append]
  go_wp2
  obtain ⟨W, hW⟩ : ∃ W, W = w3 k w := ⟨_, rfl⟩
  have hsz : W.heap.size = w.heap.size + 1 + 1 + 1 := by rw [hW]; simp
  change Code.wp _ _ _ _ (w3 k w)
  rw [← hW] at hcb V3 ⊢
  clear hW
  go_step3
  go_wp2
  go_step3
  go_wp2_with (go_at_call 29; refine (ptrs_any _).mono ?_; rintro e w2 ⟨rfl, hw2⟩; rw [hw2]; clear hw2)
  have V0 : Hid (OVars k w 0 (.slice none 0 0) 0 (W.alloc (.cells #[.int .i64 0] 3))) := Lib.hid (by
    obtain ⟨h1, h2, h3, h4⟩ := V3.out
    refine ⟨(Below.heap_alloc _ _ _ (by omega)).trans h1, (Below.heap_alloc _ _ _ (by omega)).trans h2, (Below.heap_alloc _ _ _ (by omega)).trans h3, ?_, h4.alloc (by omega) _⟩
    rw [← hsz]; exact heap_alloc_new _ _)
  obtain ⟨W0, hW0⟩ : ∃ W0, W0 = W.alloc (.cells #[.int .i64 0] 3) := ⟨_, rfl⟩
  have hsz0 : W0.heap.size = w.heap.size + 4 := by rw [hW0]; simp [hsz]
  rw [← hW0] at V0 ⊢
  clear hW0 V3 hcb
  refine wpIn_wide (n := 10).1 ?_
  refine wpIn_rangeFunc_ownF rfl (by omega) (gf := 31) (lb := #[]) rfl trivial (enters_of Try.func31 (by kernel_rfl) rfl)
    (ptr_stops (10 - 1) (by omega) 0 W0) belowK_t (belowK_b (by omega)) (Below.refl _ _) (fun _ => rfl)
    (fun pre W' => (∀ y ∈ pre, (fst y : Int) + spn (lev y) ≤ k) ∧ OVars k w 0 (.slice none 0 0) 0 W')
    (fun c pre W' => c = .exit 0 ∧ ∃ ini x v a, pre = ini ++ [x] ∧ (∀ y ∈ ini, (fst y : Int) + spn (lev y) ≤ k) ∧ k < fst x + spn (lev x) ∧ OVars k w x v a W' ∧ W'.ownsRow (w.heap.size + 4) 3 1 v (dg (lev x).toNat (k - fst x)).length (vs (dg (lev x).toNat (k - fst x))))
    (fun s A A' row hs hg hr => ⟨hs.1, hs.2.kept (by omega) hg hr⟩)
    (fun c s A A' row hs hg hr => ⟨hs.1, let ⟨ini, x, v, a, h1, h2, h3, h4, h5⟩ := hs.2; ⟨ini, x, v, a, h1, h2, h3, h4.kept (by omega) hg hr, owns_kept h5 hg (fun r e => (hr r e).2)⟩⟩) ⟨(fun x h => by cases h), V0.out⟩
    (fun x => { tmps := #[.int .i64 k, .pointer (some ⟨w.heap.size, 0, none⟩), .pointer (some ⟨w.heap.size + 1, 0, none⟩), .pointer (some ⟨w.heap.size + 1 + 1, 0, none⟩), .int .i64 0, .pointer (some ⟨w.heap.size + 1 + 1 + 1, 0, none⟩),
      .int .i64 x, .int .i64 (fst x), undef, undef, .int .i64 k, .bool (decide (k < 0)), .bool (decide (k < 0)), .int .i64 k, .bool (decide (65536 ≤ k)), .bool (decide (k < 0) || decide (65536 ≤ k)), .func (.func 31) #[] #[], .int .i64 x, .int .i64 (fst x),
      undef, undef, undef, undef, undef, undef, undef, undef, undef, undef, undef, undef, undef, undef, undef, undef, undef, undef, undef, undef, undef, undef, undef, undef, undef, undef, undef, undef, undef, undef, undef], defers := [] }) ?assign ?body ?done ?stop
  case assign =>
    intro l x W K hK
    gi_wp2
    exact hK
  case body =>
    rintro l pre x W1 ⟨hall, hV⟩ hlen
    have HA := Lib.hid hall
    have HV := Lib.hid hV
    have hfl := fst_le x
    have hsb := spn_bd (lev x)
    have hlb := lev_bd x
    clear hall hV
    generalize hL : lev x = L at *
    generalize hS : spn L = S at *
    generalize hF : fst x = F at *
    gi_wp2_with (refine ⟨trivial, ?_⟩; gi_at_call 18; refine (CallsIn.inRound l (callsIn_wide.2 (level_any _ _))).mono ?_; rintro e w1 ⟨rfl, hw1⟩; rw [hw1, hL]; clear hw1)
    refine round_held (fun W' => W'.heap[w.heap.size]? = some (.cells #[.int .i64 k] 3)) (by kernel_rfl) (by kernel_rfl) ?_
    have hS8 : ({ W1 with drawn := W1.drawn + 1 } : World).heap[w.heap.size]? = some (.cells #[.int .i64 k] 3) := HV.out.box
    obtain ⟨W2, hW2⟩ : ∃ W2 : World, W2 = { W1 with drawn := W1.drawn + 1 } := ⟨_, rfl⟩
    have HV2 : Hid (OVars k w 0 (.slice none 0 0) 0 W2) := by rw [hW2]; exact Lib.hid HV.out.drew
    have HK2 : Hid (KeepsOthers W1 W2) := by rw [hW2]; exact Lib.hid (KeepsOthers.drew W1)
    have HB2 : Hid (Below 0 W1 W2) := by rw [hW2]; exact Lib.hid ⟨rfl, rfl, rfl, Nat.le_refl _, fun _ _ => rfl⟩
    rw [← hW2] at hS8 ⊢
    clear hW2
    refine wpAnyH_take (i := 0) (v := .int .i64 k) rfl (by kernel_rfl) (by kernel_rfl) (by kernel_rfl) (fun _ _ _ h => Norm.blind h) (.inl ⟨rfl, fun W' hS' => by have hc := cell_of_one' hS'; go_simp⟩) hS8 ?_
    refine wpAnyH_take (i := 1) (v := .int .i64 F) rfl (by kernel_rfl) (by kernel_rfl) (by kernel_rfl) (fun _ _ _ h => Norm.blind h) (.inl ⟨rfl, fun W' hS' => by go_simp⟩) hS8 ?_
    refine wpAnyH_take (i := 2) (v := .int .i64 L) rfl (by kernel_rfl) (by kernel_rfl) (by kernel_rfl) (fun _ _ _ h => Norm.blind h) (.inl ⟨rfl, fun W' hS' => by go_simp⟩) hS8 ?_
    refine wpAnyH_all (rs := [3]) (by kernel_rfl) (by simp) ?_
    intro j hj
    obtain rfl : j = 3 := by simpa using hj
    refine wpOp_step rfl fun K' hK' => ?_
    go_simp
    refine (span_any _ _).mono ?_
    rintro e W' ⟨rfl, hw'⟩
    rw [hw', hS]
    refine hK' _ _ ⟨hS8, ?_⟩
    clear hK' hw'
    refine wpAnyH_take (i := 4) (v := .int .i64 (F + S)) rfl (by kernel_rfl) (by kernel_rfl) (by kernel_rfl) (fun _ _ _ h => Norm.blind h) (.inl ⟨rfl, fun W' hS' => by go_simp; exact IntWalk.i64_in _ (by omega)⟩) hS8 ?_
    refine wpAnyH_take (i := 5) (v := .bool (decide ((F : Int) + S ≤ k))) rfl (by kernel_rfl) (by kernel_rfl) (by kernel_rfl) (fun _ _ _ h => Norm.blind h) (.inl ⟨rfl, fun W' hS' => by go_simp⟩) hS8 ?_
    refine wpAnyH_done (by kernel_rfl) ?_ _
    refine ⟨rfl, ?_⟩
    go_simp
    by_cases hge : (F : Int) + S ≤ k
    · have hgd : decide ((F : Int) + S ≤ k) = true := decide_eq_true hge
      gi_wp2
      refine ⟨HK2.out, HB2.out, ?_, HV2.out⟩
      intro y hy
      rcases List.mem_append.1 hy with hy | hy
      · exact HA.out y hy
      · obtain rfl : y = x := by simpa using hy
        rw [hF, hL, hS]; exact hge
    · have hgd : decide ((F : Int) + S ≤ k) = false := decide_eq_false hge
      gi_wp2
      refine round_held (fun W' => W'.heap[w.heap.size]? = some (.cells #[.int .i64 k] 3)) (by kernel_rfl) (by kernel_rfl) ?_
      have HV3 := Lib.hid HV2.out.drew
      obtain ⟨W3, hW3⟩ : ∃ W3 : World, W3 = { W2 with drawn := W2.drawn + 1 } := ⟨_, rfl⟩
      have HK3 : Hid (KeepsOthers W1 W3) := by rw [hW3]; exact Lib.hid (HK2.out.trans (KeepsOthers.drew W2))
      have HB3 : Hid (Below 0 W1 W3) := by rw [hW3]; exact Lib.hid ⟨HB2.out.os, HB2.out.tape, HB2.out.output, HB2.out.size, HB2.out.block⟩
      rw [← hW3] at HV3 ⊢
      clear hW3 HK2 HB2 HV2 HV hS8
      refine wpAnyH_take (i := 0) (v := .int .i64 x) rfl (by kernel_rfl) (by kernel_rfl) (by kernel_rfl) (fun _ _ _ h => Norm.blind h) (.inl ⟨rfl, fun W' hS' => by go_simp⟩) HV3.out.box ?_
      refine wpAnyH_take (i := 1) (v := .int .i64 k) rfl (by kernel_rfl) (by kernel_rfl) (by kernel_rfl) (fun _ _ _ h => Norm.blind h) (.inl ⟨rfl, fun W' hS' => by have hc := cell_of_one' hS'; go_simp⟩) HV3.out.box ?_
      refine wpAnyH_take (i := 2) (v := .int .i64 F) rfl (by kernel_rfl) (by kernel_rfl) (by kernel_rfl) (fun _ _ _ h => Norm.blind h) (.inl ⟨rfl, fun W' hS' => by go_simp⟩) HV3.out.box ?_
      refine wpAnyH_take (i := 3) (v := .int .i64 (k - F)) rfl (by kernel_rfl) (by kernel_rfl) (by kernel_rfl) (fun _ _ _ h => Norm.blind h) (.inl ⟨rfl, fun W' hS' => by go_simp; exact IntWalk.i64_in _ (by omega)⟩) HV3.out.box ?_
      refine wpAnyH_all (rs := [4]) (by kernel_rfl) (by simp) ?_
      intro j hj
      obtain rfl : j = 4 := by simpa using hj
      refine wpOp_step rfl fun K' hK' => ?_
      have hc3 := cell_of_one' HV3.out.ptr
      have hz3 := frozen_of_row _ _ 0 _ _ HV3.out.ptr
      go_simp
      have HV4 := Lib.hid (HV3.out.setPtr x)
      have HK4 := Lib.hid (HK3.out.trans (KeepsOthers.setCell W3 ⟨w.heap.size + 1, 0, none⟩ (.int .i64 x)))
      have HB4 := Lib.hid (HB3.out.setCell (p := ⟨w.heap.size + 1, 0, none⟩) (Nat.zero_le _) (.int .i64 x))
      refine hK' _ _ ⟨HV4.out.box, ?_⟩
      clear hK' hc3 hz3 HV3 HK3 HB3
      obtain ⟨W4, hW4⟩ : ∃ W4, W4 = W3.setCell ⟨w.heap.size + 1, 0, none⟩ (.int .i64 x) := ⟨_, rfl⟩
      rw [← hW4] at HV4 HK4 HB4 ⊢
      clear hW4
      refine wpAnyH_all (rs := [5]) (by kernel_rfl) (by simp) ?_
      intro j hj
      obtain rfl : j = 5 := by simpa using hj
      refine wpOp_step rfl fun K' hK' => ?_
      have hc4 := cell_of_one' HV4.out.at'
      have hz4 := frozen_of_row _ _ 0 _ _ HV4.out.at'
      go_simp
      have HV5 := Lib.hid (HV4.out.setAt (k - F))
      have HK5 := Lib.hid (HK4.out.trans (KeepsOthers.setCell W4 ⟨w.heap.size + 1 + 1 + 1, 0, none⟩ (.int .i64 (k - F))))
      have HB5 := Lib.hid (HB4.out.setCell (p := ⟨w.heap.size + 1 + 1 + 1, 0, none⟩) (Nat.zero_le _) (.int .i64 (k - F)))
      refine hK' _ _ ⟨HV5.out.box, ?_⟩
      clear hK' hc4 hz4 HV4 HK4 HB4
      obtain ⟨W5, hW5⟩ : ∃ W5, W5 = W4.setCell ⟨w.heap.size + 1 + 1 + 1, 0, none⟩ (.int .i64 (k - F)) := ⟨_, rfl⟩
      rw [← hW5] at HV5 HK5 HB5 ⊢
      clear hW5
      refine wpAnyH_done (by kernel_rfl) ?_ _
      refine ⟨rfl, ?_⟩
      go_simp
      gi_wp2
      gi_loopw [9] (fun v wr => ∃ l : Int, v = .int .i64 l ∧ ORel k w W1 x l wr) (fun v _ => (intOf v + 1).toNat)
      case atStart =>
        refine ⟨L - 1, rfl, by omega, by omega, ⟨[], .slice none 0 0, k - F, HV5.out, ⟨rfl, .inl ⟨rfl, rfl⟩⟩, ?_, by simp, by omega, by omega⟩, HK5.out, HB5.out⟩
        rw [hL, hF, show L - 1 + 1 = L by omega]; rfl
      case round =>
        obtain ⟨l2, rfl, hR⟩ := hrel
        have hlo := hR.lo
        have hhi := hR.hi
        obtain ⟨xs, v, a, hOV, hown, hdg, hxl, ha1, ha2⟩ := hR.rest
        have HOV := Lib.hid hOV
        have HOW := Lib.hid hown
        have HDG := Lib.hid hdg
        have HKR := Lib.hid hR.keeps
        have HBR := Lib.hid hR.below
        clear hR hOV hown hdg HV5 HK5 HB5
        by_cases hl0 : l2 < 0
        · gi_wp2
          have e0 : (l2 + 1).toNat = 0 := by omega
          have hd := HDG.out
          rw [e0, dg, List.append_nil] at hd
          exact ⟨HKR.out, rfl, pre, x, v, a, rfl, HA.out, by rw [hF, hL, hS]; omega, HOV.out, by rw [← hd]; exact HOW.out⟩
        · gi_wp2
          obtain ⟨m, rfl⟩ := Int.eq_ofNat_of_zero_le (a := l2) (by omega)
          have hm3 : m < 3 := by omega
          have hP := spn_three hm3
          have hqb := tq_bd hP ha1 ha2
          generalize hPe : spn m = P at *
          have hP0 : P ≠ 0 := by omega
          generalize hQe : a.tdiv P = q at *
          generalize hRe : a.tmod P = rm at *
          refine Code.wpIn_mono (Q := fun e a' w' => e = .normal ∧ ∃ V u : Value, a' = { tmps := #[.int .i64 k, .pointer (some ⟨w.heap.size, 0, none⟩), .pointer (some ⟨w.heap.size + 1, 0, none⟩), .pointer (some ⟨w.heap.size + 1 + 1, 0, none⟩), .int .i64 0, .pointer (some ⟨w.heap.size + 1 + 1 + 1, 0, none⟩), .int .i64 x, .int .i64 F, .int .i64 L, .int .i64 m, .int .i64 k, .bool (decide (k < 0)), .bool (decide (k < 0)), .int .i64 k, .bool (decide (65536 ≤ k)), .bool (decide (k < 0) || decide (65536 ≤ k)), .func (.func 31) #[] #[], .int .i64 x, .int .i64 F, .int .i64 x, .int .i64 L, .int .i64 k, .int .i64 F, .int .i64 L, .int .i64 S, .int .i64 (F + S), .bool false, .int .i64 x, .int .i64 k, .int .i64 F, .int .i64 (k - F), .int .i64 L, .int .i64 (L - 1), u33, u34, .int .i64 m, .bool false, v, .int .i64 a, .int .i64 m, .int .i64 P, .int .i64 q, u, V, u44, u45, u46, u47, undef, undef], defers := [] } ∧ OfAfter k w W1 x a xs q V w') ?rest ?reg
          case reg =>
            refine round_held (fun W' => W'.heap[w.heap.size + 1 + 1 + 1]? = some (.cells #[.int .i64 a] 3)) (by kernel_rfl) (by kernel_rfl) ?_
            have HV3 := Lib.hid HOV.out.drew
            obtain ⟨W3, hW3⟩ : ∃ W3 : World, W3 = { wr with drawn := wr.drawn + 1 } := ⟨_, rfl⟩
            have HK3 : Hid (KeepsOthers W1 W3) := by rw [hW3]; exact Lib.hid (HKR.out.trans (KeepsOthers.drew wr))
            have HB3 : Hid (Below 0 W1 W3) := by rw [hW3]; exact Lib.hid ⟨HBR.out.os, HBR.out.tape, HBR.out.output, HBR.out.size, HBR.out.block⟩
            have HO3 : Hid (W3.ownsRow (w.heap.size + 4) 3 1 v xs.length (vs xs)) := by rw [hW3]; exact HOW
            rw [← hW3] at HV3 ⊢
            clear hW3 HKR HBR HOV HOW
            have hsz3 : w.heap.size + 4 ≤ W3.heap.size := by have := (Array.getElem?_eq_some_iff.1 HV3.out.at').1; omega
            refine wpAnyH_take (i := 1) (v := .int .i64 a) rfl (by kernel_rfl) (by kernel_rfl) (by kernel_rfl) (fun _ _ _ h => Norm.blind h) (.inl ⟨rfl, fun W' hS' => by have hc := cell_of_one' hS'; go_simp⟩) HV3.out.at' ?_
            refine wpAnyH_take (i := 2) (v := .int .i64 m) rfl (by kernel_rfl) (by kernel_rfl) (by kernel_rfl) (fun _ _ _ h => Norm.blind h) (.inl ⟨rfl, fun W' hS' => by go_simp⟩) HV3.out.at' ?_
            refine wpAnyH_all (rs := [0, 3]) (by kernel_rfl) (by simp) ?_
            intro j hj
            simp only [List.mem_cons, List.not_mem_nil, or_false] at hj
            rcases hj with rfl | rfl
            · refine wpOp_step rfl fun K' hK' => ?_
              have hcv := cell_of_one' HV3.out.bel
              go_simp
              refine hK' _ _ ⟨HV3.out.at', ?_⟩
              clear hK' hcv
              refine wpAnyH_all (rs := [3]) (by kernel_rfl) (by simp) ?_
              intro j hj
              obtain rfl : j = 3 := by simpa using hj
              refine wpOp_step rfl fun K' hK' => ?_
              go_simp
              refine (span_any _ _).mono ?_
              rintro e W' ⟨rfl, hw'⟩
              rw [hw', hPe]
              refine hK' _ _ ⟨HV3.out.at', ?_⟩
              clear hK' hw'
              refine wpAnyH_take (i := 4) (v := .int .i64 q) rfl (by kernel_rfl) (by kernel_rfl) (by kernel_rfl) (fun _ _ _ h => Norm.blind h) (.inl ⟨rfl, fun W' hS' => by go_simp; exact IntWalk.i64_in _ (by omega)⟩) HV3.out.at' ?_
              refine wpAnyH_all (rs := [5]) (by kernel_rfl) (by simp) ?_
              intro j hj
              obtain rfl : j = 5 := by simpa using hj
              refine wpOp_step rfl fun K' hK' => ?_
              go_simp
              have HV5 := Lib.hid (HV3.out.alloc (.cells #[.int .i64 q] 3))
              refine hK' _ _ ⟨HV5.out.at', ?_⟩
              clear hK'
              refine wpAnyH_all (rs := [6]) (by kernel_rfl) (by simp) ?_
              intro j hj
              obtain rfl : j = 6 := by simpa using hj
              refine wpOp_step rfl fun K' hK' => ?_
              obtain ⟨i0, hi0, hz0, hz1, hz2⟩ := info_parts Try.info3
              refine step_append_lies _ (by rfl) _ _ _ (by rfl) (w.heap.size + 4) 3 i0 _ 1 8 Try.underlying22 hi0 hz0 hz1 hz2 rfl (by omega) v xs.length (vs xs) (by rfl) (HO3.out.alloc _) ⟨W3.heap.size, 0, none⟩ 1 1 [.int .i64 q] (by rfl) (by rfl) (World.news_of_block (cs := #[.int .i64 q]) (t := 3) (fr := (0, 0)) (heap_alloc_new W3 _)) (by simp [Value.oneCell']) (by omega) (by simp [maxLen]; omega) (by omega) (by simp; omega) (W3.heap.size + 1) (by simp) ?_
              intro g cap W7 hown7 hgrow hat hlt
              clear hi0 hz0 hz1 hz2
              have HV7 := Lib.hid (HV5.out.grown hgrow (fun r e => (own_block HO3.out e).1))
              have HO7 := Lib.hid hown7
              have HK7 := Lib.hid ((HK3.out.trans (KeepsOthers.alloc W3 (.cells #[.int .i64 q] 3))).trans (keeps_grown hgrow (fun r e => (own_block (HO3.out.alloc _) e).2)))
              have HB7 := Lib.hid ((HB3.out.alloc (Nat.zero_le _) (.cells #[.int .i64 q] 3)).grown hgrow (Nat.zero_le _) (fun _ _ => Nat.zero_le _))
              have hg7 : w.heap.size + 4 ≤ g := by rcases hown7.2 with ⟨h0, _⟩ | ⟨g', _, _, h0, hb, _⟩ <;> cases h0; exact hb
              clear hown7 hgrow hat
              refine hK' _ _ ⟨HV7.out.at', ?_⟩
              clear hK' HV5 HV3 HK3 HB3 HO3
              refine wpAnyH_all (rs := [7]) (by kernel_rfl) (by simp) ?_
              intro j hj
              obtain rfl : j = 7 := by simpa using hj
              refine wpOp_step rfl fun K' hK' => ?_
              have hc7 := cell_of_one' HV7.out.bel
              have hz7 := frozen_of_row _ _ 0 _ _ HV7.out.bel
              go_simp
              obtain ⟨V, hVe⟩ : ∃ V, V = Value.slice (some ⟨g, 0, none⟩) (xs.length + 1) cap := ⟨_, rfl⟩
              rw [← hVe] at HO7 ⊢
              have HV8 := Lib.hid (HV7.out.setBel V)
              have HK8 := Lib.hid (HK7.out.trans (KeepsOthers.setCell W7 ⟨w.heap.size + 1 + 1, 0, none⟩ V))
              have HB8 := Lib.hid (HB7.out.setCell (p := ⟨w.heap.size + 1 + 1, 0, none⟩) (Nat.zero_le _) V)
              have HO8 := Lib.hid (owns_same (A' := W7.setCell ⟨w.heap.size + 1 + 1, 0, none⟩ V) HO7.out (fun g hg _ => heap_setCell_other _ _ _ _ (by simp; omega)))
              refine hK' _ _ ⟨HV8.out.at', ?_⟩
              clear hK' hc7 hz7 HV7 HK7 HB7 HO7
              refine wpAnyH_done (by kernel_rfl) ?_ _
              exact ⟨rfl, rfl, V, _, rfl, HV8.out, HK8.out, HB8.out, HO8.out⟩
            · refine wpOp_step rfl fun K' hK' => ?_
              go_simp
              refine (span_any _ _).mono ?_
              rintro e W' ⟨rfl, hw'⟩
              rw [hw', hPe]
              refine hK' _ _ ⟨HV3.out.at', ?_⟩
              clear hK' hw'
              refine wpAnyH_take (i := 4) (v := .int .i64 q) rfl (by kernel_rfl) (by kernel_rfl) (by kernel_rfl) (fun _ _ _ h => Norm.blind h) (.inl ⟨rfl, fun W' hS' => by go_simp; exact IntWalk.i64_in _ (by omega)⟩) HV3.out.at' ?_
              refine wpAnyH_all (rs := [0, 5]) (by kernel_rfl) (by simp) ?_
              intro j hj
              simp only [List.mem_cons, List.not_mem_nil, or_false] at hj
              rcases hj with rfl | rfl
              · refine wpOp_step rfl fun K' hK' => ?_
                have hcv := cell_of_one' HV3.out.bel
                go_simp
                refine hK' _ _ ⟨HV3.out.at', ?_⟩
                clear hK' hcv
                refine wpAnyH_all (rs := [5]) (by kernel_rfl) (by simp) ?_
                intro j hj
                obtain rfl : j = 5 := by simpa using hj
                refine wpOp_step rfl fun K' hK' => ?_
                go_simp
                have HV5 := Lib.hid (HV3.out.alloc (.cells #[.int .i64 q] 3))
                refine hK' _ _ ⟨HV5.out.at', ?_⟩
                clear hK'
                refine wpAnyH_all (rs := [6]) (by kernel_rfl) (by simp) ?_
                intro j hj
                obtain rfl : j = 6 := by simpa using hj
                refine wpOp_step rfl fun K' hK' => ?_
                obtain ⟨i0, hi0, hz0, hz1, hz2⟩ := info_parts Try.info3
                refine step_append_lies _ (by rfl) _ _ _ (by rfl) (w.heap.size + 4) 3 i0 _ 1 8 Try.underlying22 hi0 hz0 hz1 hz2 rfl (by omega) v xs.length (vs xs) (by rfl) (HO3.out.alloc _) ⟨W3.heap.size, 0, none⟩ 1 1 [.int .i64 q] (by rfl) (by rfl) (World.news_of_block (cs := #[.int .i64 q]) (t := 3) (fr := (0, 0)) (heap_alloc_new W3 _)) (by simp [Value.oneCell']) (by omega) (by simp [maxLen]; omega) (by omega) (by simp; omega) (W3.heap.size + 1) (by simp) ?_
                intro g cap W7 hown7 hgrow hat hlt
                clear hi0 hz0 hz1 hz2
                have HV7 := Lib.hid (HV5.out.grown hgrow (fun r e => (own_block HO3.out e).1))
                have HO7 := Lib.hid hown7
                have HK7 := Lib.hid ((HK3.out.trans (KeepsOthers.alloc W3 (.cells #[.int .i64 q] 3))).trans (keeps_grown hgrow (fun r e => (own_block (HO3.out.alloc _) e).2)))
                have HB7 := Lib.hid ((HB3.out.alloc (Nat.zero_le _) (.cells #[.int .i64 q] 3)).grown hgrow (Nat.zero_le _) (fun _ _ => Nat.zero_le _))
                have hg7 : w.heap.size + 4 ≤ g := by rcases hown7.2 with ⟨h0, _⟩ | ⟨g', _, _, h0, hb, _⟩ <;> cases h0; exact hb
                clear hown7 hgrow hat
                refine hK' _ _ ⟨HV7.out.at', ?_⟩
                clear hK' HV5 HV3 HK3 HB3 HO3
                refine wpAnyH_all (rs := [7]) (by kernel_rfl) (by simp) ?_
                intro j hj
                obtain rfl : j = 7 := by simpa using hj
                refine wpOp_step rfl fun K' hK' => ?_
                have hc7 := cell_of_one' HV7.out.bel
                have hz7 := frozen_of_row _ _ 0 _ _ HV7.out.bel
                go_simp
                obtain ⟨V, hVe⟩ : ∃ V, V = Value.slice (some ⟨g, 0, none⟩) (xs.length + 1) cap := ⟨_, rfl⟩
                rw [← hVe] at HO7 ⊢
                have HV8 := Lib.hid (HV7.out.setBel V)
                have HK8 := Lib.hid (HK7.out.trans (KeepsOthers.setCell W7 ⟨w.heap.size + 1 + 1, 0, none⟩ V))
                have HB8 := Lib.hid (HB7.out.setCell (p := ⟨w.heap.size + 1 + 1, 0, none⟩) (Nat.zero_le _) V)
                have HO8 := Lib.hid (owns_same (A' := W7.setCell ⟨w.heap.size + 1 + 1, 0, none⟩ V) HO7.out (fun g hg _ => heap_setCell_other _ _ _ _ (by simp; omega)))
                refine hK' _ _ ⟨HV8.out.at', ?_⟩
                clear hK' hc7 hz7 HV7 HK7 HB7 HO7
                refine wpAnyH_done (by kernel_rfl) ?_ _
                exact ⟨rfl, rfl, V, _, rfl, HV8.out, HK8.out, HB8.out, HO8.out⟩
              · refine wpOp_step rfl fun K' hK' => ?_
                go_simp
                have HV5 := Lib.hid (HV3.out.alloc (.cells #[.int .i64 q] 3))
                refine hK' _ _ ⟨HV5.out.at', ?_⟩
                clear hK'
                refine wpAnyH_all (rs := [0]) (by kernel_rfl) (by simp) ?_
                intro j hj
                obtain rfl : j = 0 := by simpa using hj
                refine wpOp_step rfl fun K' hK' => ?_
                have hcv := cell_of_one' HV5.out.bel
                go_simp
                refine hK' _ _ ⟨HV5.out.at', ?_⟩
                clear hK' hcv
                refine wpAnyH_all (rs := [6]) (by kernel_rfl) (by simp) ?_
                intro j hj
                obtain rfl : j = 6 := by simpa using hj
                refine wpOp_step rfl fun K' hK' => ?_
                obtain ⟨i0, hi0, hz0, hz1, hz2⟩ := info_parts Try.info3
                refine step_append_lies _ (by rfl) _ _ _ (by rfl) (w.heap.size + 4) 3 i0 _ 1 8 Try.underlying22 hi0 hz0 hz1 hz2 rfl (by omega) v xs.length (vs xs) (by rfl) (HO3.out.alloc _) ⟨W3.heap.size, 0, none⟩ 1 1 [.int .i64 q] (by rfl) (by rfl) (World.news_of_block (cs := #[.int .i64 q]) (t := 3) (fr := (0, 0)) (heap_alloc_new W3 _)) (by simp [Value.oneCell']) (by omega) (by simp [maxLen]; omega) (by omega) (by simp; omega) (W3.heap.size + 1) (by simp) ?_
                intro g cap W7 hown7 hgrow hat hlt
                clear hi0 hz0 hz1 hz2
                have HV7 := Lib.hid (HV5.out.grown hgrow (fun r e => (own_block HO3.out e).1))
                have HO7 := Lib.hid hown7
                have HK7 := Lib.hid ((HK3.out.trans (KeepsOthers.alloc W3 (.cells #[.int .i64 q] 3))).trans (keeps_grown hgrow (fun r e => (own_block (HO3.out.alloc _) e).2)))
                have HB7 := Lib.hid ((HB3.out.alloc (Nat.zero_le _) (.cells #[.int .i64 q] 3)).grown hgrow (Nat.zero_le _) (fun _ _ => Nat.zero_le _))
                have hg7 : w.heap.size + 4 ≤ g := by rcases hown7.2 with ⟨h0, _⟩ | ⟨g', _, _, h0, hb, _⟩ <;> cases h0; exact hb
                clear hown7 hgrow hat
                refine hK' _ _ ⟨HV7.out.at', ?_⟩
                clear hK' HV5 HV3 HK3 HB3 HO3
                refine wpAnyH_all (rs := [7]) (by kernel_rfl) (by simp) ?_
                intro j hj
                obtain rfl : j = 7 := by simpa using hj
                refine wpOp_step rfl fun K' hK' => ?_
                have hc7 := cell_of_one' HV7.out.bel
                have hz7 := frozen_of_row _ _ 0 _ _ HV7.out.bel
                go_simp
                obtain ⟨V, hVe⟩ : ∃ V, V = Value.slice (some ⟨g, 0, none⟩) (xs.length + 1) cap := ⟨_, rfl⟩
                rw [← hVe] at HO7 ⊢
                have HV8 := Lib.hid (HV7.out.setBel V)
                have HK8 := Lib.hid (HK7.out.trans (KeepsOthers.setCell W7 ⟨w.heap.size + 1 + 1, 0, none⟩ V))
                have HB8 := Lib.hid (HB7.out.setCell (p := ⟨w.heap.size + 1 + 1, 0, none⟩) (Nat.zero_le _) V)
                have HO8 := Lib.hid (owns_same (A' := W7.setCell ⟨w.heap.size + 1 + 1, 0, none⟩ V) HO7.out (fun g hg _ => heap_setCell_other _ _ _ _ (by simp; omega)))
                refine hK' _ _ ⟨HV8.out.at', ?_⟩
                clear hK' hc7 hz7 HV7 HK7 HB7 HO7
                refine wpAnyH_done (by kernel_rfl) ?_ _
                exact ⟨rfl, rfl, V, _, rfl, HV8.out, HK8.out, HB8.out, HO8.out⟩
          case rest =>
            rintro e a' w8 ⟨rfl, V, u, rfl, hA8⟩
            have HA8 := Lib.hid hA8
            clear hA8 HKR HBR HOV HOW
            go_simp
            gi_wp2
            refine round_still_tail 4 (by kernel_rfl) (by kernel_rfl) (by kernel_rfl) ?_
            simp only [List.take_succ_cons, List.take_zero, List.drop_succ_cons, List.drop_zero]
            have HV9 := Lib.hid HA8.out.vars.drew
            obtain ⟨W9, hW9⟩ : ∃ W9 : World, W9 = { w8 with drawn := w8.drawn + 1 } := ⟨_, rfl⟩
            have HK9 : Hid (KeepsOthers W1 W9) := by rw [hW9]; exact Lib.hid (HA8.out.keeps.trans (KeepsOthers.drew w8))
            have HB9 : Hid (Below 0 W1 W9) := by rw [hW9]; exact Lib.hid ⟨HA8.out.below.os, HA8.out.below.tape, HA8.out.below.output, HA8.out.below.size, HA8.out.below.block⟩
            have HO9 : Hid (W9.ownsRow (w.heap.size + 4) 3 1 V (xs.length + 1) (vs xs ++ [.int .i64 q])) := by rw [hW9]; exact Lib.hid HA8.out.own
            rw [← hW9] at HV9 ⊢
            clear hW9 HA8
            have hc9 := cell_of_one' HV9.out.at'
            have hz9 := frozen_of_row _ _ 0 _ _ HV9.out.at'
            have HSP : Hid (Calls Try.prog 20 #[.int .i64 m] W9 fun e w' => e = .returned (.int .i64 P) ∧ w' = W9) := Lib.hid (by have := span_any m W9; rw [hPe] at this; exact this)
            have hwr : IntKind.i64.wrap rm = rm := IntWalk.i64_in _ (by omega)
            repeat still_step
            still_call HSP.out
            repeat still_step
            refine wpStill_nil ?_
            go_wp2
            have HV10 := Lib.hid (HV9.out.setAt rm)
            have HK10 := Lib.hid (HK9.out.trans (KeepsOthers.setCell W9 ⟨w.heap.size + 1 + 1 + 1, 0, none⟩ (.int .i64 rm)))
            have HB10 := Lib.hid (HB9.out.setCell (p := ⟨w.heap.size + 1 + 1 + 1, 0, none⟩) (Nat.zero_le _) (.int .i64 rm))
            have HO10 := Lib.hid (owns_same (A' := W9.setCell ⟨w.heap.size + 1 + 1 + 1, 0, none⟩ (.int .i64 rm)) HO9.out (fun g hg _ => heap_setCell_other _ _ _ _ (by simp; omega)))
            clear hc9 hz9 HV9 HK9 HB9 HO9 HSP hwr
            obtain ⟨W10, hW10⟩ : ∃ W10, W10 = W9.setCell ⟨w.heap.size + 1 + 1 + 1, 0, none⟩ (.int .i64 rm) := ⟨_, rfl⟩
            rw [← hW10] at HV10 HK10 HB10 HO10 ⊢
            clear hW10
            refine ⟨rfl, ?_⟩
            go_simp
            gi_wp2
            go_roundw
            case rel =>
              refine ⟨m - 1, rfl, by omega, by omega, ⟨xs ++ [q], V, rm, HV10.out, ?_, ?_, by simp <;> omega, by omega, by omega⟩, HK10.out, HB10.out⟩
              · have := HO10.out
                simpa [vs] using this
              · have hd := HDG.out
                rw [show ((m : Int) + 1).toNat = m + 1 by omega, dg, hPe, hQe, hRe] at hd
                rw [show ((m : Int) - 1 + 1).toNat = m by omega, List.append_assoc]
                exact hd
            case measure => simp [intOf]
  case done =>
    rintro D ys W' hD rfl ⟨hall, hV⟩ hK
    have := hall 10 (by decide)
    have e : (fst 10 : Int) + spn (lev ((10 : Nat) : Int)) = 266312 := by decide
    omega
  case stop =>
    rintro D c pre W' hD hSp ⟨rfl, ini, x, v, a, hpre, hini, hkx, hV, hown⟩ hK
    obtain ⟨ao, nn, cc, rfl⟩ : ∃ ao nn cc, v = .slice ao nn cc := by
      rcases hown.2 with ⟨h0, _⟩ | ⟨g, cap, _, h0, _⟩
      · exact ⟨_, _, _, h0⟩
      · exact ⟨_, _, _, h0⟩
    have HO := Lib.hid hown
    have HSp : Hid ((∃ ini, ini ++ [x] <+: List.range 11 ∧ (∀ y ∈ ini, (fst y : Int) + spn (lev y) ≤ k)) ∧ k < fst x + spn (lev x)) := Lib.hid ⟨⟨ini, hpre ▸ hSp, hini⟩, hkx⟩
    clear hown hSp hpre hini hkx
    gi_wp2
    go_wp2
    refine wp_region_noPanic ?_
    refine wp_region_held (S := fun W' => W'.heap[w.heap.size + 1]? = some (.cells #[.int .i64 x] 3) ∧ W'.heap[w.heap.size + 1 + 1]? = some (.cells #[.slice ao nn cc] 22)) (by kernel_rfl) ?_
    have HV := Lib.hid hV.drew
    have HO3 : Hid (World.ownsRow { W' with drawn := W'.drawn + 1 } (w.heap.size + 4) 3 1 (.slice ao nn cc) (dg (lev x).toNat (k - fst x)).length (vs (dg (lev x).toNat (k - fst x)))) := HO
    have HD : Hid (({ W' with drawn := W'.drawn + 1 } : World).heap[D]? = some (.deferred (some []))) := Lib.hid hK
    obtain ⟨W1, hW1⟩ : ∃ W1 : World, W1 = { W' with drawn := W'.drawn + 1 } := ⟨_, rfl⟩
    rw [← hW1] at HV HD HO3 ⊢
    clear hW1 hV hK HO
    refine wpAnyH_take (i := 0) (v := .int .i64 x) rfl (by kernel_rfl) (by kernel_rfl) (by kernel_rfl) (fun _ _ _ h => h) (.inl ⟨rfl, fun W' hS => by have hc := cell_of_one' hS.1; go_simp⟩) ⟨HV.out.ptr, HV.out.bel⟩ ?_
    refine wpAnyH_take (i := 1) (v := .slice ao nn cc) rfl (by kernel_rfl) (by kernel_rfl) (by kernel_rfl) (fun _ _ _ h => h) (.inl ⟨rfl, fun W' hS => by have hc := cell_of_one' hS.2; go_simp⟩) ⟨HV.out.ptr, HV.out.bel⟩ ?_
    refine wpAnyH_all (rs := [2]) (by kernel_rfl) (by simp) ?_
    intro j hj
    obtain rfl : j = 2 := by simpa using hj
    refine wpOp_step rfl fun K' hK' => ?_
    have hc2 := cell_of_one' HV.out.ptr
    have hz2 := frozen_of_row _ _ 0 _ _ HV.out.ptr
    go_simp
    have HV2 := Lib.hid (HV.out.setPtr x)
    have HO2 := Lib.hid (owns_same (A' := W1.setCell ⟨w.heap.size + 1, 0, none⟩ (.int .i64 x)) HO3.out (fun g hg _ => heap_setCell_other _ _ _ _ (by simp; omega)))
    have HD2 := Lib.hid ((heap_setCell_other W1 ⟨w.heap.size + 1, 0, none⟩ D (.int .i64 x) (by simp; omega)).trans HD.out)
    refine hK' _ _ ⟨⟨HV2.out.ptr, HV2.out.bel⟩, ?_⟩
    clear hK' hc2 hz2 HV HO3 HD
    obtain ⟨W2, hW2⟩ : ∃ W2, W2 = W1.setCell ⟨w.heap.size + 1, 0, none⟩ (.int .i64 x) := ⟨_, rfl⟩
    rw [← hW2] at HV2 HO2 HD2 ⊢
    clear hW2
    refine wpAnyH_all (rs := [3]) (by kernel_rfl) (by simp) ?_
    intro j hj
    obtain rfl : j = 3 := by simpa using hj
    refine wpOp_step rfl fun K' hK' => ?_
    have hc3 := cell_of_one' HV2.out.bel
    have hz3 := frozen_of_row _ _ 0 _ _ HV2.out.bel
    go_simp
    have HV3 := Lib.hid (HV2.out.setBel (.slice ao nn cc))
    have HO3 := Lib.hid (owns_same (A' := W2.setCell ⟨w.heap.size + 1 + 1, 0, none⟩ (.slice ao nn cc)) HO2.out (fun g hg _ => heap_setCell_other _ _ _ _ (by simp; omega)))
    have HD3 := Lib.hid ((heap_setCell_other W2 ⟨w.heap.size + 1 + 1, 0, none⟩ D (.slice ao nn cc) (by simp; omega)).trans HD2.out)
    refine hK' _ _ ⟨⟨HV3.out.ptr, HV3.out.bel⟩, ?_⟩
    clear hK' hc3 hz3 HV2 HO2 HD2
    obtain ⟨W3, hW3⟩ : ∃ W3, W3 = W2.setCell ⟨w.heap.size + 1 + 1, 0, none⟩ (.slice ao nn cc) := ⟨_, rfl⟩
    rw [← hW3] at HV3 HO3 HD3 ⊢
    clear hW3
    refine wpAnyH_take (i := 4) (v := .int .i64 0) rfl (by kernel_rfl) (by kernel_rfl) (by kernel_rfl) (fun _ _ _ h => h) (.inl ⟨rfl, fun W' hS => by go_simp⟩) ⟨HV3.out.ptr, HV3.out.bel⟩ ?_
    refine wpAnyH_done (by kernel_rfl) ?_ _
    refine NoPanic.normal ?_
    go_simp
    go_wp2
    rw [Exit.noGoto_ret]
    refine ⟨by simp, .inl ⟨_, _, rfl, run_takeDeferred HD3.out, ?_⟩⟩
    have hk : ∀ {g : Nat} {c : Array Value} {t : TypeId} {fr : Nat × Nat}, W3.heap[g]? = some (.cells c t fr) → (W3.putObj D (.deferred none)).heap[g]? = some (.cells c t fr) := fun h => heap_kept (grownBy_putObj' W3 D (.deferred none)) (fun r e => by cases e; exact ⟨_, HD3.out, rfl⟩) h
    have hc5 := cell_of_one' (hk HV3.out.ptr)
    have hc6 := cell_of_one' (hk HV3.out.bel)
    refine ⟨.tuple #[.int .i64 x, .slice ao nn cc, .int .i64 0], ?_, x, .slice ao nn cc, rfl, HV3.out.below.trans (belowK_b (w := w) (Nat.le_refl _) _ D _ _ (by omega) HD3.out rfl rfl), HSp.out.1, HSp.out.2, ?_⟩
    · simp [results, Try.f17, go_sem, hc5, hc6]
    · exact owns_kept HO3.out (grownBy_putObj' W3 D (.deferred none)) (fun r e => by cases e; exact ⟨_, HD3.out, rfl⟩)

end Go.Proofs.Ytjniajojbnhmgaa
