/-
  The walk of quernlaw04.BitsTaken: it returns true, of any block and numbers, and changes nothing that was there.
  Conditions: none.
-/
import Derived.Test.YtiajohnnmnoijaaTakenMath
import Derived.Test.YtiajohnnmnoijaaBackWalk
import Derived.Deep.AppendLies
import Derived.Lib.MinMax
import Derived.Outline
namespace Go.Proofs.Ytiajohnnmnoijaa
open Go.RowKit Go.Sort Go.BigFrame
attribute [local go_sem] run_equalIn_top
set_option linter.unusedVariables false

theorem Try.info3 : (Try.prog.info? 3).map (fun i => (i.zero, i.size, i.bytes)) = some (some (.int .i64 0), 1, 8) := by kernel_rfl
/-- The cells of n numbers. -/
abbrev nr (n : Nat) (c : Nat → Nat) : List Value := (List.range n).map fun i => .int .i64 (c i)
theorem nr_next (n : Nat) (c : Nat → Nat) (k : Nat) : nr n c ++ [.int .i64 k] = nr (n + 1) (extc c n k) := by
  simp only [nr, List.range_succ, List.map_append, List.map_cons, List.map_nil, extc_eq]
  congr 1
  exact List.map_congr_left (fun i hi => by rw [extc_lt c (List.mem_range.1 hi)])

theorem own_same {A A' : World} {B : Nat} {v : Value} {n : Nat} {xs : List Value} (h : A.ownsRow B 3 1 v n xs) (hs : ∀ g, B ≤ g → g < A.heap.size → A'.heap[g]? = A.heap[g]?) : A'.ownsRow B 3 1 v n xs := by
  refine ⟨h.1, ?_⟩
  rcases h.2 with h0 | ⟨g, cap, cur, hv, hb, hgg, rest⟩
  · exact .inl h0
  · exact .inr ⟨g, cap, cur, hv, hb, (hs g hb (Array.getElem?_eq_some_iff.1 hgg).1).trans hgg, rest⟩
theorem own_cell {A : World} {B : Nat} {v : Value} {n : Nat} {z : Nat → Nat} (h : A.ownsRow B 3 1 v n (nr n z)) {i : Nat} (hi : i < n) : ∃ g cap, v = .slice (some ⟨g, 0, none⟩) n cap ∧ A.cell? ⟨g, i, none⟩ = some (.int .i64 (z i)) := by
  rcases h.2 with ⟨_, h0⟩ | ⟨g, cap, cur, hv, hb, hg, hn, _, hs, ht⟩
  · omega
  · refine ⟨g, cap, hv, ?_⟩
    rw [cell_of_row _ _ _ _ _ _ hg]
    have : (cur.toList.take (n * 1))[i]? = some (.int .i64 (z i)) := by rw [ht]; simp [hi]
    rw [List.getElem?_take_of_lt (by omega)] at this
    simpa using this
theorem own_shape {A : World} {B : Nat} {v : Value} {n : Nat} {xs : List Value} (h : A.ownsRow B 3 1 v n xs) : ∃ a cap, v = .slice a n cap := by
  rcases h.2 with ⟨h0, h1⟩ | ⟨g, cap, _, h0, _⟩
  · exact ⟨none, 0, by rw [h0, h1]⟩
  · exact ⟨_, _, h0⟩

/-- What holds at the head of the first loop. -/
structure TkW (f : Nat → Nat) (lo hi : Int) (p : Nat) (w : World) (c : Nat → Nat) (n : Nat) (g : Nat → Nat) (v : Value) (W : World) : Prop where
  math : TkM f g lo hi c n
  two : Two f g p w W
  row : W.ownsRow (p + 1) 3 1 v n (nr n c)

theorem TkW.get {f : Nat → Nat} {lo hi : Int} {p : Nat} {w : World} {c : Nat → Nat} {n : Nat} {g : Nat → Nat} {v : Value} {W W' : World} (h : TkW f lo hi p w c n g v W) (hb : Below W.heap.size W W') : TkW f lo hi p w c n g v W' :=
  ⟨h.math, h.two.get hb, own_same h.row (fun q _ hq => hb.block q hq)⟩

theorem count_at (f : Nat → Nat) (hf : Bytes f) (n : Nat) (hn : n ≤ 2048) (w : World) (x : Nat) (hx : cnt f n = x) :
    Calls Try.prog 21 #[.agg (bc f), .int .i64 n] w fun e w' => e = .returned (.int .i64 x) ∧ Below w.heap.size w w' := by
  have h := count_any f hf n w
  rw [show clamp n = n by unfold clamp; omega, hx] at h
  exact h

/-- What holds at the head of the second loop. -/
structure GvW (f g' : Nat → Nat) (p : Nat) (w : World) (c : Nat → Nat) (n r k : Nat) (v : Value) (W : World) : Prop where
  math : GvM f g' c n r k
  two : Two f g' p w W
  row : W.ownsRow (p + 1) 3 1 v n (nr n c)
theorem GvW.get {f g' : Nat → Nat} {p : Nat} {w : World} {c : Nat → Nat} {n r k : Nat} {v : Value} {W W' : World} (h : GvW f g' p w c n r k v W) (hb : Below W.heap.size W W') : GvW f g' p w c n r k v W' :=
  ⟨h.math, h.two.get hb, own_same h.row (fun q _ hq => hb.block q hq)⟩

theorem rise_last {f g : Nat → Nat} {lo hi : Int} {c : Nat → Nat} {n k : Nat} (h : TkM f g lo hi c n) (hr : inR lo hi k) (hb : bit g k = false) (hn : 0 < n) : c (n - 1) < k := h.above hr hb (n - 1) (by omega)

theorem TkW.appended {f : Nat → Nat} {lo hi : Int} {p : Nat} {w : World} {c : Nat → Nat} {n k : Nat} {g' : Nat → Nat} {v v' : Value} {w4 W5 : World} (hm : TkM f g' lo hi (extc c n k) (n + 1)) (ht : Two f g' p w w4) (hr : w4.ownsRow (p + 1) 3 1 v n (nr n c)) (hlt : w.heap.size < p)
    (hown : W5.ownsRow (p + 1) 3 1 v' (n + 1) (nr n c ++ [.int .i64 k])) (hg : (w4.alloc (.cells #[.int .i64 k] 3)).grownBy W5 v.ownBlock) : TkW f lo hi p w (extc c n k) (n + 1) g' v' W5 := by
  rw [nr_next] at hown
  have hp4 := (Array.getElem?_eq_some_iff.1 ht.here).1
  have hb4 := (Array.getElem?_eq_some_iff.1 ht.box).1
  have hv : ∀ q, v.ownBlock = some q → p + 1 ≤ q := fun q e => (hr.lt q e).1
  have key : ∀ q, q < p + 1 → q < w4.heap.size → W5.heap[q]? = w4.heap[q]? := fun q hq hq2 => by
    rw [hg.block q (by simp; omega) (fun e => by have := hv q e.symm; omega)]; exact Below.heap_alloc _ _ _ hq2
  refine ⟨hm, ⟨?_, (key _ (by omega) hb4).trans ht.box, (key p (by omega) hp4).trans ht.here⟩, hown⟩
  refine (ht.below.alloc ht.below.size (.cells #[.int .i64 k] 3)).grown hg (by have := ht.below.size; simp; omega) (fun q e => by have := hv q e; omega)

set_option maxRecDepth 100000 in
set_option maxHeartbeats 8000000 in
theorem taken_main (f : Nat → Nat) (hf : Bytes f) (lo hi tn : Int) (w : World) :
    Calls Try.prog 7 #[.agg (bc f), .int .i64 lo, .int .i64 hi, .int .i64 tn] w fun e w' => e = .returned (.bool true) ∧ Below w.heap.size w w' := by
  have HF := Lib.hid hf
  have HX := Lib.hid (Boxes.mk1 f w)
  have HTS := Lib.hid (TkM.start hf lo hi (fun _ => 0))
  clear hf
  obtain ⟨i0, hi0, hz0, hz1, hz2⟩ := info_parts Try.info3
  go_enter Try.func7, Try.ntmps7
  go_wp2_with (first | (go_at_call 22; refine (awake_any _).mono ?_; rintro e w1 ⟨rfl, hb1⟩; have HX := Lib.hid (Two.start (HX.out.below.trans (hb1.mono HX.out.below.size)) (Below.get hb1 HX.out.box)); have HX1 := Lib.hid (Below.get hb1 (Boxes.mk1 f w).box); have hlt : w.heap.size < w1.heap.size := (Array.getElem?_eq_some_iff.1 HX1.out).1) | (refine wpList_load_block rfl _ rfl w.heap.size rfl f HX1.out ?_) | (refine wpList_alloc0 rfl rfl ?_) | (refine wpList_store_block rfl _ _ rfl w1.heap.size f rfl rfl zB (heap_alloc_new w1 _) ?_))
  obtain ⟨W, hW⟩ : ∃ W, W = (w1.alloc (.cells (bc zB) 23)).setRow w1.heap.size (bc f) := ⟨_, rfl⟩
  rw [← hW] at HX ⊢
  obtain ⟨p, hp⟩ : ∃ p, p = w1.heap.size := ⟨_, rfl⟩
  rw [← hp] at HX hlt ⊢
  clear hW hp HX1
  go_loopw [10, 11] (fun s y wr => ∃ (n : Nat) (c g : Nat → Nat), y = .int .i64 n ∧ TkW f lo hi p w c n g s wr) (fun _ y _ => 2049 - (intOf y).toNat)
  case atStart => exact ⟨0, fun _ => 0, f, rfl, HTS.out, HX.out, ⟨rfl, .inl ⟨rfl, rfl⟩⟩⟩
  case round =>
    obtain ⟨n, c, g, rfl, hT⟩ := hrel
    have hn := hT.math.le
    have HG := Lib.hid hT.math.byts
    have HT := Lib.hid hT
    clear HX HTS
    obtain ⟨a, cap, hs⟩ := own_shape hT.row
    subst hs
    rcases first_cases g lo hi with ⟨h1, h2⟩ | ⟨k, h1, h2, h3, h4, h5, h6⟩
    · have HH1 := Lib.hid h1
      obtain ⟨L, hLe⟩ : ∃ L, L = clamp lo := ⟨_, rfl⟩
      obtain ⟨H, hHe⟩ : ∃ H, H = clamp hi := ⟨_, rfl⟩
      obtain ⟨m1, hm1⟩ : ∃ m1, max lo 0 = m1 := ⟨_, rfl⟩
      obtain ⟨m2, hm2⟩ : ∃ m2, max hi 0 = m2 := ⟨_, rfl⟩
      have hm3 : min m1 2048 = (L : Int) := by rw [hLe]; unfold clamp; omega
      have hm4 : min m2 2048 = (H : Int) := by rw [hHe]; unfold clamp; omega
      have hL : L ≤ 2048 := by rw [hLe]; exact clamp_le lo
      have hH : H ≤ 2048 := by rw [hHe]; exact clamp_le hi
      have hcH := hT.math.cntH
      have hcL := hT.math.cntL
      rw [← hHe] at hcH
      rw [← hLe] at hcL
      have HFU : Hid (L < H → cnt g H = cnt g L + (H - L)) := Lib.hid (fun h => by have := hT.math.full h2 (by rw [← hLe, ← hHe]; exact h); rwa [← hLe, ← hHe] at this)
      obtain ⟨FH, hFH⟩ : ∃ FH, cnt f H = FH := ⟨_, rfl⟩
      obtain ⟨FL, hFL⟩ : ∃ FL, cnt f L = FL := ⟨_, rfl⟩
      obtain ⟨GH, hGH⟩ : ∃ GH, cnt g H = GH := ⟨_, rfl⟩
      obtain ⟨GL, hGL⟩ : ∃ GL, cnt g L = GL := ⟨_, rfl⟩
      have hb1 := cnt_le f H
      have hb2 := cnt_le f L
      have hb3 := cnt_le g H
      have hb4 := cnt_le g L
      rw [hFH, hGH] at hcH
      rw [hFL, hGL] at hcL
      rw [hGH, hGL] at HFU
      rw [hFH] at hb1
      rw [hFL] at hb2
      rw [hGH] at hb3
      rw [hGL] at hb4
      have HGI := Lib.hid (fun r => hT.math.give r)
      have HIN := Lib.hid hT.math.inj
      have HCL := Lib.hid hT.math.clr
      have HRG := Lib.hid (fun i hi => (hT.math.rng i hi).2.2)
      have HCH : Hid (GH = FH + n ∧ GL = FL) := Lib.hid ⟨hcH, hcL⟩
      clear hT h2 hLe hHe hcH hcL h1
      go_wp2_with (first | (refine wpList_load_block rfl _ rfl p rfl g HT.out.two.here ?_))
      refine (first_any g HG.out lo hi _).mono ?_
      rintro e w2 ⟨rfl, hb2'⟩
      rw [HH1.out]
      have HT2 := Lib.hid (HT.out.get hb2')
      clear hb2' HT HH1
      go_wp2_with fail
      clear hm1 hm2 hm3 hm4
      by_cases hLH : L < H
      · have hLH1 : (L : Int) < (H : Int) := by omega
        obtain ⟨e1, e2⟩ := HCH.out
        have e3 := HFU.out hLH
        have x1 : IntKind.i64.wrap ((GH : Int) - GL) = (GH : Int) - GL := IntWalk.i64_in _ (by omega)
        have x2 : IntKind.i64.wrap ((H : Int) - L) = (H : Int) - L := IntWalk.i64_in _ (by omega)
        have x3 : IntKind.i64.wrap ((H : Int) - L - FH) = (H : Int) - L - FH := IntWalk.i64_in _ (by omega)
        have x4 : IntKind.i64.wrap ((H : Int) - L - FH + FL) = (H : Int) - L - FH + FL := IntWalk.i64_in _ (by omega)
        have y1 : ((GH : Int) - GL != (H : Int) - L) = false := by simp; omega
        have y2 : ((n : Int) != (H : Int) - L - FH + FL) = false := by simp; omega
        have y3 : decide ((L : Int) < (H : Int)) = true := by simpa using hLH1
        have y4 : decide (L < H) = true := by simpa using hLH
        clear e1 e2 e3
        refine wp_region_quiet_below (by kernel_rfl) (by kernel_rfl) ?_
        repeat (first | go_big_quiet_skip | (go_big_quiet_want; (first | (refine quiet_load_block _ rfl w.heap.size rfl f HT2.out.two.box ?_) | (refine quiet_load_block _ rfl p rfl g HT2.out.two.here ?_)); go_big_quiet_on; simp only [Act.put, List.setIfInBounds_toArray, List.set_cons_succ, List.set_cons_zero]) | go_big_quiet_step (first | (go_at_call 21; exact Calls.regrown_of (count_at _ (by first | exact HF.out | exact HG.out) _ (by first | exact hH | exact hL) _ _ (by first | exact hFH | exact hFL | exact hGH | exact hGL)))))
        refine wpQuiet_nil ?_
        rintro _ ⟨q, rfl⟩
        have HT3 := Lib.hid (HT2.out.get (below_regrown w2 q.d q.os))
        obtain ⟨W3, hW3⟩ : ∃ w3, w3 = grow (redrawn w2 q.d) q.os := ⟨_, rfl⟩
        rw [← hW3] at HT3 ⊢
        clear hW3 HT2
        clear x1 x2 x3 x4 y1 y2 y3 y4 hFH hFL hGH hGL
        go_wp2_with fail
        obtain ⟨U, hUe⟩ : ∃ U : Nat, IntKind.u64.wrap tn = (U : Int) := ⟨(tn % 18446744073709551616).toNat, by rw [IntKind.wrap_u64]; omega⟩
        obtain ⟨r, hre⟩ : ∃ r, r = U % n := ⟨_, rfl⟩
        have HRE := Lib.hid hre
        have HUE := Lib.hid hUe
        clear hre hUe
        go_loopw [15] (fun y wi => ∃ (k : Nat) (g' : Nat → Nat), k ≤ n ∧ y = .int .i64 k ∧ GvW f g' p w c n r k (.slice a n cap) wi) (fun y _ => n - (intOf y).toNat)
        case atStart => exact ⟨0, g, Nat.zero_le _, rfl, HGI.out r, HT3.out.two, HT3.out.row⟩
        case round =>
          obtain ⟨k, g', hk, rfl, hV⟩ := hrel
          have HV := Lib.hid hV
          have HGB := Lib.hid hV.math.byts
          clear HT3
          by_cases hkn : k < n
          · obtain ⟨Q, hQ⟩ : ∃ Q, Q = (k + r) % n := ⟨_, rfl⟩
            have hq : Q < n := by rw [hQ]; exact Nat.mod_lt _ (by omega)
            obtain ⟨q0, cap0, hv0, hc0⟩ := own_cell HV.out.row hq
            cases hv0
            have hbQ : bit g' (c Q) = true := by rw [hQ]; exact hV.math.has hkn
            have hcQ := HRG.out Q hq
            have HNM : Hid (GvM f (clrB g' (c Q)) c n r (k + 1)) := Lib.hid (by rw [hQ]; exact hV.math.next hkn HIN.out HCL.out)
            have hrn : r < n := by rw [HRE.out]; exact Nat.mod_lt _ (by omega)
            have u1 : IntKind.u64.wrap tn = (U : Int) := HUE.out
            have u2 : (U : Int).tmod (n : Int) = (r : Int) := by rw [HRE.out, Int.tmod_eq_emod_of_nonneg (by omega)]; omega
            have u3 : (U : Int) % (n : Int) = (r : Int) := by rw [HRE.out]; omega
            have u4 : ((k : Int) + (r : Int)).tmod (n : Int) = (Q : Int) := by rw [hQ, Int.tmod_eq_emod_of_nonneg (by omega)]; simp
            have u5 : ((k : Int) + (r : Int)) % (n : Int) = (Q : Int) := by rw [hQ]; simp
            have hq1 : (Q : Int) < (n : Int) := by omega
            have HH1 : Hid (hasB g' (c Q) = true) := Lib.hid (by rw [hasB_nat g' _ hcQ]; exact hbQ)
            have HCI : Hid (clrI g' (c Q) = clrB g' (c Q)) := Lib.hid (by unfold clrI; rw [isB_nat _ hcQ, Int.toNat_natCast, hbQ]; rfl)
            have HC1 : Hid ((isB (c Q : Nat) && bit g' ((c Q : Nat) : Int).toNat) = true) := Lib.hid (by rw [isB_nat _ hcQ, Int.toNat_natCast, hbQ]; rfl)
            have HC2 : Hid ((isB (c Q : Nat) && bit (clrB g' (c Q)) ((c Q : Nat) : Int).toNat) = false) := Lib.hid (by rw [Int.toNat_natCast, bit_clrB]; simp)
            have HCJ : Hid (clrI (clrB g' (c Q)) (c Q) = clrB g' (c Q)) := Lib.hid (by unfold clrI; rw [Int.toNat_natCast, show bit (clrB g' (c Q)) (c Q) = false by rw [bit_clrB]; simp]; simp)
            have HB2 := Lib.hid (clrB_bytes hV.math.byts (c Q))
            have hkn1 : (k : Int) < (n : Int) := by omega
            clear hV hbQ hQ
            generalize hy : c Q = y at *
            have HY := Lib.hid hy
            clear hy
            go_wp2_with (first | (refine wpList_load_block rfl _ rfl p rfl g' HV.out.two.here ?_))
            refine (has_is g' HGB.out _ _ true HH1.out).mono ?_
            rintro e w4 ⟨rfl, hb4⟩
            have HV4 := Lib.hid (HV.out.get hb4)
            clear hb4 HV
            go_wp2_with fail
            refine (clear_any p g' HGB.out y _ HV4.out.two.here).mono ?_
            rintro e w5 ⟨rfl, hw5⟩
            rw [HCI.out] at hw5
            rw [HC1.out]
            have HT5 := Lib.hid (HV4.out.two.wrote hlt hw5)
            have HO5 := Lib.hid (own_same (A' := w5) HV4.out.row (fun q hq _ => hw5.block q (by omega)))
            clear hw5 HV4
            go_wp2_with fail
            refine (clear_any p (clrB g' y) HB2.out y _ HT5.out.here).mono ?_
            rintro e w6 ⟨rfl, hw6⟩
            rw [HCJ.out] at hw6
            rw [HC2.out]
            have HV6 : Hid (GvW f (clrB g' y) p w c n r (k + 1) (.slice (some ⟨q0, 0, none⟩) n cap) w6) := Lib.hid ⟨HNM.out, HT5.out.wrote hlt hw6, own_same (A' := w6) HO5.out (fun q hq _ => hw6.block q (by omega))⟩
            clear hw6 HT5 HO5 HNM
            go_wp2
            go_roundw
            case rel => exact ⟨k + 1, clrB g' y, by omega, by go_num, HV6.out⟩
            case measure => simp [intOf]; omega
          · obtain rfl : k = n := by omega
            have heq : eqB g' f = true := hV.math.done HF.out (by
              rcases Nat.eq_zero_or_pos k with h | h
              · exact .inr h
              · left; rw [HRE.out]; exact Nat.mod_lt _ h)
            clear hV
            go_wp2_with (first | (refine wpList_load_block rfl _ rfl p rfl g' HV.out.two.here ?_) | (refine wpList_load_block rfl _ rfl w.heap.size rfl f HV.out.two.box ?_))
            go_ret
            exact ⟨rfl, HV.out.two.below⟩
      · have y3 : decide ((L : Int) < (H : Int)) = false := by simp; omega
        have y4 : decide (L < H) = false := by simpa using hLH
        refine wp_region_quiet_below (by kernel_rfl) (by kernel_rfl) ?_
        repeat (first | go_big_quiet_skip | (go_big_quiet_want; (first | (refine quiet_load_block _ rfl w.heap.size rfl f HT2.out.two.box ?_) | (refine quiet_load_block _ rfl p rfl g HT2.out.two.here ?_)); go_big_quiet_on; simp only [Act.put, List.setIfInBounds_toArray, List.set_cons_succ, List.set_cons_zero]) | go_big_quiet_step (first | (go_at_call 21; exact Calls.regrown_of (count_at _ (by first | exact HF.out | exact HG.out) _ (by first | exact hH | exact hL) _ _ (by first | exact hFH | exact hFL | exact hGH | exact hGL)))))
        refine wpQuiet_nil ?_
        rintro _ ⟨q, rfl⟩
        have HT3 := Lib.hid (HT2.out.get (below_regrown w2 q.d q.os))
        obtain ⟨W3, hW3⟩ : ∃ w3, w3 = grow (redrawn w2 q.d) q.os := ⟨_, rfl⟩
        rw [← hW3] at HT3 ⊢
        clear hW3 HT2
        clear y3 y4 hFH hFL hGH hGL
        go_wp2_with fail
        obtain ⟨U, hUe⟩ : ∃ U : Nat, IntKind.u64.wrap tn = (U : Int) := ⟨(tn % 18446744073709551616).toNat, by rw [IntKind.wrap_u64]; omega⟩
        obtain ⟨r, hre⟩ : ∃ r, r = U % n := ⟨_, rfl⟩
        have HRE := Lib.hid hre
        have HUE := Lib.hid hUe
        clear hre hUe
        go_loopw [15] (fun y wi => ∃ (k : Nat) (g' : Nat → Nat), k ≤ n ∧ y = .int .i64 k ∧ GvW f g' p w c n r k (.slice a n cap) wi) (fun y _ => n - (intOf y).toNat)
        case atStart => exact ⟨0, g, Nat.zero_le _, rfl, HGI.out r, HT3.out.two, HT3.out.row⟩
        case round =>
          obtain ⟨k, g', hk, rfl, hV⟩ := hrel
          have HV := Lib.hid hV
          have HGB := Lib.hid hV.math.byts
          clear HT3
          by_cases hkn : k < n
          · obtain ⟨Q, hQ⟩ : ∃ Q, Q = (k + r) % n := ⟨_, rfl⟩
            have hq : Q < n := by rw [hQ]; exact Nat.mod_lt _ (by omega)
            obtain ⟨q0, cap0, hv0, hc0⟩ := own_cell HV.out.row hq
            cases hv0
            have hbQ : bit g' (c Q) = true := by rw [hQ]; exact hV.math.has hkn
            have hcQ := HRG.out Q hq
            have HNM : Hid (GvM f (clrB g' (c Q)) c n r (k + 1)) := Lib.hid (by rw [hQ]; exact hV.math.next hkn HIN.out HCL.out)
            have hrn : r < n := by rw [HRE.out]; exact Nat.mod_lt _ (by omega)
            have u1 : IntKind.u64.wrap tn = (U : Int) := HUE.out
            have u2 : (U : Int).tmod (n : Int) = (r : Int) := by rw [HRE.out, Int.tmod_eq_emod_of_nonneg (by omega)]; omega
            have u3 : (U : Int) % (n : Int) = (r : Int) := by rw [HRE.out]; omega
            have u4 : ((k : Int) + (r : Int)).tmod (n : Int) = (Q : Int) := by rw [hQ, Int.tmod_eq_emod_of_nonneg (by omega)]; simp
            have u5 : ((k : Int) + (r : Int)) % (n : Int) = (Q : Int) := by rw [hQ]; simp
            have hq1 : (Q : Int) < (n : Int) := by omega
            have HH1 : Hid (hasB g' (c Q) = true) := Lib.hid (by rw [hasB_nat g' _ hcQ]; exact hbQ)
            have HCI : Hid (clrI g' (c Q) = clrB g' (c Q)) := Lib.hid (by unfold clrI; rw [isB_nat _ hcQ, Int.toNat_natCast, hbQ]; rfl)
            have HC1 : Hid ((isB (c Q : Nat) && bit g' ((c Q : Nat) : Int).toNat) = true) := Lib.hid (by rw [isB_nat _ hcQ, Int.toNat_natCast, hbQ]; rfl)
            have HC2 : Hid ((isB (c Q : Nat) && bit (clrB g' (c Q)) ((c Q : Nat) : Int).toNat) = false) := Lib.hid (by rw [Int.toNat_natCast, bit_clrB]; simp)
            have HCJ : Hid (clrI (clrB g' (c Q)) (c Q) = clrB g' (c Q)) := Lib.hid (by unfold clrI; rw [Int.toNat_natCast, show bit (clrB g' (c Q)) (c Q) = false by rw [bit_clrB]; simp]; simp)
            have HB2 := Lib.hid (clrB_bytes hV.math.byts (c Q))
            have hkn1 : (k : Int) < (n : Int) := by omega
            clear hV hbQ hQ
            generalize hy : c Q = y at *
            have HY := Lib.hid hy
            clear hy
            go_wp2_with (first | (refine wpList_load_block rfl _ rfl p rfl g' HV.out.two.here ?_))
            refine (has_is g' HGB.out _ _ true HH1.out).mono ?_
            rintro e w4 ⟨rfl, hb4⟩
            have HV4 := Lib.hid (HV.out.get hb4)
            clear hb4 HV
            go_wp2_with fail
            refine (clear_any p g' HGB.out y _ HV4.out.two.here).mono ?_
            rintro e w5 ⟨rfl, hw5⟩
            rw [HCI.out] at hw5
            rw [HC1.out]
            have HT5 := Lib.hid (HV4.out.two.wrote hlt hw5)
            have HO5 := Lib.hid (own_same (A' := w5) HV4.out.row (fun q hq _ => hw5.block q (by omega)))
            clear hw5 HV4
            go_wp2_with fail
            refine (clear_any p (clrB g' y) HB2.out y _ HT5.out.here).mono ?_
            rintro e w6 ⟨rfl, hw6⟩
            rw [HCJ.out] at hw6
            rw [HC2.out]
            have HV6 : Hid (GvW f (clrB g' y) p w c n r (k + 1) (.slice (some ⟨q0, 0, none⟩) n cap) w6) := Lib.hid ⟨HNM.out, HT5.out.wrote hlt hw6, own_same (A' := w6) HO5.out (fun q hq _ => hw6.block q (by omega))⟩
            clear hw6 HT5 HO5 HNM
            go_wp2
            go_roundw
            case rel => exact ⟨k + 1, clrB g' y, by omega, by go_num, HV6.out⟩
            case measure => simp [intOf]; omega
          · obtain rfl : k = n := by omega
            have heq : eqB g' f = true := hV.math.done HF.out (by
              rcases Nat.eq_zero_or_pos k with h | h
              · exact .inr h
              · left; rw [HRE.out]; exact Nat.mod_lt _ h)
            clear hV
            go_wp2_with (first | (refine wpList_load_block rfl _ rfl p rfl g' HV.out.two.here ?_) | (refine wpList_load_block rfl _ rfl w.heap.size rfl f HV.out.two.box ?_))
            go_ret
            exact ⟨rfl, HV.out.two.below⟩
    · have hr : inR lo hi k := ⟨h2, h3, h4⟩
      have HH1 := Lib.hid h1
      have HFK : Hid (hasB f k = false) := Lib.hid (by rw [hasB_nat f k h4]; exact hT.math.clear h5)
      have HSI : Hid (setI g k = setB g k) := Lib.hid (by unfold setI; rw [isB_nat k h4, Int.toNat_natCast, h5]; rfl)
      have HS2 : Hid ((isB k && !bit g (k : Int).toNat) = true) := Lib.hid (by rw [isB_nat k h4, Int.toNat_natCast, h5]; rfl)
      have HNM := Lib.hid (hT.math.next hr h5 h6)
      have d1 : decide ((k : Int) < lo) = false := by simp; omega
      have d2 : decide (hi ≤ (k : Int)) = false := by simp; omega
      have HRL := Lib.hid (fun (h : 0 < n) => rise_last hT.math hr h5 h)
      have HNX : Hid (∀ w3 w4 : World, TkW f lo hi p w c n g (.slice a n cap) w3 → Wrote p (setB g k) w3 w4 → TkM f (setB g k) lo hi (extc c n k) (n + 1) ∧ Two f (setB g k) p w w4 ∧ w4.ownsRow (p + 1) 3 1 (.slice a n cap) n (nr n c)) := Lib.hid (fun w3 w4 h hw => ⟨HNM.out, h.two.wrote hlt hw, own_same h.row (fun q hq _ => hw.block q (by omega))⟩)
      clear h6 hr HNM h1 h5 hT
      rcases n with _ | n
      · clear HRL
        go_wp2_with (first | (refine wpList_load_block rfl _ rfl p rfl g HT.out.two.here ?_))
        refine (first_any g HG.out lo hi _).mono ?_
        rintro e w2 ⟨rfl, hb2⟩
        rw [HH1.out]
        have HT2 := Lib.hid (HT.out.get hb2)
        clear hb2 HT
        go_wp2_with (first | (refine wpList_load_block rfl _ rfl w.heap.size rfl f HT2.out.two.box ?_))
        refine (has_is f HF.out _ _ false HFK.out).mono ?_
        rintro e w3 ⟨rfl, hb3⟩
        have HT3 := Lib.hid (HT2.out.get hb3)
        clear hb3 HT2
        go_wp2_with fail
        refine (set_any p g HG.out k _ HT3.out.two.here).mono ?_
        rintro e w4 ⟨rfl, hw4⟩
        rw [HSI.out] at hw4
        rw [HS2.out]
        have HT4 := Lib.hid (HNX.out w3 w4 HT3.out hw4)
        clear hw4 HT3 HNX
        have hp4 : p + 1 ≤ w4.heap.size := (Array.getElem?_eq_some_iff.1 HT4.out.2.1.here).1
        go_wp2_with (at_builtin; refine wpList_append_lies _ rfl (.tmp 63) (.tmp 65) 39 rfl (p + 1) 3 i0 _ 1 8 Try.underlying39 hi0 hz0 hz1 hz2 rfl (by omega) _ 0 (nr 0 c) rfl (HT4.out.2.2.alloc _) ⟨w4.heap.size, 0, none⟩ 1 1 [.int .i64 k] rfl rfl (World.news_of_block (cs := #[.int .i64 k]) (t := 3) (fr := (0, 0)) (heap_alloc_new w4 _)) (by simp [Value.oneCell']) (by omega) (by simp [maxLen] <;> omega) (by omega) (by simp <;> omega) (w4.heap.size + 1) (by simp) ?_; intro q qc W5 hown hgrow hat hlt5)
        have HT5 := Lib.hid (TkW.appended HT4.out.1 HT4.out.2.1 HT4.out.2.2 hlt hown hgrow)
        clear hown hgrow hat hlt5 HT4
        go_roundw
        case rel => exact ⟨0 + 1, extc c (0) k, setB g k, by go_num, HT5.out⟩
        case measure => simp [intOf]
      · have hck := HRL.out (by omega)
        rw [Nat.add_sub_cancel] at hck
        obtain ⟨q0, cap0, hv0, hc0⟩ := own_cell HT.out.row (i := n) (by omega)
        cases hv0
        have dd : decide ((k : Int) ≤ (c n : Int)) = false := by simp; omega
        have dd2 : decide (k ≤ c n) = false := by simp; omega
        clear HRL hc0
        go_wp2_with (first | (refine wpList_load_block rfl _ rfl p rfl g HT.out.two.here ?_))
        refine (first_any g HG.out lo hi _).mono ?_
        rintro e w2 ⟨rfl, hb2⟩
        rw [HH1.out]
        have HT2 := Lib.hid (HT.out.get hb2)
        clear hb2 HT
        go_wp2_with (first | (refine wpList_load_block rfl _ rfl w.heap.size rfl f HT2.out.two.box ?_))
        refine (has_is f HF.out _ _ false HFK.out).mono ?_
        rintro e w3 ⟨rfl, hb3⟩
        have HT3 := Lib.hid (HT2.out.get hb3)
        obtain ⟨q3, cap3, hv3, hc3⟩ := own_cell HT3.out.row (i := n) (by omega)
        cases hv3
        clear hb3 HT2
        go_wp2_with fail
        refine (set_any p g HG.out k _ HT3.out.two.here).mono ?_
        rintro e w4 ⟨rfl, hw4⟩
        rw [HSI.out] at hw4
        rw [HS2.out]
        have HT4 := Lib.hid (HNX.out w3 w4 HT3.out hw4)
        clear hw4 HT3 HNX
        have hp4 : p + 1 ≤ w4.heap.size := (Array.getElem?_eq_some_iff.1 HT4.out.2.1.here).1
        go_wp2_with (at_builtin; refine wpList_append_lies _ rfl (.tmp 63) (.tmp 65) 39 rfl (p + 1) 3 i0 _ 1 8 Try.underlying39 hi0 hz0 hz1 hz2 rfl (by omega) _ (n + 1) (nr (n + 1) c) rfl (HT4.out.2.2.alloc _) ⟨w4.heap.size, 0, none⟩ 1 1 [.int .i64 k] rfl rfl (World.news_of_block (cs := #[.int .i64 k]) (t := 3) (fr := (0, 0)) (heap_alloc_new w4 _)) (by simp [Value.oneCell']) (by omega) (by simp [maxLen] <;> omega) (by omega) (by simp <;> omega) (w4.heap.size + 1) (by simp) ?_; intro q qc W5 hown hgrow hat hlt5)
        have HT5 := Lib.hid (TkW.appended HT4.out.1 HT4.out.2.1 HT4.out.2.2 hlt hown hgrow)
        clear hown hgrow hat hlt5 HT4
        go_roundw
        case rel => exact ⟨(n + 1) + 1, extc c ((n + 1)) k, setB g k, by go_num, HT5.out⟩
        case measure => simp [intOf]; omega
end Go.Proofs.Ytiajohnnmnoijaa
