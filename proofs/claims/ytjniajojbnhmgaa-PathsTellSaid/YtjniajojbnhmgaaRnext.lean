/-
  The contracts of quernref10.apart, quernref10.Next and quernref10.Indirect.
  Conditions: none but those that each lemma names.
-/
import Derived.Test.YtjniajojbnhmgaaMath
namespace Go.Proofs.Ytjniajojbnhmgaa
open Go.RowKit
set_option linter.unusedVariables false

theorem ofN_le (k : Int) : ofN k ≤ 3 := by unfold ofN; (repeat' split) <;> omega

/-- What apart answers. -/
def ApPost (a b : Int) (w : World) (e : Ending) (w' : World) : Prop := ∃ s : Bool, e = .returned (.bool s) ∧ Below w.heap.size w w' ∧ ((s = true ∧ nxt a ≤ b) ∨ (s = false ∧ b < nxt a))
theorem ap_yes {a b : Int} {w w' : World} (hb : Below w.heap.size w w') (h : nxt a ≤ b) : ApPost a b w (.returned (.bool true)) w' := ⟨true, rfl, hb, .inl ⟨rfl, h⟩⟩
theorem ap_no {a b : Int} {w w' : World} (hb : Below w.heap.size w w') (h : b < nxt a) : ApPost a b w (.returned (.bool false)) w' := ⟨false, rfl, hb, .inr ⟨rfl, h⟩⟩

set_option maxRecDepth 100000 in
set_option maxHeartbeats 2000000 in
theorem apart_any (a b : Int) (ha0 : 0 ≤ a) (hab : a ≤ b) (hb1 : b < 65536) (w : World) : Calls Try.prog 30 #[.int .i64 a, .int .i64 b] w (ApPost a b w) := by
  have HT := Lib.hid (tog_iff ha0 hab hb1)
  have hNa := ofN_le a
  have HYES : Hid (¬ Tog a b → nxt a ≤ b) := Lib.hid (fun h => by
    rcases Int.lt_or_le b (nxt a) with h' | h'
    · exact absurd (HT.out.2 h') h
    · exact h')
  have HA := Lib.hid (fun W => rof_yes a ha0 (by omega) W)
  have HB := Lib.hid (fun W => rof_yes b (by omega) hb1 W)
  have ha1 : a < 65536 := by omega
  have hb0 : 0 ≤ b := by omega
  by_cases hp : ofP a = ofP b
  · have hn := ofN_of_ofP ha0 hb0 hp
    have hpb : (ofP a != ofP b) = false := by simpa using hp
    have hnb : ((ofN a : Int) != (ofN b : Int)) = false := by rw [hn]; simp
    have HTOG : Hid ((∀ i, i + 1 < ofN a → ofZ a i = ofZ b i) → b < nxt a) := Lib.hid (fun h => HT.out.1 ⟨hp, hn, h⟩)
    have HNT : Hid (∀ i, i + 1 < ofN a → ofZ a i ≠ ofZ b i → nxt a ≤ b) := Lib.hid (fun i hi h => HYES.out (fun ht => h (ht.2.2 i hi)))
    clear hp HT HYES
    have HNN := Lib.hid hn
    clear hn
    go_enter Try.func30, Try.ntmps30
    go_wp2_with fail
    refine (HA.out _).mono ?_
    rintro e w2 ⟨a2, cap2, rfl, hb2, hO2⟩
    have HB2 := Lib.hid hb2
    have HSA := Lib.hid hO2.sl
    clear hb2 hO2
    go_wp2_with fail
    refine (HB.out _).mono ?_
    rintro e w3 ⟨a3, cap3, rfl, hb3, hO3⟩
    have HB3 := Lib.hid (HB2.out.trans (hb3.mono HB2.out.size))
    have HSA' := Lib.hid (HSA.out.keep hb3)
    have HSB := Lib.hid hO3.sl
    clear hb3 hO3 HB2 HSA HA HB
    generalize ofP a = pa at *
    generalize ofP b = pb at *
    generalize ofN a = na at *
    generalize ofN b = nb at *
    go_wp2_with fail
    go_loopw [11] (fun v wr => ∃ i : Nat, i ≤ 3 ∧ v = .int .i64 i ∧ (∀ j, j < i → ofZ a j = ofZ b j) ∧ ∃ k, wr = w3.drewN k) (fun v _ => na - (intOf v).toNat)
    case atStart => exact ⟨0, by omega, rfl, fun j hj => by omega, 0, rfl⟩
    case round =>
      obtain ⟨i, hi3, rfl, hall, k, rfl⟩ := hrel
      have HAL := Lib.hid hall
      clear hall
      by_cases hlt : i + 1 < na
      · have hnn := HNN.out
        obtain ⟨g1, o1, rfl, c1⟩ := (HSA'.out.drewN k).at (i := i) (by omega)
        obtain ⟨g2, o2, rfl, c2⟩ := (HSB.out.drewN k).at (i := i) (by omega)
        have hl0 : (i : Int) + 1 < (na : Int) := by omega
        have hl1 : (i : Int) < (na : Int) := by omega
        have hl2 : (i : Int) < (nb : Int) := by omega
        clear hnn
        obtain ⟨W, hW⟩ : ∃ W, W = w3.drewN k := ⟨_, rfl⟩
        rw [← hW] at c1 c2 ⊢
        have HW := Lib.hid hW
        clear hW
        have HNX := Lib.hid (HNT.out i hlt)
        have HEQ : Hid (ofZ a i = ofZ b i → ∀ j, j < i + 1 → ofZ a j = ofZ b j) := Lib.hid (fun e j hj => by
          rcases Nat.lt_or_ge j i with h | h
          · exact HAL.out j h
          · obtain rfl : j = i := by omega
            exact e)
        generalize ofZ a i = x at c1 HNX HEQ
        generalize ofZ b i = y at c2 HNX HEQ
        by_cases hxy : x = y
        · have hxb : (x != y) = false := by simpa using hxy
          have HF := Lib.hid (HEQ.out hxy)
          clear hxy HNX HEQ
          go_wp2
          go_quiet (fail)
          go_wp2
          go_roundw
          case rel => exact ⟨i + 1, by omega, by go_num, HF.out, k + nq, by rw [HW.out, World.drewN_drewN]⟩
          case measure => simp [intOf]; omega
        · have hxb : (x != y) = true := by simpa using hxy
          have HF := Lib.hid (HNX.out hxy)
          clear hxy HNX HEQ
          go_wp2
          go_quiet (fail)
          go_wp2
          go_ret
          exact ap_yes (by rw [HW.out]; exact below_drewN (below_drewN HB3.out k) _) HF.out
      · have HF := Lib.hid (HTOG.out (fun j hj => HAL.out j (by omega)))
        have HB4 := Lib.hid (below_drewN HB3.out k)
        obtain ⟨W, hW⟩ : ∃ W, W = w3.drewN k := ⟨_, rfl⟩
        rw [← hW] at HB4 ⊢
        clear hW
        go_wp2
        go_ret
        exact ap_no HB4.out HF.out
  · have hpb : (ofP a != ofP b) = true := by simpa using hp
    have HF := Lib.hid (HYES.out (fun ht => hp ht.1))
    clear hp HT HYES
    go_enter Try.func30, Try.ntmps30
    go_wp2_with fail
    refine (HA.out _).mono ?_
    rintro e w2 ⟨a2, cap2, rfl, hb2, hO2⟩
    have HB2 := Lib.hid hb2
    clear hb2 hO2
    go_wp2_with fail
    refine (HB.out _).mono ?_
    rintro e w3 ⟨a3, cap3, rfl, hb3, hO3⟩
    have HB3 := Lib.hid (HB2.out.trans (hb3.mono HB2.out.size))
    clear hb3 hO3 HB2 HA HB
    generalize ofP a = pa at *
    generalize ofP b = pb at *
    go_wp2
    go_ret
    exact ap_yes HB3.out HF.out

theorem nxt_le {a : Int} (h0 : 0 ≤ a) (h1 : a < 65536) : a < nxt a ∧ nxt a ≤ 65536 := by
  unfold nxt; rw [if_neg (by omega), if_neg (by omega)]; split <;> omega

set_option maxRecDepth 100000 in
set_option maxHeartbeats 1000000 in
theorem rnext_any (a : Int) (w : World) (hlo : -9223372036854775808 ≤ a) (hhi : a ≤ 9223372036854775807) : Calls Try.prog 25 #[.int .i64 a] w fun e w' => e = .returned (.int .i64 (nxt a)) ∧ Below w.heap.size w w' := by
  by_cases h0 : a < 0
  · rw [show nxt a = 0 by unfold nxt; rw [if_pos h0]]
    go_enter Try.func25, Try.ntmps25
    go_wp2
    go_ret
    exact ⟨rfl, Below.refl _ w⟩
  · by_cases h1 : 65536 ≤ a
    · rw [show nxt a = 65536 by unfold nxt; rw [if_neg h0, if_pos h1]]
      by_cases hm : a = 9223372036854775807
      · subst hm
        go_enter Try.func25, Try.ntmps25
        go_wp2
        refine wp_loop_rounds 1 ?_
        rw [rounds_succ]
        go_wp2
        all_goals
          go_ret
          exact ⟨rfl, Below.refl _ w⟩
      · go_enter Try.func25, Try.ntmps25
        go_wp2
        refine wp_loop_rounds 1 ?_
        rw [rounds_succ]
        go_wp2
        go_ret
        exact ⟨rfl, Below.refl _ w⟩
    · have hN := nxt_le (a := a) (by omega) (by omega)
      have HAP := Lib.hid (fun k (h : a ≤ k) (h2 : k < 65536) W => apart_any a k (by omega) h h2 W)
      unfold ApPost at HAP
      have HN : Hid (nxt a = nxt a) := Lib.hid rfl
      generalize nxt a = N at *
      have hN1 := hN.1
      have hN2 := hN.2
      clear hN HN
      go_enter Try.func25, Try.ntmps25
      go_wp2_with fail
      go_loopw [3] (fun v wr => ∃ k : Int, v = .int .i64 k ∧ a < k ∧ k ≤ N ∧ Below w.heap.size w wr) (fun v _ => (65536 - intOf v).toNat)
      case atStart => exact ⟨a + 1, rfl, by omega, by omega, Below.refl _ w⟩
      case round =>
        obtain ⟨k, rfl, hk1, hk2, hb⟩ := hrel
        have HBR := Lib.hid hb
        clear hb
        by_cases hk : k < 65536
        · go_wp2_with fail
          refine (HAP.out k (by omega) hk _).mono ?_
          rintro e w2 ⟨s, rfl, hb2, hs⟩
          have HB2 := Lib.hid (HBR.out.trans (hb2.mono HBR.out.size))
          clear hb2
          rcases hs with ⟨rfl, hs⟩ | ⟨rfl, hs⟩
          · obtain rfl : k = N := by omega
            go_wp2
            go_ret
            exact ⟨rfl, HB2.out⟩
          · go_wp2
            go_roundw
            case rel => exact ⟨k + 1, rfl, by omega, by omega, HB2.out⟩
            case measure => simp [intOf]; omega
        · obtain rfl : N = 65536 := by omega
          go_wp2
          go_ret
          exact ⟨rfl, HBR.out⟩

set_option maxRecDepth 100000 in
set_option maxHeartbeats 2000000 in
theorem rind_any (b : Int) (w : World) : Calls Try.prog 27 #[.int .i64 b] w fun e w' => e = .returned (.int .i64 (ind (min (max b 0) 65536))) ∧ Below w.heap.size w w' := by
  obtain ⟨c, hc⟩ : ∃ c : Nat, min (max b 0) 65536 = (c : Int) := ⟨(min (max b 0) 65536).toNat, by omega⟩
  rw [hc]
  have hc1 : c ≤ 65536 := by omega
  have HC : Hid (∀ i : Nat, i ≤ c → ((i : Int) < b ∧ (i : Int) < 65536 ∧ i < c) ∨ (¬ ((i : Int) < b ∧ (i : Int) < 65536) ∧ i = c)) := Lib.hid (fun i hi => by omega)
  clear hc
  go_enter Try.func27, Try.ntmps27
  go_wp2_with fail
  go_loopw [3, 4] (fun u v wr => ∃ i : Nat, i ≤ c ∧ v = .int .i64 i ∧ u = .int .i64 (ind i) ∧ Below w.heap.size w wr) (fun _ v _ => c - (intOf v).toNat)
  case atStart => exact ⟨0, Nat.zero_le _, rfl, rfl, Below.refl _ w⟩
  case round =>
    obtain ⟨i, hi, rfl, rfl, hb⟩ := hrel
    have HBR := Lib.hid hb
    clear hb
    have hib := ind_bd (c := i) (by omega)
    rcases HC.out i hi with ⟨h1, h2, h3⟩ | ⟨h1, rfl⟩
    · have HT := Lib.hid (fun m (h : Tz i m) => ind_step (by omega) h2 h)
      have hN := ofN_le i
      have HOF := Lib.hid (fun W => rof_yes i (by omega) h2 W)
      unfold OfPost at HOF
      have HTN : Hid (∀ m t : Nat, t + m = ofN i → (∀ j, t ≤ j → j < ofN i → ofZ i j = 0) → (t = 0 ∨ ofZ i (t - 1) ≠ 0) → ind (i + 1 : Nat) = ind i + m) := Lib.hid (fun m t e1 e2 e3 => HT.out m ⟨by omega, fun j hj hj2 => e2 j (by omega) hj2, by
        rcases e3 with e3 | e3
        · left; omega
        · right; rw [show ofN i - 1 - m = t - 1 by omega]; exact e3⟩)
      clear HT
      generalize ind i = x at hib HTN
      generalize ofN i = N at hN HOF HTN
      generalize ofP i = P at HOF
      generalize ofZ i = z at HOF HTN
      go_wp2_with fail
      refine (HOF.out _).mono ?_
      rintro e w2 ⟨a, cap, rfl, hb2, hO⟩
      have HB2 := Lib.hid (HBR.out.trans (hb2.mono HBR.out.size))
      have HS := Lib.hid hO.sl
      clear hb2 hO HOF HBR
      go_wp2_with fail
      go_loop [3, 8] (fun u v => ∃ t m : Nat, t + m = N ∧ v = .int .i64 ((t : Int) - 1) ∧ u = .int .i64 (x + m) ∧ ∀ j, t ≤ j → j < N → z j = 0) (fun _ v => (intOf v + 1).toNat)
      case atStart => exact ⟨N, 0, by omega, rfl, by simp, fun j h1 h2 => by omega⟩
      case round =>
        obtain ⟨t, m, hsum, rfl, rfl, hall⟩ := hrel
        have HA := Lib.hid hall
        have HSU := Lib.hid hsum
        have hmb : (m : Int) ≤ 3 := by omega
        have htb : (t : Int) ≤ 3 := by omega
        rcases t with _ | s
        · have HE := Lib.hid (HTN.out m 0 HSU.out HA.out (.inl rfl))
          clear hall hsum
          go_wp2
          go_roundw
          case rel => exact ⟨i + 1, by omega, by go_num, by rw [HE.out], HB2.out⟩
          case measure => simp [intOf]; omega
        · obtain ⟨g, o, rfl, hc⟩ := HS.out.at (i := s) (by omega)
          rw [show (((s + 1 : Nat) : Int) - 1) = (s : Int) by omega]
          have hsN : s < N := by omega
          have hsN2 : (s : Int) < (N : Int) := by omega
          clear hall hsum
          by_cases hz : z s = 0
          · rw [hz] at hc
            go_wp2
            go_round
            case rel =>
              refine ⟨s, m + 1, by have := HSU.out; omega, rfl, by go_num, fun j hj1 hj2 => ?_⟩
              rcases Nat.lt_or_ge s j with h | h
              · exact HA.out j (by omega) hj2
              · obtain rfl : j = s := by omega
                exact hz
            case measure => simp [intOf]
          · have HE := Lib.hid (HTN.out m (s + 1) HSU.out HA.out (.inr hz))
            have hzb : (z s == 0) = false := by simpa using hz
            generalize z s = zz at hc hzb
            clear hz
            go_wp2
            go_roundw
            case rel => exact ⟨i + 1, by omega, by go_num, by rw [HE.out], HB2.out⟩
            case measure => simp [intOf]; omega
    · by_cases hib2 : (i : Int) < b
      · have h65 : ¬ (i : Int) < 65536 := fun h => h1 ⟨hib2, h⟩
        clear h1 hib
        go_wp2
        go_ret
        exact ⟨rfl, HBR.out⟩
      · clear h1 hib
        go_wp2
        go_ret
        exact ⟨rfl, HBR.out⟩
end Go.Proofs.Ytjniajojbnhmgaa
