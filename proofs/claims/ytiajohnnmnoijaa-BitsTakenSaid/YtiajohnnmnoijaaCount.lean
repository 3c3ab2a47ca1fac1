/-
  The contracts of math/bits.OnesCount8 and of bits.Count: of any block and number how many bits ahead of it are set; nothing that was there is changed.
  Conditions: none.
-/
import Derived.Test.YtiajohnnmnoijaaFirst
import Derived.Test.YtiajohnnmnoijaaEq
namespace Go.Proofs.Ytiajohnnmnoijaa
open Go.RowKit

set_option maxRecDepth 100000 in
set_option maxHeartbeats 400000 in
theorem ones_any (x : Nat) (hx : x < 256) (w : World) :
    Calls Try.prog 27 #[.int .u8 x] w fun e w' => e = .returned (.int .i64 (pop8 x)) ∧ w' = w := by
  have hx1 : (x : Int) < 256 := by omega
  go_enter Try.func27, Try.ntmps27
  go_wp2
  go_ret
  refine ⟨ret_int ?_, rfl⟩
  clear w
  revert hx1
  revert x
  decide +kernel

theorem cnt_zero (f : Nat → Nat) (h : eqB f zB = true) : ∀ c, c ≤ 2048 → cnt f c = 0
  | 0, _ => rfl
  | c + 1, hc => by
    have e := (eqB_iff f zB).1 h (c / 8) (by omega)
    have hb : bit f c = false := by unfold bit; rw [e]; simp [zB]
    show cnt f c + (if bit f c then 1 else 0) = 0
    rw [cnt_zero f h c (by omega), hb]; rfl

attribute [local go_sem] run_equalIn_top

set_option maxRecDepth 100000 in
set_option maxHeartbeats 1000000 in
theorem count_low (f : Nat → Nat) (n : Int) (w : World) (h0 : n ≤ 0) :
    Calls Try.prog 21 #[.agg (bc f), .int .i64 n] w fun e w' => e = .returned (.int .i64 0) ∧ Below w.heap.size w w' := by
  rcases Int.lt_or_le n 0 with h | h
  · go_enter Try.func21, Try.ntmps21
    go_wp2
    go_ret
    exact ⟨rfl, (Boxes.mk1 f w).below⟩
  · obtain rfl : n = 0 := by omega
    go_enter Try.func21, Try.ntmps21
    go_wp2
    go_ret
    exact ⟨rfl, (Boxes.mk1 f w).below⟩

set_option maxRecDepth 100000 in
set_option maxHeartbeats 1000000 in
theorem count_zero (f : Nat → Nat) (n : Int) (w : World) (h0 : 0 < n) (hz : eqB f zB = true) :
    Calls Try.prog 21 #[.agg (bc f), .int .i64 n] w fun e w' => e = .returned (.int .i64 0) ∧ Below w.heap.size w w' := by
  have hg := heap_alloc_new w (.cells (bc f) 23)
  have HG := Lib.hid hg
  clear hg
  have hn : (n == 0) = false := by simp; omega
  rcases Int.lt_or_le 2048 n with h | h
  all_goals
    go_enter Try.func21, Try.ntmps21
    go_wp2_with (first | (refine wpList_load_block rfl _ rfl w.heap.size rfl f HG.out ?_) | (refine wpList_build0 rfl rfl ?_))
    go_ret
    exact ⟨rfl, (Boxes.mk1 f w).below⟩

theorem u8_mask (x c : Nat) (hx : x < 256) : bits .and .u8 (x : Int) (mk c - 1) = ((x &&& (2 ^ (c % 8) - 1) : Nat) : Int) := by
  have h1 : 0 < 2 ^ (c % 8) := Nat.pow_pos (by decide)
  have h2 := pow_lt c
  have e : mk c - 1 = ((2 ^ (c % 8) - 1 : Nat) : Int) := by unfold mk; rw [Int.natCast_sub (by omega)]; rfl
  rw [e, u8_and_nat _ _ hx (by omega)]


/-- The bits of the byte that c lies in, ahead of c. -/
def lowB (f : Nat → Nat) (c : Nat) : Nat := f (c / 8) &&& (2 ^ (c % 8) - 1)

theorem mk_pos (c : Nat) : 1 ≤ mk c := Int.ofNat_le.2 (Nat.pow_pos (n := c % 8) (by decide : 0 < 2))

set_option maxRecDepth 100000 in
set_option maxHeartbeats 1000000 in
theorem count_mid (f : Nat → Nat) (hf : Bytes f) (c : Nat) (hc0 : 0 < c) (hc1 : c ≤ 2048) (w : World) (hz : eqB f zB = false) :
    Calls Try.prog 21 #[.agg (bc f), .int .i64 c] w fun e w' => e = .returned (.int .i64 (cnt f c)) ∧ Below w.heap.size w w' := by
  have HG := Lib.hid (heap_alloc_new w (.cells (bc f) 23))
  have HF := Lib.hid hf
  clear hf
  have hn0 : ((c : Int) == 0) = false := by simp; omega
  have hq0 : 0 ≤ (c : Int) / 8 := by omega
  have hq1 : (c : Int) / 8 ≤ 256 := by omega
  have HC := Boxes.mk1 f w
  go_enter Try.func21, Try.ntmps21
  go_wp2_with (first | (refine wpList_load_block rfl _ rfl w.heap.size rfl f HG.out ?_) | (refine wpList_build0 rfl rfl ?_))
  clear HG
  go_loop [5, 22] (fun s i => ∃ j : Nat, j ≤ c / 8 ∧ i = .int .i64 j ∧ s = .int .i64 (cnt f (8 * j))) (fun _ i => c / 8 - (intOf i).toNat)
  case atStart => exact ⟨0, Nat.zero_le _, rfl, rfl⟩
  case round =>
    obtain ⟨j, hj, rfl, rfl⟩ := hrel
    have hcl := cnt_le f (8 * j)
    by_cases hlt : j < c / 8
    · have hcell := HC.cell j (by omega)
      have hb := HF.out j
      have HS := Lib.hid (cnt_byte f j)
      have hpl := cnt_le f (8 * (j + 1))
      have hsum : cnt f (8 * j) + pop8 (f j) ≤ 8 * (j + 1) := by rw [← cnt_byte]; exact hpl
      have hj2 : (j : Int) < 256 := by omega
      go_wp2_with (go_at_call 27; refine (ones_any _ (by omega) _).mono ?_; rintro e w' ⟨rfl, rfl⟩)
      go_round
      case rel => exact ⟨j + 1, by omega, by go_num, by rw [HS.out]; go_num⟩
      case measure => simp [intOf]; omega
    · obtain rfl : j = c / 8 := by omega
      clear hj hlt
      by_cases hm : c % 8 = 0
      · have hm1 : ((c : Int) % 8 != 0) = false := by simp; omega
        have e8 : 8 * (c / 8) = c := by omega
        have HE := Lib.hid e8
        clear e8 hm
        go_wp2
        go_ret
        exact ⟨ret_int (by rw [HE.out]), HC.below⟩
      · have hm1 : ((c : Int) % 8 != 0) = true := by simp; omega
        have hcell := HC.cell (c / 8) (by omega)
        have hq2 : (c : Int) / 8 < 256 := by omega
        have HP : Hid (cnt f c = cnt f (8 * (c / 8)) + pop8 (lowB f c)) := Lib.hid (cnt_part f c)
        have hM : bits .and .u8 (f (c / 8) : Int) (mk c - 1) = (lowB f c : Int) := u8_mask (f (c / 8)) c (HF.out _)
        have hlow : lowB f c < 256 := and_lt _ _ (HF.out _)
        have hmk1 := mk_pos c
        have hmk2 := mk_bd c
        have hle := cnt_le f c
        have hsum : cnt f (8 * (c / 8)) + pop8 (lowB f c) ≤ c := by rw [← HP.out]; exact hle
        have hs : IntKind.u8.wrap (mk c - 1) = mk c - 1 := IntWalk.u8_in _ (by omega)
        have hq : IntKind.i64.wrap ((c : Int) / 8) = (c : Int) / 8 := IntWalk.i64_in _ (by omega)
        have hqt : ((c : Int) / 8).toNat = c / 8 := by omega
        have hw : IntKind.i64.wrap ((cnt f (8 * (c / 8)) : Int) + (pop8 (lowB f c) : Int)) = (cnt f (8 * (c / 8)) : Int) + (pop8 (lowB f c) : Int) := IntWalk.i64_in _ (by omega)
        clear hm
        go_wp2
        go_quiet (first | (go_at_call 24; exact Calls.quiet_of_same (mask_any _ _ (by omega))) | (go_at_call 27; exact Calls.quiet_of_same (ones_any _ hlow _)))
        clear hq hqt hw hs hM
        go_wp2
        go_ret
        exact ⟨ret_int (by rw [HP.out]; omega), (HC.drewN _).below⟩

set_option maxRecDepth 100000 in
set_option maxHeartbeats 1000000 in
theorem count_top (f : Nat → Nat) (hf : Bytes f) (n : Int) (h : 2048 < n) (w : World) (hz : eqB f zB = false) :
    Calls Try.prog 21 #[.agg (bc f), .int .i64 n] w fun e w' => e = .returned (.int .i64 (cnt f 2048)) ∧ Below w.heap.size w w' := by
  have HG := Lib.hid (heap_alloc_new w (.cells (bc f) 23))
  have HF := Lib.hid hf
  clear hf
  have HC := Boxes.mk1 f w
  go_enter Try.func21, Try.ntmps21
  go_wp2_with (first | (refine wpList_load_block rfl _ rfl w.heap.size rfl f HG.out ?_) | (refine wpList_build0 rfl rfl ?_))
  clear HG
  go_loop [5, 22] (fun s i => ∃ j : Nat, j ≤ 256 ∧ i = .int .i64 j ∧ s = .int .i64 (cnt f (8 * j))) (fun _ i => 256 - (intOf i).toNat)
  case atStart => exact ⟨0, Nat.zero_le _, rfl, rfl⟩
  case round =>
    obtain ⟨j, hj, rfl, rfl⟩ := hrel
    have hcl := cnt_le f (8 * j)
    by_cases hlt : j < 256
    · have hcell := HC.cell j (by omega)
      have hb := HF.out j
      have HS := Lib.hid (cnt_byte f j)
      have hpl := cnt_le f (8 * (j + 1))
      have hsum : cnt f (8 * j) + pop8 (f j) ≤ 8 * (j + 1) := by rw [← cnt_byte]; exact hpl
      have hj2 : (j : Int) < 256 := by omega
      go_wp2_with (go_at_call 27; refine (ones_any _ (by omega) _).mono ?_; rintro e w' ⟨rfl, rfl⟩)
      go_round
      case rel => exact ⟨j + 1, by omega, by go_num, by rw [HS.out]; go_num⟩
      case measure => simp [intOf]; omega
    · obtain rfl : j = 256 := by omega
      clear hj hlt
      go_wp2
      go_ret
      exact ⟨rfl, HC.below⟩

/-- Count, of any block and number: how many bits ahead of it are set; nothing that was there is changed. -/
theorem count_any (f : Nat → Nat) (hf : Bytes f) (n : Int) (w : World) :
    Calls Try.prog 21 #[.agg (bc f), .int .i64 n] w fun e w' => e = .returned (.int .i64 (cnt f (clamp n))) ∧ Below w.heap.size w w' := by
  by_cases h0 : n ≤ 0
  · refine (count_low f n w h0).mono ?_
    rintro e w' ⟨rfl, hb⟩
    refine ⟨ret_int ?_, hb⟩
    have : clamp n = 0 := by unfold clamp; omega
    rw [this]; rfl
  · cases hz : eqB f zB with
    | true =>
      refine (count_zero f n w (by omega) hz).mono ?_
      rintro e w' ⟨rfl, hb⟩
      exact ⟨ret_int (by rw [cnt_zero f hz _ (clamp_le n)]; rfl), hb⟩
    | false =>
      by_cases h1 : n ≤ 2048
      · have e : n = (clamp n : Int) := by unfold clamp; omega
        have := count_mid f hf (clamp n) (by omega) (by omega) w hz
        rwa [← e] at this
      · have e : clamp n = 2048 := by unfold clamp; omega
        rw [e]
        exact count_top f hf n (by omega) w hz

end Go.Proofs.Ytiajohnnmnoijaa
