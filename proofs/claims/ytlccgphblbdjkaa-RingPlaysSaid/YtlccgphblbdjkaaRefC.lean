/-
  The contract of quernref12's Take.
  Conditions: the ring is such as New and the calls leave it.
-/
import Derived.Test.YtlccgphblbdjkaaRefB
import Derived.OrdersHeld
import Derived.Deep.RegionHeld3
import Derived.Outline
namespace Go.Proofs.Ytlccgphblbdjkaa
open Go.RowKit
set_option linter.unusedVariables false

theorem RMv.refl (b2 : Nat) (v : Value) (W : World) : RMv b2 v W W := ⟨rfl, rfl, rfl, Nat.le_refl _, fun _ _ _ _ => rfl⟩

/-- What holds in the loop of Take: k places are told (vo), n are in use (v), the ring's field holds vc, its head is hc. -/
structure TQ (b2 J : Nat) (z : Nat → Nat) (v0 : Value) (u : Nat) (W0 : World) (vo : Value) (k : Nat) (v : Value) (n : Nat) (vc : Value) (hc : Nat) (W : World) : Prop where
  here : W.heap[b2]? = some (.cells #[.int .i64 J, vc, .int .i64 hc] 45)
  use : W.ownsRow (b2 + 1) 3 1 v n (nr n z)
  out : W.ownsRow (b2 + 1) 3 1 vo k (nr k fun j => z (u + j))
  fresh : ∀ g, vo.ownBlock = some g → W0.heap.size ≤ g
  apart : ∀ g, vo.ownBlock = some g → v.ownBlock ≠ some g
  old : ∀ g, v.ownBlock = some g → v0.ownBlock = some g ∨ W0.heap.size ≤ g
  mv : RMv b2 v0 W0 W

section
variable {b2 J : Nat} {z : Nat → Nat} {v0 : Value} {u : Nat} {W0 : World} {vo : Value} {k : Nat} {v : Value} {n : Nat} {vc : Value} {hc : Nat} {W : World}

theorem TQ.lt (h : TQ b2 J z v0 u W0 vo k v n vc hc W) : b2 < W.heap.size := (Array.getElem?_eq_some_iff.1 h.here).1
theorem TQ.c0 (h : TQ b2 J z v0 u W0 vo k v n vc hc W) : W.cell? ⟨b2, 0, none⟩ = some (.int .i64 J) := by rw [cell_of_row _ _ _ _ _ _ h.here]; rfl
theorem TQ.c1 (h : TQ b2 J z v0 u W0 vo k v n vc hc W) : W.cell? ⟨b2, 1, none⟩ = some vc := by rw [cell_of_row _ _ _ _ _ _ h.here]; rfl
theorem TQ.c2 (h : TQ b2 J z v0 u W0 vo k v n vc hc W) : W.cell? ⟨b2, 2, none⟩ = some (.int .i64 hc) := by rw [cell_of_row _ _ _ _ _ _ h.here]; rfl
theorem TQ.fz (h : TQ b2 J z v0 u W0 vo k v n vc hc W) (j : Nat) : W.frozen? ⟨b2, j, none⟩ = false := frozen_of_row _ _ _ _ _ h.here

/-- The relation looks at the blocks alone. -/
theorem TQ.same {W' : World} (h : TQ b2 J z v0 u W0 vo k v n vc hc W) (hos : W'.os = W.os) (ht : W'.tape = W.tape) (ho : W'.output = W.output) (hs : W.heap.size ≤ W'.heap.size) (hb : ∀ g, g < W.heap.size → W'.heap[g]? = W.heap[g]?) : TQ b2 J z v0 u W0 vo k v n vc hc W' :=
  ⟨(hb b2 h.lt).trans h.here, own_same h.use (fun g _ _ hg => hb g hg), own_same h.out (fun g _ _ hg => hb g hg), h.fresh, h.apart, h.old,
    ⟨hos.trans h.mv.os, ht.trans h.mv.tape, ho.trans h.mv.output, Nat.le_trans h.mv.size hs, fun k hk h1 h2 => (hb k (Nat.lt_of_lt_of_le hk h.mv.size)).trans (h.mv.block k hk h1 h2)⟩⟩
theorem TQ.alloc (h : TQ b2 J z v0 u W0 vo k v n vc hc W) (o : Obj) : TQ b2 J z v0 u W0 vo k v n vc hc (W.alloc o) := h.same rfl rfl rfl (by simp) (fun g hg => Below.heap_alloc _ _ _ hg)
theorem TQ.drew (h : TQ b2 J z v0 u W0 vo k v n vc hc W) : TQ b2 J z v0 u W0 vo k v n vc hc { W with drawn := W.drawn + 1 } := h.same rfl rfl rfl (Nat.le_refl _) (fun _ _ => rfl)
theorem TQ.drewN (h : TQ b2 J z v0 u W0 vo k v n vc hc W) (q : Nat) : TQ b2 J z v0 u W0 vo k v n vc hc (W.drewN q) := h.same rfl rfl rfl (Nat.le_refl _) (fun _ _ => rfl)

theorem nr_snoc (n : Nat) (z : Nat → Nat) : nr n z ++ [.int .i64 (z n)] = nr (n + 1) z := by simp [nr, List.range_succ]

theorem TQ.growOut {W' : World} {g cap : Nat} (h : TQ b2 J z v0 u W0 vo k v n vc hc W) (hown : W'.ownsRow (b2 + 1) 3 1 (.slice (some ⟨g, 0, none⟩) (k + 1) cap) (k + 1) ((nr k fun j => z (u + j)) ++ [.int .i64 (z (u + k))])) (hg : W.grownBy W' vo.ownBlock) (hat : vo.ownBlock = some g ∨ g = W.heap.size) :
    TQ b2 J z v0 u W0 (.slice (some ⟨g, 0, none⟩) (k + 1) cap) (k + 1) v n vc hc W' := by
  rw [nr_snoc k fun j => z (u + j)] at hown
  have hblk : ∀ q, q < W.heap.size → vo.ownBlock ≠ some q → W'.heap[q]? = W.heap[q]? := fun q hq hne => hg.block q hq (fun e => hne e.symm)
  refine ⟨(hblk b2 h.lt (fun e => by have := (own_base h.out e).1; omega)).trans h.here, own_same h.use (fun q e _ hq => hblk q hq (fun e2 => h.apart q e2 e)), hown, ?_, ?_, h.old, ?_⟩
  · intro q e
    obtain rfl : g = q := by simpa [Value.ownBlock] using e
    rcases hat with hat | rfl
    · exact h.fresh g hat
    · exact h.mv.size
  · intro q e
    obtain rfl : g = q := by simpa [Value.ownBlock] using e
    rcases hat with hat | rfl
    · exact h.apart g hat
    · intro e2
      have := (own_base h.use e2).2
      omega
  · refine ⟨hg.os.trans h.mv.os, hg.tape.trans h.mv.tape, hg.output.trans h.mv.output, Nat.le_trans h.mv.size hg.size, fun q hq h1 h2 => ?_⟩
    rw [hblk q (Nat.lt_of_lt_of_le hq h.mv.size) (fun e => by have := h.fresh q e; omega)]
    exact h.mv.block q hq h1 h2

theorem TQ.growUse {W' : World} {g cap : Nat} (h : TQ b2 J z v0 u W0 vo k v n vc hc W) (hown : W'.ownsRow (b2 + 1) 3 1 (.slice (some ⟨g, 0, none⟩) (n + 1) cap) (n + 1) (nr n z ++ [.int .i64 (z n)])) (hg : W.grownBy W' v.ownBlock) (hat : v.ownBlock = some g ∨ g = W.heap.size) :
    TQ b2 J z v0 u W0 vo k (.slice (some ⟨g, 0, none⟩) (n + 1) cap) (n + 1) vc hc W' := by
  rw [nr_snoc] at hown
  have hblk : ∀ q, q < W.heap.size → v.ownBlock ≠ some q → W'.heap[q]? = W.heap[q]? := fun q hq hne => hg.block q hq (fun e => hne e.symm)
  refine ⟨(hblk b2 h.lt (fun e => by have := (own_base h.use e).1; omega)).trans h.here, hown, own_same h.out (fun q e _ hq => hblk q hq (fun e2 => h.apart q e e2)), h.fresh, ?_, ?_, ?_⟩
  · intro q e e2
    obtain rfl : g = q := by simpa [Value.ownBlock] using e2
    rcases hat with hat | rfl
    · exact h.apart g e hat
    · have := (own_base h.out e).2
      omega
  · intro q e
    obtain rfl : g = q := by simpa [Value.ownBlock] using e
    rcases hat with hat | rfl
    · exact h.old g hat
    · exact .inr h.mv.size
  · refine ⟨hg.os.trans h.mv.os, hg.tape.trans h.mv.tape, hg.output.trans h.mv.output, Nat.le_trans h.mv.size hg.size, fun q hq h1 h2 => ?_⟩
    rw [hblk q (Nat.lt_of_lt_of_le hq h.mv.size) (fun e => by rcases h.old q e with h3 | h3 <;> first | exact h2 h3 | omega)]
    exact h.mv.block q hq h1 h2

theorem TQ.setUse (h : TQ b2 J z v0 u W0 vo k v n vc hc W) (x : Value) : TQ b2 J z v0 u W0 vo k v n x hc (W.setCell ⟨b2, 1, none⟩ x) := by
  have hb : ∀ q, q ≠ b2 → (W.setCell ⟨b2, 1, none⟩ x).heap[q]? = W.heap[q]? := fun q hq => heap_setCell_other _ _ _ _ hq
  exact ⟨heap_setCell_same W b2 1 _ 45 x h.here, own_same h.use (fun q _ h2 _ => hb q (by omega)), own_same h.out (fun q _ h2 _ => hb q (by omega)), h.fresh, h.apart, h.old,
    ⟨h.mv.os, h.mv.tape, h.mv.output, by have := h.mv.size; simpa [World.setCell] using this, fun q hq h1 h2 => (hb q h1).trans (h.mv.block q hq h1 h2)⟩⟩
theorem TQ.setHead (h : TQ b2 J z v0 u W0 vo k v n vc hc W) (y : Nat) (x : Int) (hx : x = y) : TQ b2 J z v0 u W0 vo k v n vc y (W.setCell ⟨b2, 2, none⟩ (.int .i64 x)) := by
  subst hx
  have hb : ∀ q, q ≠ b2 → (W.setCell ⟨b2, 2, none⟩ (.int .i64 y)).heap[q]? = W.heap[q]? := fun q hq => heap_setCell_other _ _ _ _ hq
  exact ⟨heap_setCell_same W b2 2 _ 45 _ h.here, own_same h.use (fun q _ h2 _ => hb q (by omega)), own_same h.out (fun q _ h2 _ => hb q (by omega)), h.fresh, h.apart, h.old,
    ⟨h.mv.os, h.mv.tape, h.mv.output, by have := h.mv.size; simpa [World.setCell] using this, fun q hq h1 h2 => (hb q h1).trans (h.mv.block q hq h1 h2)⟩⟩
end

set_option maxHeartbeats 400000 in
theorem rtake_low (b2 : Nat) (x : Int) (w : World) (hx : x < 1) :
    Calls Try.prog 17 #[.pointer (some ⟨b2, 0, none⟩), .int .i64 x] w fun e w' => e = .returned (.tuple #[.slice none 0 0, .int .i64 2]) ∧ ∃ k, w' = w.drewN k := by
  go_enter Try.func17, Try.ntmps17
  go_wp2
  go_ret2
  exact ⟨rfl, 0, rfl⟩

set_option maxHeartbeats 400000 in
theorem rtake_much (b2 J : Nat) (v : Value) (n H : Nat) (z : Nat → Nat) (x : Int) (w : World) (h : IsRef b2 J v n H z w) (hx : (J : Int) - 1 - n < x) :
    Calls Try.prog 17 #[.pointer (some ⟨b2, 0, none⟩), .int .i64 x] w fun e w' => e = .returned (.tuple #[.slice none 0 0, .int .i64 120]) ∧ ∃ k, w' = w.drewN k := by
  have hnm := h.nm
  have HR := Lib.hid h
  clear h
  have h1 : 1 ≤ x := by omega
  go_enter Try.func17, Try.ntmps17
  go_wp2_with (go_at_call 20; refine (rfree_any b2 J v n H z _ HR.out).mono ?_; rintro e w2 ⟨rfl, k, rfl⟩)
  go_ret2
  exact ⟨rfl, _, rfl⟩

/-- What Take answers where there is room. -/
def RTake (b2 J : Nat) (v : Value) (n : Nat) (z : Nat → Nat) (m : Nat) (w : World) (e : Ending) (w' : World) : Prop :=
  ∃ g cap v', e = .returned (.tuple #[.slice (some ⟨g, 0, none⟩) m cap, .int .i64 0]) ∧ TQ b2 J z v n w (.slice (some ⟨g, 0, none⟩) m cap) m v' (n + m) v' (z (n + m)) w'

set_option maxRecDepth 100000 in
set_option maxHeartbeats 4000000 in
theorem rtake_does (b2 J : Nat) (v : Value) (n : Nat) (z : Nat → Nat) (m : Nat) (w : World) (h : IsRef b2 J v n (z n) z w) (hm1 : 1 ≤ m) (hm2 : m ≤ J - 1 - n)
    (hz : ∀ i, 1 ≤ z i ∧ z i < J ∧ (z i + 1 = J → z (i + 1) = 1) ∧ (z i + 1 ≠ J → z (i + 1) = z i + 1)) :
    Calls Try.prog 17 #[.pointer (some ⟨b2, 0, none⟩), .int .i64 m] w (RTake b2 J v n z m w) := by
  have hnm := h.nm
  have hjm := h.jm
  have HR := Lib.hid h
  have HZ := Lib.hid hz
  clear hz h
  obtain ⟨i0, hi0, hz0, hz1, hz2⟩ := info_parts Try.info3
  have d1 : decide ((m : Int) < 1) = false := by simp; omega
  have d2 : decide ((J : Int) - 1 - n < (m : Int)) = false := by simp; omega
  go_enter Try.func17, Try.ntmps17
  go_wp2_with (go_at_call 20; refine (rfree_any b2 J v n (z n) z _ HR.out).mono ?_; rintro e w2 ⟨rfl, k0, rfl⟩)
  go_loopw [6, 7] (fun s y wr => ∃ (k : Nat) (vo v' : Value), k ≤ m ∧ y = .int .i64 k ∧ s = vo ∧ TQ b2 J z v n w vo k v' (n + k) v' (z (n + k)) wr) (fun _ y _ => m - (intOf y).toNat)
  case atStart =>
    refine ⟨0, .slice none 0 0, v, Nat.zero_le _, rfl, rfl, ?_⟩
    exact TQ.drewN ⟨HR.out.here, HR.out.own, ⟨rfl, .inl ⟨rfl, rfl⟩⟩, (fun g e => by cases e), (fun g e => by cases e), (fun g e => .inl e), RMv.refl _ _ _⟩ k0
  case round =>
    obtain ⟨k, vo, v', hk, rfl, hs, hT⟩ := hrel
    obtain rfl := hs.symm
    have HT := Lib.hid hT
    clear hT
    by_cases hkm : k < m
    · obtain ⟨y1, y2, y3, y4⟩ := HZ.out (n + k)
      have HY3 := Lib.hid y3
      have HY4 := Lib.hid y4
      clear y3 y4
      have c2 := HT.out.c2
      have HGO := Lib.hid (fun (W : World) (hT : TQ b2 J z v n w vo k v' (n + k) v' (z (n + k)) W) g cap W' h1 h2 h3 => hT.growOut (g := g) (cap := cap) (W' := W') h1 h2 h3)
      have HGU := Lib.hid (fun (W : World) (vo' : Value) (hT : TQ b2 J z v n w vo' (k + 1) v' (n + k) v' (z (n + k)) W) g cap W' h1 h2 h3 => hT.growUse (g := g) (cap := cap) (W' := W') h1 h2 h3)
      have hbs := HT.out.lt
      have hl3 : (k : Int) < (m : Int) := by omega
      generalize hy : z (n + k) = y at *
      have HYE := Lib.hid hy
      clear hy
      have HT1 := Lib.hid (HT.out.alloc (.cells #[.int .i64 y] 3))
      go_wp2_with (at_builtin; refine wpList_append_lies _ rfl (.tmp 19) (.tmp 24) 28 rfl (b2 + 1) 3 i0 _ 1 8 Try.underlying28 hi0 hz0 hz1 hz2 rfl (by omega) vo k (nr k fun j => z (n + j)) rfl HT1.out.out ⟨wr.heap.size, 0, none⟩ 1 1 [.int .i64 y] rfl rfl (World.news_of_block (cs := #[.int .i64 y]) (t := 3) (fr := (0, 0)) (heap_alloc_new wr _)) (by simp [Value.oneCell']) (by omega) (by simp [maxLen]; omega) (by omega) (by simp; omega) (wr.heap.size + 1) (by simp) ?_; intro g cap W1 hown hgrow hat hlt)
      have HT2 := Lib.hid (HGO.out _ HT1.out g cap W1 hown hgrow (by simpa using hat))
      clear hown hgrow hat hlt HT HT1 HGO c2
      obtain ⟨vo', hvo'⟩ : ∃ vo', vo' = Value.slice (some ⟨g, 0, none⟩) (k + 1) cap := ⟨_, rfl⟩
      rw [← hvo'] at HT2 ⊢
      have HVO := Lib.hid hvo'
      clear hvo'
      go_wp2_with fail
      refine wp_region_held (S := fun W' => W'.cell? ⟨b2, 2, none⟩ = some (.int .i64 y)) (by kernel_rfl) ?_
      have HT4 := Lib.hid HT2.out.drew
      obtain ⟨W4, hW4⟩ : ∃ W4 : World, W4 = { W1 with drawn := W1.drawn + 1 } := ⟨_, rfl⟩
      rw [← hW4] at HT4 ⊢
      clear hW4 HT2
      refine wpAnyH_take (i := 0) (v := .pointer (some ⟨b2, 0, none⟩)) rfl (by kernel_rfl) (by kernel_rfl) (by kernel_rfl) (fun _ _ _ h => h) (.inl ⟨rfl, fun W' hS => by go_simp⟩) HT4.out.c2 ?_
      refine wpAnyH_take (i := 1) (v := .pointer (some ⟨b2, 0, none⟩)) rfl (by kernel_rfl) (by kernel_rfl) (by kernel_rfl) (fun _ _ _ h => h) (.inl ⟨rfl, fun W' hS => by go_simp⟩) HT4.out.c2 ?_
      refine wpAnyH_take (i := 2) (v := .pointer (some ⟨b2, 0, none⟩)) rfl (by kernel_rfl) (by kernel_rfl) (by kernel_rfl) (fun _ _ _ h => h) (.inl ⟨rfl, fun W' hS => by go_simp⟩) HT4.out.c2 ?_
      refine wpAnyH_take (i := 3) (v := .pointer (some ⟨b2, 1, none⟩)) rfl (by kernel_rfl) (by kernel_rfl) (by kernel_rfl) (fun _ _ _ h => h) (.inl ⟨rfl, fun W' hS => by go_simp⟩) HT4.out.c2 ?_
      refine wpAnyH_take (i := 5) (v := .pointer (some ⟨b2, 0, none⟩)) rfl (by kernel_rfl) (by kernel_rfl) (by kernel_rfl) (fun _ _ _ h => h) (.inl ⟨rfl, fun W' hS => by go_simp⟩) HT4.out.c2 ?_
      refine wpAnyH_take (i := 6) (v := .pointer (some ⟨b2, 0, none⟩)) rfl (by kernel_rfl) (by kernel_rfl) (by kernel_rfl) (fun _ _ _ h => h) (.inl ⟨rfl, fun W' hS => by go_simp⟩) HT4.out.c2 ?_
      refine wpAnyH_take (i := 7) (v := .pointer (some ⟨b2, 2, none⟩)) rfl (by kernel_rfl) (by kernel_rfl) (by kernel_rfl) (fun _ _ _ h => h) (.inl ⟨rfl, fun W' hS => by go_simp⟩) HT4.out.c2 ?_
      refine wpAnyH_take (i := 8) (v := .int .i64 y) rfl (by kernel_rfl) (by kernel_rfl) (by kernel_rfl) (fun _ _ _ h => h) (.inl ⟨rfl, fun W' hS => by have hc := hS; go_simp⟩) HT4.out.c2 ?_
      refine wpAnyH_all (rs := [4, 9]) (by kernel_rfl) (by simp) ?_
      intro j hj
      simp only [List.mem_cons, List.not_mem_nil, or_false] at hj
      rcases hj with rfl | rfl
      · refine wpOp_step rfl fun K' hK' => ?_
        have hcv := HT4.out.c1
        go_simp
        refine hK' _ _ ⟨HT4.out.c2, ?_⟩
        clear hK' hcv
        refine wpAnyH_all (rs := [9]) (by kernel_rfl) (by simp) ?_
        intro j hj
        obtain rfl : j = 9 := by simpa using hj
        refine wpOp_step rfl fun K' hK' => ?_
        go_simp
        have HT5 := Lib.hid (HT4.out.alloc (.cells #[.int .i64 y] 3))
        refine hK' _ _ ⟨HT5.out.c2, ?_⟩
        clear hK'
        refine wpAnyH_all (rs := [10]) (by kernel_rfl) (by simp) ?_
        intro j hj
        obtain rfl : j = 10 := by simpa using hj
        refine wpOp_step rfl fun K' hK' => ?_
        refine step_append_lies _ (by rfl) _ _ _ (by rfl) (b2 + 1) 3 i0 _ 1 8 Try.underlying28 hi0 hz0 hz1 hz2 rfl (by omega) v' (n + k) (nr (n + k) z) (by rfl) HT5.out.use ⟨W4.heap.size, 0, none⟩ 1 1 [.int .i64 y] (by rfl) (by rfl) (World.news_of_block (cs := #[.int .i64 y]) (t := 3) (fr := (0, 0)) (heap_alloc_new W4 _)) (by simp [Value.oneCell']) (by omega) (by simp [maxLen]; omega) (by omega) (by have := HT4.out.lt; simp; omega) (W4.heap.size + 1) (by simp) ?_
        intro g2 cap2 W6 hown hgrow hat hlt
        have HT6 := Lib.hid (HGU.out _ vo' HT5.out g2 cap2 W6 hown hgrow (by simpa using hat))
        clear hown hgrow hat hlt HT4 HT5 HGU
        refine hK' _ _ ⟨HT6.out.c2, ?_⟩
        clear hK'
        refine wpAnyH_take (i := 11) (v := .pointer (some ⟨b2, 0, none⟩)) rfl (by kernel_rfl) (by kernel_rfl) (by kernel_rfl) (fun _ _ _ h => h) (.inl ⟨rfl, fun W' hS => by go_simp⟩) HT6.out.c2 ?_
        refine wpAnyH_take (i := 12) (v := .pointer (some ⟨b2, 1, none⟩)) rfl (by kernel_rfl) (by kernel_rfl) (by kernel_rfl) (fun _ _ _ h => h) (.inl ⟨rfl, fun W' hS => by go_simp⟩) HT6.out.c2 ?_
        refine wpAnyH_all (rs := [13]) (by kernel_rfl) (by simp) ?_
        intro j hj
        obtain rfl : j = 13 := by simpa using hj
        refine wpOp_step rfl fun K' hK' => ?_
        have hc7 := HT6.out.c1
        have hz7 := HT6.out.fz 1
        go_simp
        obtain ⟨V, hVe⟩ : ∃ V, V = Value.slice (some ⟨g2, 0, none⟩) (n + k + 1) cap2 := ⟨_, rfl⟩
        rw [← hVe] at HT6 ⊢
        have HT8 := Lib.hid (HT6.out.setUse V)
        refine hK' _ _ ⟨HT8.out.c2, ?_⟩
        clear hK' hc7 hz7 HT6 hVe
        obtain ⟨W8, hW8⟩ : ∃ W8, W8 = W6.setCell ⟨b2, 1, none⟩ V := ⟨_, rfl⟩
        rw [← hW8] at HT8 ⊢
        clear hW8
        refine wpAnyH_done (by kernel_rfl) ?_ _
        go_simp
        have c8 := HT8.out.c2
        have z8 := HT8.out.fz 2
        go_wp2_with fail
        have HT9 := Lib.hid (HT8.out.setHead (y + 1) ((y : Int) + 1) (by omega))
        obtain ⟨W9, hW9⟩ : ∃ W9, W9 = W8.setCell ⟨b2, 2, none⟩ (.int .i64 ((y : Int) + 1)) := ⟨_, rfl⟩
        rw [← hW9] at HT9 ⊢
        clear hW9 c8 z8 HT8
        have c9 := HT9.out.c2
        have z9 := HT9.out.fz 2
        have j9 := HT9.out.c0
        have ec : ((y + 1 : Nat) : Int) = (y : Int) + 1 := by omega
        rw [ec] at c9
        clear ec
        by_cases he : y + 1 = J
        · have heb : ((y : Int) + 1 == (J : Int)) = true := by simp; omega
          have HTA := Lib.hid (fun q => (HT9.out.drewN q).setHead (z (n + k + 1)) 1 (by rw [HY3.out he]; rfl))
          clear HT9 he
          go_quiet (fail)
          go_wp2
          go_roundw
          case rel => exact ⟨k + 1, vo', V, by omega, by go_num, rfl, HTA.out nq⟩
          case measure => simp [intOf]; omega
        · have heb : ((y : Int) + 1 == (J : Int)) = false := by simp; omega
          have HTA := Lib.hid (fun q => HT9.out.drewN q)
          have HNX := Lib.hid (HY4.out he)
          clear HT9 he
          go_quiet (fail)
          go_wp2
          go_roundw
          case rel => exact ⟨k + 1, vo', V, by omega, by go_num, rfl, by have := HTA.out nq; rw [← HNX.out] at this; exact this⟩
          case measure => simp [intOf]; omega
      · refine wpOp_step rfl fun K' hK' => ?_
        go_simp
        have HT5 := Lib.hid (HT4.out.alloc (.cells #[.int .i64 y] 3))
        refine hK' _ _ ⟨HT5.out.c2, ?_⟩
        clear hK'
        refine wpAnyH_all (rs := [4]) (by kernel_rfl) (by simp) ?_
        intro j hj
        obtain rfl : j = 4 := by simpa using hj
        refine wpOp_step rfl fun K' hK' => ?_
        have hcv := HT5.out.c1
        go_simp
        refine hK' _ _ ⟨HT5.out.c2, ?_⟩
        clear hK' hcv
        refine wpAnyH_all (rs := [10]) (by kernel_rfl) (by simp) ?_
        intro j hj
        obtain rfl : j = 10 := by simpa using hj
        refine wpOp_step rfl fun K' hK' => ?_
        refine step_append_lies _ (by rfl) _ _ _ (by rfl) (b2 + 1) 3 i0 _ 1 8 Try.underlying28 hi0 hz0 hz1 hz2 rfl (by omega) v' (n + k) (nr (n + k) z) (by rfl) HT5.out.use ⟨W4.heap.size, 0, none⟩ 1 1 [.int .i64 y] (by rfl) (by rfl) (World.news_of_block (cs := #[.int .i64 y]) (t := 3) (fr := (0, 0)) (heap_alloc_new W4 _)) (by simp [Value.oneCell']) (by omega) (by simp [maxLen]; omega) (by omega) (by have := HT4.out.lt; simp; omega) (W4.heap.size + 1) (by simp) ?_
        intro g2 cap2 W6 hown hgrow hat hlt
        have HT6 := Lib.hid (HGU.out _ vo' HT5.out g2 cap2 W6 hown hgrow (by simpa using hat))
        clear hown hgrow hat hlt HT4 HT5 HGU
        refine hK' _ _ ⟨HT6.out.c2, ?_⟩
        clear hK'
        refine wpAnyH_take (i := 11) (v := .pointer (some ⟨b2, 0, none⟩)) rfl (by kernel_rfl) (by kernel_rfl) (by kernel_rfl) (fun _ _ _ h => h) (.inl ⟨rfl, fun W' hS => by go_simp⟩) HT6.out.c2 ?_
        refine wpAnyH_take (i := 12) (v := .pointer (some ⟨b2, 1, none⟩)) rfl (by kernel_rfl) (by kernel_rfl) (by kernel_rfl) (fun _ _ _ h => h) (.inl ⟨rfl, fun W' hS => by go_simp⟩) HT6.out.c2 ?_
        refine wpAnyH_all (rs := [13]) (by kernel_rfl) (by simp) ?_
        intro j hj
        obtain rfl : j = 13 := by simpa using hj
        refine wpOp_step rfl fun K' hK' => ?_
        have hc7 := HT6.out.c1
        have hz7 := HT6.out.fz 1
        go_simp
        obtain ⟨V, hVe⟩ : ∃ V, V = Value.slice (some ⟨g2, 0, none⟩) (n + k + 1) cap2 := ⟨_, rfl⟩
        rw [← hVe] at HT6 ⊢
        have HT8 := Lib.hid (HT6.out.setUse V)
        refine hK' _ _ ⟨HT8.out.c2, ?_⟩
        clear hK' hc7 hz7 HT6 hVe
        obtain ⟨W8, hW8⟩ : ∃ W8, W8 = W6.setCell ⟨b2, 1, none⟩ V := ⟨_, rfl⟩
        rw [← hW8] at HT8 ⊢
        clear hW8
        refine wpAnyH_done (by kernel_rfl) ?_ _
        go_simp
        have c8 := HT8.out.c2
        have z8 := HT8.out.fz 2
        go_wp2_with fail
        have HT9 := Lib.hid (HT8.out.setHead (y + 1) ((y : Int) + 1) (by omega))
        obtain ⟨W9, hW9⟩ : ∃ W9, W9 = W8.setCell ⟨b2, 2, none⟩ (.int .i64 ((y : Int) + 1)) := ⟨_, rfl⟩
        rw [← hW9] at HT9 ⊢
        clear hW9 c8 z8 HT8
        have c9 := HT9.out.c2
        have z9 := HT9.out.fz 2
        have j9 := HT9.out.c0
        have ec : ((y + 1 : Nat) : Int) = (y : Int) + 1 := by omega
        rw [ec] at c9
        clear ec
        by_cases he : y + 1 = J
        · have heb : ((y : Int) + 1 == (J : Int)) = true := by simp; omega
          have HTA := Lib.hid (fun q => (HT9.out.drewN q).setHead (z (n + k + 1)) 1 (by rw [HY3.out he]; rfl))
          clear HT9 he
          go_quiet (fail)
          go_wp2
          go_roundw
          case rel => exact ⟨k + 1, vo', V, by omega, by go_num, rfl, HTA.out nq⟩
          case measure => simp [intOf]; omega
        · have heb : ((y : Int) + 1 == (J : Int)) = false := by simp; omega
          have HTA := Lib.hid (fun q => HT9.out.drewN q)
          have HNX := Lib.hid (HY4.out he)
          clear HT9 he
          go_quiet (fail)
          go_wp2
          go_roundw
          case rel => exact ⟨k + 1, vo', V, by omega, by go_num, rfl, by have := HTA.out nq; rw [← HNX.out] at this; exact this⟩
          case measure => simp [intOf]; omega
    · obtain rfl : k = m := by omega
      obtain ⟨g, cap, hvo, _, _⟩ := HT.out.out.form (by omega)
      rw [hvo] at HT ⊢
      clear hvo
      go_wp2
      go_ret2
      exact ⟨g, cap, v', rfl, HT.out⟩
end Go.Proofs.Ytlccgphblbdjkaa
