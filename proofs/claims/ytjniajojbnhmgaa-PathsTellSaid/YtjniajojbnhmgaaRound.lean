/-
  A region that draws its order, in a round of a range over a function: it may be walked as outside a round, if it holds no defer and does not panic.
  Conditions: the region holds no defer statement.
-/
import Derived.OrdersHeld
import Derived.OrdersIn
import Derived.RangeFuncCalls
namespace Go.Proofs.Ytjniajojbnhmgaa

/-- The post that asks a normal end. -/
def Norm (Q : Exit → Act → World → Prop) : Exit → Act → World → Prop := fun e a w => e = .normal ∧ Q e a w
theorem Norm.lets {Q : Exit → Act → World → Prop} : ¬ LetsOut (Norm Q) := fun ⟨_, _, h⟩ => by cases h.1
theorem Norm.blind {Q : Exit → Act → World → Prop} {P : Prop} {c : List PanicEntry} {a : Act} {w : World} (h : Norm Q (.panic c) a w) : P := by cases h.1

def noDefer (ops : Array Oper) : Bool := ops.all fun o => match o.op with | .defer _ => false | _ => true

section
variable {n l : Nat} {P : Program} {ops : Array Oper} {Q : Exit → Act → World → Prop}

theorem noDefer_spec (h : noDefer ops = true) {i : Nat} {o : Oper} (hi : ops[i]? = some o) : ∀ c, o.op ≠ .defer c := by
  intro c e
  unfold noDefer at h
  have hm : o ∈ ops := Array.mem_of_getElem? hi
  have := Array.all_eq_true'.1 h o hm
  rw [e] at this
  cases this

theorem rowsIn_of_rows {row : String} {args : Array Value} {w : World} {R : Value → World → Prop} (h : Rows P row args w R) : RowsIn (Fence.wide.inRound l) n P row args w R :=
  fun c cs _ => let ⟨v, w', r, s⟩ := h c cs; ⟨v, w', r, stepsIn_wide.2 s⟩

theorem operIn_of {o : Oper} (hd : ∀ c, o.op ≠ .defer c) {a : Act} {w : World} {K : Act → World → Prop} (h : o.wp P a w K (Norm Q)) : o.wpIn (Fence.wide.inRound l) n P a w K Q := by
  refine ⟨fun _ _ => trivial, ?_⟩
  rw [Oper.semAt_eq _ _ _ hd]
  unfold Oper.wp at h
  generalize (execOp a.eval o).run P w = r at *
  cases r with
  | ok x w' =>
    cases x <;> simp only [Oper.upon, Oper.uponIn] at h ⊢ <;> try exact h
    case enter f args =>
      refine ⟨fun h0 => by simp [Fence.inRound, Fence.wide] at h0, CallsIn.inRound l (callsIn_wide.2 (h.mono fun e w'' he => ?_))⟩
      cases e with
      | returned v => exact he
      | panicked c => exact Norm.blind he
      | outgrown => exact absurd he Norm.lets
    case row row args => exact ⟨fun h0 => by simp [Fence.inRound, Fence.wide] at h0, rowsIn_of_rows h⟩
  | halt x w' =>
    cases x <;> simp only [Oper.upon, Oper.uponIn] at h ⊢
    case panic u => exact Norm.blind h

theorem anyIn_of (hd : noDefer ops = true) {md : Region.Mode} : ∀ (fuel : Nat) (listed : Array Bool) (a : Act) (w : World), wpAny P md ops (Norm Q) fuel listed a w → wpAnyIn (Fence.wide.inRound l) n P md ops Q fuel listed a w
  | 0, _, _, _, h => ⟨h.1, h.2.2⟩
  | fuel + 1, listed, a, w, h => ⟨fun e => (h.1 e).2, fun i hi => by
      have h1 := h.2 i hi
      unfold wpOp at h1
      unfold wpOpIn
      split
      · rename_i ho
        rw [ho] at h1
        exact anyIn_of hd fuel _ _ _ h1
      · rename_i o ho
        rw [ho] at h1
        simp only at h1
        split
        · rename_i hw
          rw [if_pos hw] at h1
          rcases h1 with h1 | ⟨_, h1⟩
          · exact Oper.wpIn_mono (fun a' w' h' => anyIn_of hd fuel _ _ _ h') (operIn_of (noDefer_spec hd ho) h1)
          · exact absurd h1 Norm.lets
        · rename_i hw
          rw [if_neg hw] at h1
          exact ⟨fun _ _ => trivial, anyIn_of hd fuel _ _ _ h1⟩⟩

/-- A region that draws its order, in a round: under a condition S on the world. -/
theorem round_held {id : Nat} {a : Act} {w : World} (S : World → Prop) (hm : P.follows .mixedOrders = true) (hd : noDefer ops = true)
    (h : wpAnyH P .any ops (Norm Q) S ops.size (Array.replicate ops.size false) a { w with drawn := w.drawn + 1 }) : (Code.region id ops true).wpIn (Fence.wide.inRound l) n P Q a w :=
  wpIn_region_any hm (anyIn_of hd _ _ _ _ (wpAny_of_held _ _ _ _ h))
end
end Go.Proofs.Ytjniajojbnhmgaa
