/-
  A drawn region in the body of a loop over an iterator (a round's fence), walked in one order.
-/
import Derived.Test.YtieffhkfefimeaaGreatDoorSeqA
import Derived.RangeFuncNested
import Derived.RangeFuncBound
import Derived.RangeFuncCalls
import Derived.OwnWalkIn
import Derived.OrdersIn
namespace Go.Proofs.YtieffhkfefimeaaGreatDoor
open Go.RowKit
set_option linter.unusedVariables false

section
variable {P : Program} {ops : Array Oper} {Q : Exit → Act → World → Prop} {S : World → Prop} {md : Region.Mode}
theorem rowsIn_round {l n : Nat} {row : String} {args : Array Value} {w : World} {R : Value → World → Prop} (h : Rows P row args w R) : RowsIn (Fence.wide.inRound l) n P row args w R :=
  fun c cs _ => let ⟨v, w', r, s⟩ := h c cs; ⟨v, w', r, stepsIn_wide.2 s⟩
theorem callsIn_round {l n : Nat} {f : FuncId} {args : Array Value} {w : World} {R : Ending → World → Prop} (h : Calls P f args w R) : CallsIn (Fence.wide.inRound l) n P f args w R :=
  callsIn_wide.2 h
theorem wpIn_of_wp {l : Nat} {o : Oper} {a : Act} {w : World} {K K' : Act → World → Prop} (hnd : ∀ c, o.op ≠ .defer c) (h : ∀ a w, K a w → K' a w) (hh : Oper.wp P o a w K Q) : Oper.wpIn (Fence.wide.inRound l) 0 P o a w K' Q := by
  unfold Oper.wp at hh
  refine ⟨fun f _ => trivial, ?_⟩
  rw [Oper.semAt_plain _ _ _ hnd]
  generalize (execOp a.eval o).run P w = r at *
  cases r with
  | ok x w' =>
    cases x <;> simp only [Oper.upon, Oper.uponIn] at hh ⊢ <;>
      first
        | exact h _ _ hh
        | exact ⟨fun h9 => by simp [Fence.wide] at h9, callsIn_round (Calls.mono hh (fun e w'' he => by cases e <;> first | exact h _ _ he | exact he))⟩
        | exact ⟨fun h9 => by simp [Fence.wide] at h9, rowsIn_round (Rows.mono hh (fun _ _ he => h _ _ he))⟩
        | exact hh.elim
  | halt x w' => cases x <;> simp only [Oper.upon, Oper.uponIn] at hh ⊢ <;> exact hh
def noDefers (ops : Array Oper) : Bool := ops.toList.all fun o => match o.op with | .defer _ => false | _ => true
theorem wpOpIn_of_wpOp {l i : Nat} {a : Act} {w : World} {K K' : Act → World → Prop} (hnd : noDefers ops = true) (hlo : ¬ LetsOut Q) (h : ∀ a w, K a w → K' a w) (hh : wpOp P ops Q i K a w) : wpOpIn (Fence.wide.inRound l) 0 P ops Q i K' a w := by
  unfold wpOp at hh
  unfold wpOpIn
  split
  · exact h _ _ (by simpa [*] using hh)
  · rename_i o ho
    simp only [ho] at hh
    have hno : ∀ c, o.op ≠ .defer c := fun c e => by
      unfold noDefers at hnd
      have h1 := List.all_eq_true.1 hnd o (Array.mem_toList_iff.2 (Array.mem_of_getElem? ho))
      rw [e] at h1
      simp at h1
    split
    · rename_i hw
      simp only [hw, if_true] at hh
      rcases hh with hh | ⟨_, hh⟩
      · exact wpIn_of_wp hno h hh
      · exact (hlo hh).elim
    · rename_i hw
      simp only [hw] at hh
      exact ⟨fun f _ => trivial, h _ _ hh⟩
theorem wpAnyIn_of_wpAny {l : Nat} (hnd : noDefers ops = true) (hlo : ¬ LetsOut Q) : ∀ (fuel : Nat) (listed : Array Bool) (a : Act) (w : World), wpAny P md ops Q fuel listed a w → wpAnyIn (Fence.wide.inRound l) 0 P md ops Q fuel listed a w := by
  intro fuel
  induction fuel with
  | zero => intro listed a w h; exact h
  | succ fuel ih =>
    intro listed a w h
    exact ⟨h.1, fun i hi => wpOpIn_of_wpOp hnd hlo (fun a w h9 => ih _ a w h9) (h.2 i hi)⟩
/-- A drawn region in a round, in one order. -/
theorem wpIn_region_seq {l9 id : Nat} {a : Act} {w : World} (l : List (Bool × Nat)) (hnd : noDefers ops = true) (hlo : ¬ LetsOut Q) (hm : P.follows .mixedOrders = true) (hs : Region.noSelect ops = true) (hl : l.length = ops.size) (hlt : (l.all fun x => decide (x.2 < ops.size)) = true)
    (hk : seqOk ops l (Array.replicate ops.size false) = true) (hQ : ∀ d v c a w, Q (.panic c) (a.put d v) w → Q (.panic c) a w) (hS : S w.drew)
    (h : S w.drew → wpSeqH P ops Q S (pickOps ops l) a w.drew) : (Code.region id ops true).wpIn (Fence.wide.inRound l9) 0 P Q a w := by
  have h1 := wpAnyH_of_seq (P := P) (Q := Q) (S := S) hs hQ l _ _ _ hk hlt hS (h hS)
  rw [hl] at h1
  exact wpIn_region_any hm (wpAnyIn_of_wpAny hnd hlo _ _ _ _ (wpAny_of_held _ _ _ _ h1))
end
end Go.Proofs.YtieffhkfefimeaaGreatDoor
