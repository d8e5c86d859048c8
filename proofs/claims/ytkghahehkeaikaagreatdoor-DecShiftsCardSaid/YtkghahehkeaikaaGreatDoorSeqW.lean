/-
  A region that draws its order, of which two operations are ready at first: it is walked twice, each of the two first once; behind them one order (SeqA's).
-/
import Derived.Test.YtkghahehkeaikaaGreatDoorSeqA
namespace Go.Proofs.YtkghahehkeaikaaGreatDoor
open Go.RowKit
set_option linter.unusedVariables false
section
variable {P : Program} {ops : Array Oper} {Q : Exit → Act → World → Prop} {S : World → Prop}
theorem wp_region_two {id : Nat} {a : Act} {w : World} (i j : Nat) (l1 l2 : List (Bool × Nat)) (hm : P.follows .mixedOrders = true) (hs : Region.noSelect ops = true) (hl1 : l1.length + 1 = ops.size) (hl2 : l2.length + 1 = ops.size)
    (hi0 : decide (i < ops.size) = true) (hj0 : decide (j < ops.size) = true) (hlt1 : (l1.all fun x => decide (x.2 < ops.size)) = true) (hlt2 : (l2.all fun x => decide (x.2 < ops.size)) = true) (hr : (Region.ready .any ops (Array.replicate ops.size false) == [i, j]) = true)
    (hk1 : seqOk ops l1 ((Array.replicate ops.size false).setIfInBounds i true) = true) (hk2 : seqOk ops l2 ((Array.replicate ops.size false).setIfInBounds j true) = true) (hQ : ∀ d v c a w, Q (.panic c) (a.put d v) w → Q (.panic c) a w) (hS : S w.drew)
    (h1 : wpSeqH P ops Q S (pickOps ops ((false, i) :: l1)) a w.drew) (h2 : wpSeqH P ops Q S (pickOps ops ((false, j) :: l2)) a w.drew) : (Code.region id ops true).wp P Q a w := by
  have hi : i < ops.size := of_decide_eq_true hi0
  have hj : j < ops.size := of_decide_eq_true hj0
  refine wp_region_held_drew hm hS fun hS' => ?_
  have ei : ops[i]? = some ops[i] := Array.getElem?_eq_getElem hi
  have ej : ops[j]? = some ops[j] := Array.getElem?_eq_getElem hj
  simp only [pickOps, ei] at h1
  simp only [pickOps, ej] at h2
  have hr' : Region.ready .any ops (Array.replicate ops.size false) = [i, j] := by simpa using hr
  obtain ⟨n, hn⟩ : ∃ n, ops.size = n + 1 := ⟨l1.length, hl1.symm⟩
  have e1 : l1.length = n := by omega
  have e2 : l2.length = n := by omega
  rw [hn]
  rw [hn] at hr'
  refine wpAnyH_ready (by rw [hn] at *; exact hr') (by simp) (AllReadyH.cons ei (fun K hK => ?_) (AllReadyH.cons ej (fun K hK => ?_) AllReadyH.nil))
  · exact h1 K (fun a' w' hS' hw => hK.out a' w' hS' fun hS'' => by
      have := wpAnyH_of_seq hs hQ l1 _ _ _ hk1 hlt1 hS'' (hw hS'')
      rw [e1] at this
      simpa [hn] using this)
  · exact h2 K (fun a' w' hS' hw => hK.out a' w' hS' fun hS'' => by
      have := wpAnyH_of_seq hs hQ l2 _ _ _ hk2 hlt2 hS'' (hw hS'')
      rw [e2] at this
      simpa [hn] using this)
end
end Go.Proofs.YtkghahehkeaikaaGreatDoor
