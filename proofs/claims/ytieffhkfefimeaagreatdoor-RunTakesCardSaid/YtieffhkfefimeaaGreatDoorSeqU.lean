/-
  A region whose last two operations wait for all others, one behind the other (a store, and what is assigned behind it).
-/
import Derived.Test.YtieffhkfefimeaaGreatDoorSeqT
namespace Go.Proofs.YtieffhkfefimeaaGreatDoor
open Go.RowKit
set_option linter.unusedVariables false
section
variable {P : Program} {ops : Array Oper} {Q : Exit → Act → World → Prop} {S : World → Prop}
theorem rep_pop (n : Nat) : (Array.replicate n false).pop = Array.replicate (n - 1) false := by
  apply Array.ext_getElem?
  intro j
  simp only [Array.getElem?_pop, Array.getElem?_replicate, Array.size_replicate]
  split
  · rw [if_pos (by omega)]
  · rfl
theorem rep_init (n : Nat) (hn : 0 < n) : (Array.replicate n false).getD (n - 1) true = false := by
  rw [Array.getD_eq_getD_getElem?, Array.getElem?_replicate, if_pos (by omega)]; rfl
theorem rep_shut (n : Nat) : Shut2 ops (Array.replicate n false) := fun j o _ hl9 => by
  rw [Array.getD_eq_getD_getElem?, Array.getElem?_replicate] at hl9
  split at hl9 <;> cases hl9
theorem wp_region_seqT2 {id : Nat} {a : Act} {w : World} (l : List (Bool × Nat)) (hm : P.follows .mixedOrders = true) (hk : tailOk ops = true) (hk' : tailOk ops.pop = true) (hs : Region.noSelect ops.pop.pop = true) (hl : l.length + 2 = ops.size) (hlt : (l.all fun x => decide (x.2 < ops.pop.pop.size)) = true)
    (hk2 : seqOk ops.pop.pop l (Array.replicate (ops.size - 2) false) = true) (hQ : ∀ d v c a w, Q (.panic c) (a.put d v) w → Q (.panic c) a w) (hS : S w.drew)
    (h : S w.drew → wpSeqH P ops.pop.pop (TailQ P ops.pop (TailQ P ops Q)) S (pickOps ops l) a w.drew) : (Code.region id ops true).wp P Q a w := by
  have T := tailOk_spec hk
  have T' := tailOk_spec hk'
  refine wp_region_any hm ?_
  have e1 : pickOps ops.pop.pop l = pickOps ops l := by
    rw [pickOps_pop l hlt]
    refine pickOps_pop l (List.all_eq_true.2 fun x hx => ?_)
    have := List.all_eq_true.1 hlt x hx
    simp only [decide_eq_true_eq, Array.size_pop] at this ⊢
    omega
  have h1 := wpAnyH_of_seq (P := P) (Q := TailQ P ops.pop (TailQ P ops Q)) (S := S) hs (fun d v c a w => hQ d v c a w) l _ _ _ hk2 hlt hS (by rw [e1]; exact h hS)
  have h2 := wpAny_of_held _ _ _ _ h1
  have e2 : Array.replicate (ops.size - 2) false = (Array.replicate (ops.size - 1) false).pop := by rw [rep_pop]; rfl
  rw [e2] at h2
  have h3 := wpAny_of_init T' _ (Array.replicate (ops.size - 1) false) a w.drew (by simp) (by
    have := rep_init (ops.size - 1) (by have := T'.pos; simpa using this)
    simpa using this) (rep_shut _) h2
  rw [← rep_pop] at h3
  have h4 := wpAny_of_init T _ (Array.replicate ops.size false) a w.drew (by simp) (rep_init _ T.pos) (rep_shut _) h3
  rw [← hl]
  exact hl ▸ h4
end
end Go.Proofs.YtieffhkfefimeaaGreatDoor
