/-
  A region in a round whose last operation, or whose last two, wait for all others: walked without them, and they behind.
-/
import Derived.Test.YtjcldnkgidfifaaSeqI
import Derived.Test.YtjcldnkgidfifaaSeqT
namespace Go.Proofs.Ytjcldnkgidfifaa
open Go.RowKit
set_option linter.unusedVariables false
section
variable {P : Program} {ops : Array Oper} {Q : Exit → Act → World → Prop} {S : World → Prop}
theorem pop_replicate (n : Nat) : (Array.replicate n false).pop = Array.replicate (n - 1) false := by
  apply Array.ext_getElem?
  intro j
  simp only [Array.getElem?_pop, Array.getElem?_replicate, Array.size_replicate]
  split
  · rw [if_pos (by omega)]
  · rfl
theorem wpAny_tail (hk : tailOk ops = true) {fuel : Nat} {a : Act} {w : World} (h : wpAny P .any ops.pop (TailQ P ops Q) fuel (Array.replicate (ops.size - 1) false) a w) : wpAny P .any ops Q (fuel + 1) (Array.replicate ops.size false) a w := by
  have T := tailOk_spec hk
  rw [← pop_replicate] at h
  exact wpAny_of_init T _ (Array.replicate ops.size false) a w (by simp) (by
    have := T.pos
    rw [Array.getD_eq_getD_getElem?, Array.getElem?_replicate, if_pos (by omega)]; rfl) (fun j o _ hl9 => by
    rw [Array.getD_eq_getD_getElem?, Array.getElem?_replicate] at hl9
    split at hl9 <;> cases hl9) h
theorem wpIn_region_seqT {l9 id : Nat} {a : Act} {w : World} (l : List (Bool × Nat)) (hnd : noDefers ops = true) (hlo : ¬ LetsOut Q) (hm : P.follows .mixedOrders = true) (hk : tailOk ops = true) (hs : Region.noSelect ops.pop = true) (hl : l.length + 1 = ops.size) (hlt : (l.all fun x => decide (x.2 < ops.pop.size)) = true)
    (hk2 : seqOk ops.pop l (Array.replicate (ops.size - 1) false) = true) (hQ : ∀ d v c a w, Q (.panic c) (a.put d v) w → Q (.panic c) a w) (hS : S w.drew)
    (h : S w.drew → wpSeqH P ops.pop (TailQ P ops Q) S (pickOps ops l) a w.drew) : (Code.region id ops true).wpIn (Fence.wide.inRound l9) 0 P Q a w := by
  have h1 := wpAnyH_of_seq (P := P) (Q := TailQ P ops Q) (S := S) hs (fun d v c a w => hQ d v c a w) l _ _ _ hk2 hlt hS (by rw [pickOps_pop l hlt]; exact h hS)
  have h3 := wpAny_tail hk (wpAny_of_held _ _ _ _ h1)
  rw [hl] at h3
  exact wpIn_region_any hm (wpAnyIn_of_wpAny hnd hlo _ _ _ _ h3)
theorem wpIn_region_seqT2 {l9 id : Nat} {a : Act} {w : World} (l : List (Bool × Nat)) (hnd : noDefers ops = true) (hlo : ¬ LetsOut Q) (hm : P.follows .mixedOrders = true) (hk : tailOk ops = true) (hk' : tailOk ops.pop = true) (hs : Region.noSelect ops.pop.pop = true) (hl : l.length + 2 = ops.size) (hlt : (l.all fun x => decide (x.2 < ops.pop.pop.size)) = true)
    (hk2 : seqOk ops.pop.pop l (Array.replicate (ops.size - 2) false) = true) (hQ : ∀ d v c a w, Q (.panic c) (a.put d v) w → Q (.panic c) a w) (hS : S w.drew)
    (h : S w.drew → wpSeqH P ops.pop.pop (TailQ P ops.pop (TailQ P ops Q)) S (pickOps ops l) a w.drew) : (Code.region id ops true).wpIn (Fence.wide.inRound l9) 0 P Q a w := by
  have hlt2 : (l.all fun x => decide (x.2 < ops.pop.size)) = true := by
    rw [List.all_eq_true] at hlt ⊢
    intro x hx
    have := hlt x hx
    simp only [decide_eq_true_eq, Array.size_pop] at this ⊢
    omega
  have e : pickOps ops.pop.pop l = pickOps ops l := (pickOps_pop (ops := ops.pop) l hlt).trans (pickOps_pop l hlt2)
  have h1 := wpAnyH_of_seq (P := P) (Q := TailQ P ops.pop (TailQ P ops Q)) (S := S) hs (fun d v c a w => hQ d v c a w) l _ _ _ hk2 hlt hS (by rw [e]; exact h hS)
  have h2 := wpAny_tail hk' (Q := TailQ P ops Q) (by rw [Array.size_pop, show ops.size - 1 - 1 = ops.size - 2 by omega]; exact wpAny_of_held _ _ _ _ h1)
  rw [Array.size_pop] at h2
  have h3 := wpAny_tail hk h2
  rw [show l.length + 1 + 1 = ops.size by omega] at h3
  exact wpIn_region_any hm (wpAnyIn_of_wpAny hnd hlo _ _ _ _ h3)
end
end Go.Proofs.Ytjcldnkgidfifaa
