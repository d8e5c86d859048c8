/-
  Pk10: SeqA (what is needed of them).
-/
import Derived.Deep.RegionHeld3
import Derived.WalkKit
set_option maxRecDepth 100000
set_option linter.unusedVariables false
set_option linter.unusedSimpArgs false

namespace Go.Proofs.YtcpfanpcdkoiaaaGreat
open Go.RowKit

section
variable {P : Program} {ops : Array Oper} {Q : Exit → Act → World → Prop} {S : World → Prop}
def wpSeqH (P : Program) (ops : Array Oper) (Q : Exit → Act → World → Prop) (S : World → Prop) : List (Bool × Oper) → Act → World → Prop
 | [], a, w => Q .normal a w
 | (true, o) :: rest, a, w => ∃ v, YieldsIf P ops S o v a ∧ wpSeqH P ops Q S rest (a.put o.dst v) w
 | (false, o) :: rest, a, w => ∀ K : Act → World → Prop, Shut (∀ a w, S w → (S w → wpSeqH P ops Q S rest a w) → K a w) →
   if Region.wanted o (yielded ops a.tmps) = true then Oper.wp P o a w K Q else K (a.put o.dst undef) w
def seqOk (ops : Array Oper) : List (Bool × Nat) → Array Bool → Bool
 | [], listed => (Region.ready .any ops listed).isEmpty
 | (true, i) :: r, listed => Region.free .any ops listed i && (Region.ready .any ops listed).contains i && seqOk ops r (listed.setIfInBounds i true)
 | (false, i) :: r, listed => (Region.ready .any ops listed == [i]) && seqOk ops r (listed.setIfInBounds i true)
def pickOps (ops : Array Oper) : List (Bool × Nat) → List (Bool × Oper)
 | [] => []
 | (b, i) :: r => match ops[i]? with
  | some o => (b, o) :: pickOps ops r
  | none => pickOps ops r
theorem wpAnyH_of_seq (hs : Region.noSelect ops = true) (hQ : ∀ d v c a w, Q (.panic c) (a.put d v) w → Q (.panic c) a w) :
  ∀ (l : List (Bool × Nat)) (listed : Array Bool) (a : Act) (w : World), seqOk ops l listed = true → (l.all fun x => decide (x.2 < ops.size)) = true → S w → wpSeqH P ops Q S (pickOps ops l) a w → wpAnyH P .any ops Q S l.length listed a w
 | [], listed, a, w, hk, _, _, h => by
  simp only [seqOk, List.isEmpty_iff] at hk
  exact ⟨hk, h⟩
 | (b, i) :: r, listed, a, w, hk, hlt, hS, h => by
  simp only [List.all_cons, Bool.and_eq_true, decide_eq_true_eq] at hlt
  have hi : ops[i]? = some ops[i] := Array.getElem?_eq_getElem hlt.1
  simp only [pickOps, hi] at h
  cases b with
  | true =>
   simp only [seqOk, Bool.and_eq_true] at hk
   obtain ⟨v, hy, h⟩ := h
   exact wpAnyH_take hi hs hk.1.1 hk.1.2 (fun c a w => hQ _ _ c a w) hy hS (wpAnyH_of_seq hs hQ r _ _ _ hk.2 hlt.2 hS h)
  | false =>
   simp only [seqOk, Bool.and_eq_true, beq_iff_eq] at hk
   refine wpAnyH_ready hk.1 (by simp) (AllReadyH.cons hi (fun K hK => ?_) AllReadyH.nil)
   exact h K (fun a' w' hS' hw => hK.out a' w' hS' fun hS'' => wpAnyH_of_seq hs hQ r _ _ _ hk.2 hlt.2 hS'' (hw hS''))
theorem wp_region_seq {id : Nat} {a : Act} {w : World} (l : List (Bool × Nat)) (hm : P.follows .mixedOrders = true) (hs : Region.noSelect ops = true) (hl : l.length = ops.size) (hlt : (l.all fun x => decide (x.2 < ops.size)) = true)
  (hk : seqOk ops l (Array.replicate ops.size false) = true) (hQ : ∀ d v c a w, Q (.panic c) (a.put d v) w → Q (.panic c) a w) (hS : S w.drew)
  (h : S w.drew → wpSeqH P ops Q S (pickOps ops l) a w.drew) : (Code.region id ops true).wp P Q a w := by
 refine wp_region_held_drew hm hS fun hS' => ?_
 have := wpAnyH_of_seq (P := P) (Q := Q) (S := S) hs hQ l _ _ _ hk hlt hS' (h hS')
 rwa [hl] at this
theorem seq_take {o : Oper} {rest : List (Bool × Oper)} {a : Act} {w : World} {v : Value} (hw : Region.wanted o (yielded ops a.tmps) = true) (hy : ∀ w, S w → (execOp a.eval o).run P w = .ok (.value v) w)
  (h : wpSeqH P ops Q S rest (a.put o.dst v) w) : wpSeqH P ops Q S ((true, o) :: rest) a w := ⟨v, .inl ⟨hw, hy⟩, h⟩
theorem seq_leave {o : Oper} {rest : List (Bool × Oper)} {a : Act} {w : World} (hw : Region.wanted o (yielded ops a.tmps) = false)
  (h : wpSeqH P ops Q S rest (a.put o.dst undef) w) : wpSeqH P ops Q S ((true, o) :: rest) a w := ⟨undef, .inr ⟨hw, rfl⟩, h⟩
theorem seq_step {o : Oper} {rest : List (Bool × Oper)} {a : Act} {w : World} (hw : Region.wanted o (yielded ops a.tmps) = true)
  (h : ∀ K : Act → World → Prop, Shut (∀ a w, S w → (S w → wpSeqH P ops Q S rest a w) → K a w) → Oper.wp P o a w K Q) : wpSeqH P ops Q S ((false, o) :: rest) a w := fun K hK => by
 rw [if_pos hw]; exact h K hK
theorem seq_pass {o : Oper} {rest : List (Bool × Oper)} {a : Act} {w : World} (hw : Region.wanted o (yielded ops a.tmps) = false) (hS : S w)
  (h : wpSeqH P ops Q S rest (a.put o.dst undef) w) : wpSeqH P ops Q S ((false, o) :: rest) a w := fun K hK => by
 rw [if_neg (by rw [hw]; simp)]; exact hK.out _ _ hS fun _ => h
theorem seq_end {a : Act} {w : World} (h : Q .normal a w) : wpSeqH P ops Q S [] a w := h
end
end Go.Proofs.YtcpfanpcdkoiaaaGreat
