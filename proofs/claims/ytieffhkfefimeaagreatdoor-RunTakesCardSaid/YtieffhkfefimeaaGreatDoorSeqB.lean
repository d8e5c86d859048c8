/-
  A quick check that an order is one which a region allows (masks in place of lists): for great regions; and the walk of SeqA by it.
-/
import Derived.Test.YtieffhkfefimeaaGreatDoorSeqT
namespace Go.Proofs.YtieffhkfefimeaaGreatDoor
open Go.RowKit
set_option linter.unusedVariables false

def mask (l : List Nat) : Nat := l.foldl (fun s d => s ||| 2 ^ d) 0
theorem testBit_fold (l : List Nat) (s k : Nat) : (l.foldl (fun s d => s ||| 2 ^ d) s).testBit k = (s.testBit k || l.contains k) := by
  induction l generalizing s with
  | nil => simp
  | cons d l ih =>
    rw [List.foldl_cons, ih, Nat.testBit_or, Nat.testBit_two_pow]
    simp only [List.contains_cons, Bool.or_assoc]
    congr 2
    by_cases h : d = k
    · subst h; simp
    · have : ¬ k = d := fun e => h e.symm
      simp [h, this]
theorem testBit_mask (l : List Nat) (k : Nat) : (mask l).testBit k = l.contains k := by
  unfold mask; rw [testBit_fold]; simp

abbrev Info := Nat × Nat × Option Nat
def depsL (o : Oper) : List Nat := (o.after.toList.filter (Region.binds .any)).map (·.on)
def infoOf (ops : Array Oper) (o : Oper) : Info := (mask (depsL o), mask (o.looksAt ops), o.dst)
def tab (ops : Array Oper) : List Info := ops.toList.map (infoOf ops)
def rdy (t : Info) (m : Nat) : Bool := (t.1 &&& m) == t.1
def apartT (x y : Info) : Bool :=
  (match x.2.2 with
   | some d => !y.2.1.testBit d && y.2.2 != some d
   | none => true) &&
  (match y.2.2 with
   | some d => !x.2.1.testBit d
   | none => true)
def freeT (ti : Info) (i m : Nat) : List Info → Nat → Bool
  | [], _ => true
  | tj :: r, j => (j == i || m.testBit j || tj.1.testBit i || apartT ti tj) && freeT ti i m r (j + 1)
def aloneT (i m : Nat) : List Info → Nat → Bool
  | [], _ => true
  | tj :: r, j => (if j == i then rdy tj m && !m.testBit j else (m.testBit j || !rdy tj m)) && aloneT i m r (j + 1)
def doneT (m : Nat) : List Info → Nat → Bool
  | [], _ => true
  | tj :: r, j => (m.testBit j || !rdy tj m) && doneT m r (j + 1)
def seqFast (T : List Info) : List (Bool × Nat) → Nat → Bool
  | [], m => doneT m T 0
  | (true, i) :: r, m => (match T[i]? with | some ti => rdy ti m && !m.testBit i && freeT ti i m T 0 | none => false) && seqFast T r (m ||| 2 ^ i)
  | (false, i) :: r, m => aloneT i m T 0 && decide (i < T.length) && seqFast T r (m ||| 2 ^ i)

theorem freeT_get {ti : Info} {i m : Nat} : ∀ (l : List Info) (k : Nat), freeT ti i m l k = true → ∀ j tj, l[j]? = some tj → (k + j == i || m.testBit (k + j) || tj.1.testBit i || apartT ti tj) = true
  | [], k, h, j, tj, hj => by simp at hj
  | t :: r, k, h, j, tj, hj => by
    simp only [freeT, Bool.and_eq_true] at h
    cases j with
    | zero => simp at hj; subst hj; exact h.1
    | succ j =>
      have := freeT_get r (k + 1) h.2 j tj (by simpa using hj)
      rwa [show k + 1 + j = k + (j + 1) by omega] at this
theorem aloneT_get {i m : Nat} : ∀ (l : List Info) (k : Nat), aloneT i m l k = true → ∀ j tj, l[j]? = some tj → (if k + j == i then rdy tj m && !m.testBit (k + j) else (m.testBit (k + j) || !rdy tj m)) = true
  | [], k, h, j, tj, hj => by simp at hj
  | t :: r, k, h, j, tj, hj => by
    simp only [aloneT, Bool.and_eq_true] at h
    cases j with
    | zero => simp at hj; subst hj; exact h.1
    | succ j =>
      have := aloneT_get r (k + 1) h.2 j tj (by simpa using hj)
      rwa [show k + 1 + j = k + (j + 1) by omega] at this
theorem doneT_get {m : Nat} : ∀ (l : List Info) (k : Nat), doneT m l k = true → ∀ j tj, l[j]? = some tj → (m.testBit (k + j) || !rdy tj m) = true
  | [], k, h, j, tj, hj => by simp at hj
  | t :: r, k, h, j, tj, hj => by
    simp only [doneT, Bool.and_eq_true] at h
    cases j with
    | zero => simp at hj; subst hj; exact h.1
    | succ j =>
      have := doneT_get r (k + 1) h.2 j tj (by simpa using hj)
      rwa [show k + 1 + j = k + (j + 1) by omega] at this

section
variable {ops : Array Oper}
theorem tab_get {j : Nat} {o : Oper} (h : ops[j]? = some o) : (tab ops)[j]? = some (infoOf ops o) := by
  unfold tab; rw [List.getElem?_map]; simp [h]
/-- What has come up, as a list and as a mask. -/
structure Rel (ops : Array Oper) (listed : Array Bool) (m : Nat) : Prop where
  size : listed.size = ops.size
  bit : ∀ j, listed.getD j false = m.testBit j
theorem Rel.bitT {listed : Array Bool} {m j : Nat} (h : Rel ops listed m) (hj : j < ops.size) : listed.getD j true = m.testBit j := by
  rw [← h.bit]
  have : j < listed.size := by rw [h.size]; exact hj
  simp [Array.getD_eq_getD_getElem?, this]
theorem Rel.set {listed : Array Bool} {m i : Nat} (h : Rel ops listed m) (hi : i < ops.size) : Rel ops (listed.setIfInBounds i true) (m ||| 2 ^ i) := by
  refine ⟨by simpa using h.size, fun j => ?_⟩
  rw [Nat.testBit_or, Nat.testBit_two_pow, ← h.bit]
  simp only [Array.getD_eq_getD_getElem?, Array.getElem?_setIfInBounds]
  split
  · rename_i e; subst e
    rw [if_pos (by rw [h.size]; exact hi)]; simp
  · rename_i e; simp [e]
theorem rdy_iff {o : Oper} {listed : Array Bool} {m : Nat} (h : Rel ops listed m) : rdy (infoOf ops o) m = true ↔ ∀ e ∈ o.after, Region.binds .any e = true → listed.getD e.on false = true := by
  unfold rdy infoOf
  rw [beq_iff_eq]
  constructor
  · intro he e hm hb
    have he : mask (depsL o) &&& m = mask (depsL o) := he
    have h1 : (mask (depsL o)).testBit e.on = true := by
      rw [testBit_mask]
      simp only [List.contains_eq_mem, decide_eq_true_eq, depsL, List.mem_map, List.mem_filter]
      exact ⟨e, ⟨Array.mem_toList_iff.2 hm, hb⟩, rfl⟩
    rw [← he, Nat.testBit_and, Bool.and_eq_true] at h1
    rw [h.bit]; exact h1.2
  · intro hall
    apply Nat.eq_of_testBit_eq
    intro k
    rw [Nat.testBit_and]
    cases hk : (mask (depsL o)).testBit k with
    | false => rfl
    | true =>
      rw [testBit_mask] at hk
      simp only [List.contains_eq_mem, decide_eq_true_eq, depsL, List.mem_map, List.mem_filter] at hk
      obtain ⟨e, ⟨hm, hb⟩, rfl⟩ := hk
      rw [← h.bit, hall e (Array.mem_toList_iff.1 hm) hb]; rfl
theorem apartT_is {x y : Oper} : apartT (infoOf ops x) (infoOf ops y) = x.apart ops y := by
  unfold apartT infoOf Oper.apart
  simp only [testBit_mask]
  rfl
theorem ready_mem {listed : Array Bool} {m j : Nat} {o : Oper} (h : Rel ops listed m) (ho : ops[j]? = some o) : j ∈ Region.ready .any ops listed ↔ (m.testBit j = false ∧ rdy (infoOf ops o) m = true) := by
  have hj : j < ops.size := (Array.getElem?_eq_some_iff.1 ho).1
  rw [mem_ready, rdy_iff h, h.bitT hj]
  constructor
  · rintro ⟨h1, o', ho', h2⟩
    rw [ho] at ho'; cases ho'
    exact ⟨h1, h2⟩
  · rintro ⟨h1, h2⟩
    exact ⟨h1, o, ho, h2⟩
theorem filter_one {p : Nat → Bool} {n i : Nat} (hi : i < n) (h : ∀ j, j < n → (p j = true ↔ j = i)) : (List.range n).filter p = [i] := by
  induction n with
  | zero => omega
  | succ n ih =>
    rw [List.range_succ, List.filter_append]
    by_cases hn : i = n
    · subst hn
      have h1 : (List.range i).filter p = [] := by
        rw [List.filter_eq_nil_iff]
        intro j hj hp
        have hj' := List.mem_range.1 hj
        have := (h j (by omega)).1 hp
        omega
      rw [h1]
      have := (h i (by omega)).2 rfl
      simp [this]
    · rw [ih (by omega) (fun j hj => h j (by omega))]
      have : p n = false := by
        cases hp : p n with
        | false => rfl
        | true => exact (hn ((h n (by omega)).1 hp).symm).elim
      simp [this]
theorem seqOk_of_fast : ∀ (l : List (Bool × Nat)) (listed : Array Bool) (m : Nat), Rel ops listed m → seqFast (tab ops) l m = true → (l.all fun x => decide (x.2 < ops.size)) = true → seqOk ops l listed = true
  | [], listed, m, hR, h, _ => by
    simp only [seqFast] at h
    simp only [seqOk, List.isEmpty_iff, List.eq_nil_iff_forall_not_mem]
    intro j hj
    have hj2 := hj
    rw [mem_ready] at hj2
    obtain ⟨_, o, ho, _⟩ := hj2
    have h1 := (ready_mem hR ho).1 hj
    have h2 := doneT_get _ _ h j _ (tab_get ho)
    rw [Nat.zero_add, h1.1, h1.2] at h2
    cases h2
  | (true, i) :: r, listed, m, hR, h, hlt => by
    simp only [List.all_cons, Bool.and_eq_true, decide_eq_true_eq] at hlt
    have ho : ops[i]? = some ops[i] := Array.getElem?_eq_getElem hlt.1
    simp only [seqFast, tab_get ho, Bool.and_eq_true, Bool.not_eq_true'] at h
    obtain ⟨⟨⟨h1, h2⟩, h3⟩, h4⟩ := h
    simp only [seqOk, Bool.and_eq_true]
    refine ⟨⟨?_, ?_⟩, seqOk_of_fast r _ _ (hR.set hlt.1) h4 hlt.2⟩
    · simp only [Region.free, ho, List.all_eq_true, List.mem_range]
      intro j hj
      have hoj : ops[j]? = some ops[j] := Array.getElem?_eq_getElem hj
      have h5 := freeT_get _ _ h3 j _ (tab_get hoj)
      rw [Nat.zero_add] at h5
      rw [hoj, hR.bitT hj]
      simp only [Bool.or_eq_true] at h5 ⊢
      rcases h5 with (h5 | h5) | h5
      · exact .inl (h5.imp id id)
      · refine .inr (.inl ?_)
        have h6 : (mask (depsL ops[j])).testBit i = true := h5
        rw [testBit_mask] at h6
        simp only [List.contains_eq_mem, decide_eq_true_eq, depsL, List.mem_map, List.mem_filter] at h6
        obtain ⟨e, ⟨hm, hb⟩, he⟩ := h6
        rw [Array.any_eq_true']
        exact ⟨e, Array.mem_toList_iff.1 hm, by simp [hb, he]⟩
      · rw [apartT_is] at h5
        exact .inr (.inr h5)
    · rw [List.contains_eq_mem, decide_eq_true_eq]
      exact (ready_mem hR ho).2 ⟨h2, h1⟩
  | (false, i) :: r, listed, m, hR, h, hlt => by
    simp only [List.all_cons, Bool.and_eq_true, decide_eq_true_eq] at hlt
    simp only [seqFast, Bool.and_eq_true, decide_eq_true_eq] at h
    obtain ⟨⟨h1, h2⟩, h3⟩ := h
    simp only [seqOk, Bool.and_eq_true, beq_iff_eq]
    refine ⟨?_, seqOk_of_fast r _ _ (hR.set hlt.1) h3 hlt.2⟩
    unfold Region.ready
    refine filter_one hlt.1 fun j hj => ?_
    have hoj : ops[j]? = some ops[j] := Array.getElem?_eq_getElem hj
    have h4 := aloneT_get _ _ h1 j _ (tab_get hoj)
    rw [Nat.zero_add] at h4
    have h5 := ready_mem hR hoj
    unfold Region.ready at h5
    rw [List.mem_filter, List.mem_range] at h5
    have h6 : ∀ b : Bool, (j < ops.size ∧ b = true) ↔ b = true := fun b => ⟨fun h => h.2, fun h => ⟨hj, h⟩⟩
    rw [h6] at h5
    rw [h5]
    by_cases hji : j = i
    · subst hji
      simp only [beq_self_eq_true, if_true, Bool.and_eq_true, Bool.not_eq_true'] at h4
      exact ⟨fun _ => rfl, fun _ => ⟨h4.2, h4.1⟩⟩
    · have : (j == i) = false := by simpa using hji
      rw [this] at h4
      simp only [Bool.false_eq_true, if_false, Bool.or_eq_true, Bool.not_eq_true'] at h4
      refine ⟨fun h => ?_, fun h => (hji h).elim⟩
      rcases h4 with h4 | h4
      · rw [h.1] at h4; cases h4
      · rw [h.2] at h4; cases h4

variable {P : Program} {Q : Exit → Act → World → Prop} {S : World → Prop}
theorem wp_region_seqQ {id : Nat} {a : Act} {w : World} (T : List Info) (l : List (Bool × Nat)) (hm : P.follows .mixedOrders = true) (hs : Region.noSelect ops = true) (hl : l.length = ops.size) (hlt : (l.all fun x => decide (x.2 < ops.size)) = true)
    (hT : tab ops = T) (hk : seqFast T l 0 = true) (hQ : ∀ d v c a w, Q (.panic c) (a.put d v) w → Q (.panic c) a w) (hS : S w.drew)
    (h : S w.drew → wpSeqH P ops Q S (pickOps ops l) a w.drew) : (Code.region id ops true).wp P Q a w := by
  refine wp_region_seq l hm hs hl hlt (seqOk_of_fast l _ 0 ⟨by simp, fun j => ?_⟩ (by rw [hT]; exact hk) hlt) hQ hS h
  simp only [Array.getD_eq_getD_getElem?, Array.getElem?_replicate, Nat.zero_testBit]
  split <;> rfl
end
end Go.Proofs.YtieffhkfefimeaaGreatDoor
