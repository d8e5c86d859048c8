/-
  Boxes of any number of cells; what a call that owns some blocks leaves of all others.
-/
import Derived.Test.YtieffhkfefimeaaGreatDoorHeapK
namespace Go.Proofs.YtieffhkfefimeaaGreatDoor
open Go.RowKit
set_option linter.unusedVariables false
set_option linter.unusedSimpArgs false

/-- A block whose first cells hold these, a variable of the call's own. -/
structure BoxL (w : World) (b : Nat) (xs : List Value) : Prop where
  cell : ∀ (i : Nat) (x : Value), xs[i]? = some x → w.cell? ⟨b, i, none⟩ = some x
  free : ∀ (i : Nat), i < xs.length → w.frozen? ⟨b, i, none⟩ = false
  lt : b < w.heap.size
theorem BoxL.block {w w' : World} {b : Nat} {xs : List Value} (h : BoxL w b xs) (hg : w'.heap[b]? = w.heap[b]?) : BoxL w' b xs :=
  ⟨fun i x hi => (World.cell?_of_block (w := w) (a := ⟨b, i, none⟩) hg).trans (h.cell i x hi), fun i hi => (World.frozen?_of_block (w := w) (a := ⟨b, i, none⟩) hg).trans (h.free i hi), by
    have h1 : w.heap[b]? = some (w.heap[b]'h.lt) := Array.getElem?_eq_getElem h.lt
    rw [← hg] at h1; exact (Array.getElem?_eq_some_iff.1 h1).1⟩
theorem BoxL.kept {w w' : World} {b : Nat} {xs : List Value} (h : BoxL w b xs) (hb : Below w.heap.size w w') : BoxL w' b xs := h.block (hb.block b h.lt)
theorem BoxL.below {w w' : World} {b B : Nat} {xs : List Value} (h : BoxL w b xs) (hb : Below B w w') (hB : b < B) : BoxL w' b xs := h.block (hb.block b hB)
theorem BoxL.drew {w : World} {b : Nat} {xs : List Value} (h : BoxL w b xs) : BoxL w.drew b xs := ⟨h.cell, h.free, h.lt⟩
theorem BoxL.new (w : World) (xs : List Value) (t : TypeId) : BoxL (w.alloc (.cells xs.toArray t)) w.heap.size xs := by
  refine ⟨fun i x hi => ?_, fun i hi => ?_, by simp⟩
  · unfold World.cell?
    rw [show (w.alloc (.cells xs.toArray t)).heap[w.heap.size]? = some (.cells xs.toArray t) from heap_alloc_new w _]
    simpa using hi
  · unfold World.frozen?
    rw [show (w.alloc (.cells xs.toArray t)).heap[w.heap.size]? = some (.cells xs.toArray t) from heap_alloc_new w _]
    simp
theorem BoxL.set {w : World} {b : Nat} {xs : List Value} (h : BoxL w b xs) (i : Nat) (u : Value) (hi : i < xs.length) : BoxL (w.setCell ⟨b, i, none⟩ u) b (xs.set i u) := by
  refine ⟨fun j x hj => ?_, fun j hj => ?_, by simpa [World.setCell] using h.lt⟩
  · by_cases e : j = i
    · subst e
      rw [List.getElem?_set_self hi] at hj
      cases hj
      exact cell_set (h.cell j (xs[j]'hi) (List.getElem?_eq_getElem hi))
    · rw [List.getElem?_set_ne (fun h => e h.symm)] at hj
      rw [World.cell?_setCell_other]
      · exact h.cell j x hj
      · intro e'; have h2 : i = j := by injection e'
        exact e h2.symm
  · rw [World.frozen?_setCell]
    exact h.free j (by simpa using hj)
theorem BoxL.setOther {w : World} {b g : Nat} {xs : List Value} (h : BoxL w b xs) (hne : b ≠ g) (j : Nat) (u : Value) : BoxL (w.setCell ⟨g, j, none⟩ u) b xs :=
  h.block ((grownBy_set (grownBy_refl w (some g)) j u).block b h.lt (by simpa using hne))

theorem BoxL.of1 {w : World} {b : Nat} {x0 : Value} (c0 : w.cell? ⟨b, 0, none⟩ = some x0) (f0 : w.frozen? ⟨b, 0, none⟩ = false) : BoxL w b [x0] := by
  refine ⟨fun i x hi => ?_, fun i hi => ?_, World.block_lt_of_cell? w ⟨b, 0, none⟩ c0⟩
  · match i, hi with
    | 0, hi => simp at hi; subst hi; exact c0
  · match i, hi with
    | 0, hi => exact f0
theorem BoxL.of2 {w : World} {b : Nat} {x0 x1 : Value} (c0 : w.cell? ⟨b, 0, none⟩ = some x0) (c1 : w.cell? ⟨b, 1, none⟩ = some x1) (f0 : w.frozen? ⟨b, 0, none⟩ = false) (f1 : w.frozen? ⟨b, 1, none⟩ = false) : BoxL w b [x0, x1] := by
  refine ⟨fun i x hi => ?_, fun i hi => ?_, World.block_lt_of_cell? w ⟨b, 0, none⟩ c0⟩
  · match i, hi with
    | 0, hi => simp at hi; subst hi; exact c0
    | 1, hi => simp at hi; subst hi; exact c1
  · match i, hi with
    | 0, hi => exact f0
    | 1, hi => exact f1
theorem BoxL.of3 {w : World} {b : Nat} {x0 x1 x2 : Value} (c0 : w.cell? ⟨b, 0, none⟩ = some x0) (c1 : w.cell? ⟨b, 1, none⟩ = some x1) (c2 : w.cell? ⟨b, 2, none⟩ = some x2) (f0 : w.frozen? ⟨b, 0, none⟩ = false) (f1 : w.frozen? ⟨b, 1, none⟩ = false) (f2 : w.frozen? ⟨b, 2, none⟩ = false) : BoxL w b [x0, x1, x2] := by
  refine ⟨fun i x hi => ?_, fun i hi => ?_, World.block_lt_of_cell? w ⟨b, 0, none⟩ c0⟩
  · match i, hi with
    | 0, hi => simp at hi; subst hi; exact c0
    | 1, hi => simp at hi; subst hi; exact c1
    | 2, hi => simp at hi; subst hi; exact c2
  · match i, hi with
    | 0, hi => exact f0
    | 1, hi => exact f1
    | 2, hi => exact f2
theorem BoxL.of4 {w : World} {b : Nat} {x0 x1 x2 x3 : Value} (c0 : w.cell? ⟨b, 0, none⟩ = some x0) (c1 : w.cell? ⟨b, 1, none⟩ = some x1) (c2 : w.cell? ⟨b, 2, none⟩ = some x2) (c3 : w.cell? ⟨b, 3, none⟩ = some x3) (f0 : w.frozen? ⟨b, 0, none⟩ = false) (f1 : w.frozen? ⟨b, 1, none⟩ = false) (f2 : w.frozen? ⟨b, 2, none⟩ = false) (f3 : w.frozen? ⟨b, 3, none⟩ = false) : BoxL w b [x0, x1, x2, x3] := by
  refine ⟨fun i x hi => ?_, fun i hi => ?_, World.block_lt_of_cell? w ⟨b, 0, none⟩ c0⟩
  · match i, hi with
    | 0, hi => simp at hi; subst hi; exact c0
    | 1, hi => simp at hi; subst hi; exact c1
    | 2, hi => simp at hi; subst hi; exact c2
    | 3, hi => simp at hi; subst hi; exact c3
  · match i, hi with
    | 0, hi => exact f0
    | 1, hi => exact f1
    | 2, hi => exact f2
    | 3, hi => exact f3
theorem BoxL.of5 {w : World} {b : Nat} {x0 x1 x2 x3 x4 : Value} (c0 : w.cell? ⟨b, 0, none⟩ = some x0) (c1 : w.cell? ⟨b, 1, none⟩ = some x1) (c2 : w.cell? ⟨b, 2, none⟩ = some x2) (c3 : w.cell? ⟨b, 3, none⟩ = some x3) (c4 : w.cell? ⟨b, 4, none⟩ = some x4) (f0 : w.frozen? ⟨b, 0, none⟩ = false) (f1 : w.frozen? ⟨b, 1, none⟩ = false) (f2 : w.frozen? ⟨b, 2, none⟩ = false) (f3 : w.frozen? ⟨b, 3, none⟩ = false) (f4 : w.frozen? ⟨b, 4, none⟩ = false) : BoxL w b [x0, x1, x2, x3, x4] := by
  refine ⟨fun i x hi => ?_, fun i hi => ?_, World.block_lt_of_cell? w ⟨b, 0, none⟩ c0⟩
  · match i, hi with
    | 0, hi => simp at hi; subst hi; exact c0
    | 1, hi => simp at hi; subst hi; exact c1
    | 2, hi => simp at hi; subst hi; exact c2
    | 3, hi => simp at hi; subst hi; exact c3
    | 4, hi => simp at hi; subst hi; exact c4
  · match i, hi with
    | 0, hi => exact f0
    | 1, hi => exact f1
    | 2, hi => exact f2
    | 3, hi => exact f3
    | 4, hi => exact f4
theorem BoxL.of6 {w : World} {b : Nat} {x0 x1 x2 x3 x4 x5 : Value} (c0 : w.cell? ⟨b, 0, none⟩ = some x0) (c1 : w.cell? ⟨b, 1, none⟩ = some x1) (c2 : w.cell? ⟨b, 2, none⟩ = some x2) (c3 : w.cell? ⟨b, 3, none⟩ = some x3) (c4 : w.cell? ⟨b, 4, none⟩ = some x4) (c5 : w.cell? ⟨b, 5, none⟩ = some x5) (f0 : w.frozen? ⟨b, 0, none⟩ = false) (f1 : w.frozen? ⟨b, 1, none⟩ = false) (f2 : w.frozen? ⟨b, 2, none⟩ = false) (f3 : w.frozen? ⟨b, 3, none⟩ = false) (f4 : w.frozen? ⟨b, 4, none⟩ = false) (f5 : w.frozen? ⟨b, 5, none⟩ = false) : BoxL w b [x0, x1, x2, x3, x4, x5] := by
  refine ⟨fun i x hi => ?_, fun i hi => ?_, World.block_lt_of_cell? w ⟨b, 0, none⟩ c0⟩
  · match i, hi with
    | 0, hi => simp at hi; subst hi; exact c0
    | 1, hi => simp at hi; subst hi; exact c1
    | 2, hi => simp at hi; subst hi; exact c2
    | 3, hi => simp at hi; subst hi; exact c3
    | 4, hi => simp at hi; subst hi; exact c4
    | 5, hi => simp at hi; subst hi; exact c5
  · match i, hi with
    | 0, hi => exact f0
    | 1, hi => exact f1
    | 2, hi => exact f2
    | 3, hi => exact f3
    | 4, hi => exact f4
    | 5, hi => exact f5
theorem BoxL.of7 {w : World} {b : Nat} {x0 x1 x2 x3 x4 x5 x6 : Value} (c0 : w.cell? ⟨b, 0, none⟩ = some x0) (c1 : w.cell? ⟨b, 1, none⟩ = some x1) (c2 : w.cell? ⟨b, 2, none⟩ = some x2) (c3 : w.cell? ⟨b, 3, none⟩ = some x3) (c4 : w.cell? ⟨b, 4, none⟩ = some x4) (c5 : w.cell? ⟨b, 5, none⟩ = some x5) (c6 : w.cell? ⟨b, 6, none⟩ = some x6) (f0 : w.frozen? ⟨b, 0, none⟩ = false) (f1 : w.frozen? ⟨b, 1, none⟩ = false) (f2 : w.frozen? ⟨b, 2, none⟩ = false) (f3 : w.frozen? ⟨b, 3, none⟩ = false) (f4 : w.frozen? ⟨b, 4, none⟩ = false) (f5 : w.frozen? ⟨b, 5, none⟩ = false) (f6 : w.frozen? ⟨b, 6, none⟩ = false) : BoxL w b [x0, x1, x2, x3, x4, x5, x6] := by
  refine ⟨fun i x hi => ?_, fun i hi => ?_, World.block_lt_of_cell? w ⟨b, 0, none⟩ c0⟩
  · match i, hi with
    | 0, hi => simp at hi; subst hi; exact c0
    | 1, hi => simp at hi; subst hi; exact c1
    | 2, hi => simp at hi; subst hi; exact c2
    | 3, hi => simp at hi; subst hi; exact c3
    | 4, hi => simp at hi; subst hi; exact c4
    | 5, hi => simp at hi; subst hi; exact c5
    | 6, hi => simp at hi; subst hi; exact c6
  · match i, hi with
    | 0, hi => exact f0
    | 1, hi => exact f1
    | 2, hi => exact f2
    | 3, hi => exact f3
    | 4, hi => exact f4
    | 5, hi => exact f5
    | 6, hi => exact f6

/-- From w on to w': no old block has turned but those of S. -/
structure Keep (S : Nat → Prop) (w w' : World) : Prop where
  os : w'.os = w.os
  tape : w'.tape = w.tape
  output : w'.output = w.output
  size : w.heap.size ≤ w'.heap.size
  same : ∀ k, k < w.heap.size → ¬ S k → w'.heap[k]? = w.heap[k]?
theorem Keep.refl (S : Nat → Prop) (w : World) : Keep S w w := ⟨rfl, rfl, rfl, Nat.le_refl _, fun _ _ _ => rfl⟩
theorem Keep.of_below {S : Nat → Prop} {w w' : World} (h : Below w.heap.size w w') : Keep S w w' := ⟨h.os, h.tape, h.output, h.size, fun k hk _ => h.block k hk⟩
theorem Keep.trans {S S' : Nat → Prop} {a b c : World} (h : Keep S a b) (h' : Keep S' b c) (hS : ∀ k, k < a.heap.size → S' k → S k) : Keep S a c :=
  ⟨h'.os.trans h.os, h'.tape.trans h.tape, h'.output.trans h.output, Nat.le_trans h.size h'.size, fun k hk hs => (h'.same k (Nat.lt_of_lt_of_le hk h.size) (fun h2 => hs (hS k hk h2))).trans (h.same k hk hs)⟩
theorem Keep.then_below {S : Nat → Prop} {a b c : World} (h : Keep S a b) (h' : Below b.heap.size b c) : Keep S a c := h.trans (Keep.of_below (S := fun _ => False) h') (fun _ _ h => h.elim)
theorem Keep.mono {S S' : Nat → Prop} {a b : World} (h : Keep S a b) (hS : ∀ k, k < a.heap.size → S k → S' k) : Keep S' a b := ⟨h.os, h.tape, h.output, h.size, fun k hk hs => h.same k hk (fun h2 => hs (hS k hk h2))⟩
theorem Keep.below {S : Nat → Prop} {a b : World} {B : Nat} (h : Keep S a b) (hS : ∀ k, S k → B ≤ k) (hB : B ≤ a.heap.size) : Below B a b :=
  ⟨h.os, h.tape, h.output, h.size, fun k hk => h.same k (by omega) (fun h2 => by have := hS k h2; omega)⟩
theorem Keep.set {S : Nat → Prop} {a b : World} (h : Keep S a b) (g j : Nat) (u : Value) (hg : S g ∨ a.heap.size ≤ g) : Keep S a (b.setCell ⟨g, j, none⟩ u) := by
  have hs := grownBy_set (grownBy_refl b (some g)) j u
  exact ⟨hs.os.trans h.os, hs.tape.trans h.tape, hs.output.trans h.output, Nat.le_trans h.size hs.size, fun k hk hs2 => (hs.block k (Nat.lt_of_lt_of_le hk h.size) (fun e => by
    cases e
    rcases hg with h1 | h1
    · exact hs2 h1
    · omega)).trans (h.same k hk hs2)⟩
theorem BoxL.keep {S : Nat → Prop} {w w' : World} {b : Nat} {xs : List Value} (h : BoxL w b xs) (hk : Keep S w w') (hs : ¬ S b) : BoxL w' b xs := h.block (hk.same b h.lt hs)
end Go.Proofs.YtieffhkfefimeaaGreatDoor
