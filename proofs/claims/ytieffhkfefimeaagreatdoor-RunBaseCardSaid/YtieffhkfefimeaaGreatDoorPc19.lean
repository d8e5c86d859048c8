/-
  Pc19: IterS (what is needed of them).
-/
import Derived.Test.YtieffhkfefimeaaGreatDoorPc18
set_option maxRecDepth 100000
set_option linter.unusedVariables false
set_option linter.unusedSimpArgs false

namespace Go.Proofs.YtieffhkfefimeaaGreatDoor
open Go.RowKit Go.Shelf


attribute [local go_sem] Oper.semAt_some field_nat
structure RatRow (W : World) (v : Value) (qs : List Rat) (B pn : Nat) : Prop where
 row : ∃ (ao : Option Addr) (cap : Nat), v = .slice ao qs.length cap ∧ (qs = [] ∨ ∃ g, ao = some ⟨g, 0, none⟩ ∧ g < B ∧ g < W.heap.size ∧ g ≠ pn ∧ ∀ i, i < qs.length → ∃ x y z, W.cell? ⟨g, i * 3, none⟩ = some x ∧ W.cell? ⟨g, i * 3 + 1, none⟩ = some y ∧ W.cell? ⟨g, i * 3 + 2, none⟩ = some z ∧ QIs W (.agg #[x, y, z]) (qs[i]?.getD 0))
theorem RatRow.keep {W W' : World} {v : Value} {qs : List Rat} {B pn : Nat} (h : RatRow W v qs B pn) (hs : W.heap.size ≤ W'.heap.size) (hc : ∀ g, g < B → g < W.heap.size → g ≠ pn → W'.heap[g]? = W.heap[g]?) (hk : KeepNat W W') : RatRow W' v qs B pn := by
 obtain ⟨ao, cap, h1, h2⟩ := h.row
 refine ⟨ao, cap, h1, ?_⟩
 rcases h2 with h2 | ⟨g, h3, h4, h5, h6, h7⟩
 ·exact .inl h2
 ·refine .inr ⟨g, h3, h4, Nat.lt_of_lt_of_le h5 hs, h6, fun i hi => ?_⟩
  obtain ⟨x, y, z, c0, c1, c2, hq⟩ := h7 i hi
  have e := hc g h4 h5 h6
  exact ⟨x, y, z, (World.cell?_of_block (a := ⟨g, i * 3, none⟩) e).trans c0, (World.cell?_of_block (a := ⟨g, i * 3 + 1, none⟩) e).trans c1, (World.cell?_of_block (a := ⟨g, i * 3 + 2, none⟩) e).trans c2, hq.keep hk⟩
end Go.Proofs.YtieffhkfefimeaaGreatDoor
