/-
  Boxes of five cells (a target is one).
-/
import Derived.Test.YtafmhoeammbemaaDoorHeapQ
namespace Go.Proofs.YtafmhoeammbemaaDoor
open Go.RowKit
set_option linter.unusedVariables false
set_option linter.unusedSimpArgs false

/-- A block of five cells, a variable of the call's own. -/
structure Box5 (w : World) (b : Nat) (x0 x1 x2 x3 x4 : Value) : Prop where
  c0 : w.cell? ⟨b, 0, none⟩ = some x0
  c1 : w.cell? ⟨b, 1, none⟩ = some x1
  c2 : w.cell? ⟨b, 2, none⟩ = some x2
  c3 : w.cell? ⟨b, 3, none⟩ = some x3
  c4 : w.cell? ⟨b, 4, none⟩ = some x4
  f0 : w.frozen? ⟨b, 0, none⟩ = false
  f1 : w.frozen? ⟨b, 1, none⟩ = false
  f2 : w.frozen? ⟨b, 2, none⟩ = false
  f3 : w.frozen? ⟨b, 3, none⟩ = false
  f4 : w.frozen? ⟨b, 4, none⟩ = false
theorem Box5.block {w w' : World} {b : Nat} {x0 x1 x2 x3 x4 : Value} (h : Box5 w b x0 x1 x2 x3 x4) (hg : w'.heap[b]? = w.heap[b]?) : Box5 w' b x0 x1 x2 x3 x4 :=
  ⟨(World.cell?_of_block (w := w) (a := ⟨b, 0, none⟩) hg).trans h.c0, (World.cell?_of_block (w := w) (a := ⟨b, 1, none⟩) hg).trans h.c1, (World.cell?_of_block (w := w) (a := ⟨b, 2, none⟩) hg).trans h.c2, (World.cell?_of_block (w := w) (a := ⟨b, 3, none⟩) hg).trans h.c3, (World.cell?_of_block (w := w) (a := ⟨b, 4, none⟩) hg).trans h.c4,
    (World.frozen?_of_block (w := w) (a := ⟨b, 0, none⟩) hg).trans h.f0, (World.frozen?_of_block (w := w) (a := ⟨b, 1, none⟩) hg).trans h.f1, (World.frozen?_of_block (w := w) (a := ⟨b, 2, none⟩) hg).trans h.f2, (World.frozen?_of_block (w := w) (a := ⟨b, 3, none⟩) hg).trans h.f3, (World.frozen?_of_block (w := w) (a := ⟨b, 4, none⟩) hg).trans h.f4⟩
theorem Box5.lt {w : World} {b : Nat} {x0 x1 x2 x3 x4 : Value} (h : Box5 w b x0 x1 x2 x3 x4) : b < w.heap.size := World.block_lt_of_cell? w ⟨b, 0, none⟩ h.c0
theorem Box5.kept {w w' : World} {b : Nat} {x0 x1 x2 x3 x4 : Value} (h : Box5 w b x0 x1 x2 x3 x4) (hb : Below w.heap.size w w') : Box5 w' b x0 x1 x2 x3 x4 := h.block (hb.block b h.lt)
theorem Box5.drew {w : World} {b : Nat} {x0 x1 x2 x3 x4 : Value} (h : Box5 w b x0 x1 x2 x3 x4) : Box5 w.drew b x0 x1 x2 x3 x4 := ⟨h.c0, h.c1, h.c2, h.c3, h.c4, h.f0, h.f1, h.f2, h.f3, h.f4⟩
theorem Box5.setOther {w : World} {b g : Nat} {x0 x1 x2 x3 x4 : Value} (h : Box5 w b x0 x1 x2 x3 x4) (hne : b ≠ g) (j : Nat) (u : Value) : Box5 (w.setCell ⟨g, j, none⟩ u) b x0 x1 x2 x3 x4 :=
  h.block ((grownBy_set (grownBy_refl w (some g)) j u).block b h.lt (by simpa using hne))
theorem Box5.set3t {w : World} {b g : Nat} {x0 x1 x2 x3 x4 u0 u1 u2 : Value} (h : Box5 w g x0 x1 x2 x3 x4) (hne : g ≠ b) : Box5 (((w.setCell ⟨b, 0, none⟩ u0).setCell ⟨b, 1, none⟩ u1).setCell ⟨b, 2, none⟩ u2) g x0 x1 x2 x3 x4 := ((h.setOther hne 0 u0).setOther hne 1 u1).setOther hne 2 u2
/-- A target as a value. -/
abbrev tgtV (mn mx fa co : List UInt8) (c : Int) : Value := .agg #[.string ⟨mn.toArray⟩, .string ⟨mx.toArray⟩, .string ⟨fa.toArray⟩, .string ⟨co.toArray⟩, .int .i64 c]
end Go.Proofs.YtafmhoeammbemaaDoor
