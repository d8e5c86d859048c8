/-
  Arguments that are values: what the reader says of them, for the walk.
-/
import Derived.Test.YtafmhoeammbemaaDoorOpenG
import Derived.Test.YtafmhoeammbemaaDoorMathW
namespace Go.Proofs.YtafmhoeammbemaaDoor
open Go.ChangeShapes Go.WideShapes Go.ChangeAt Go.RowKit Go.Deep
set_option linter.unusedVariables false

/-- A value that came in. -/
def ValIn (v : Value) : Prop := ∃ (k : Int) (n c : List UInt8), v = valV k n c ∧ n.length ≤ 9223372036854775807 ∧ c.length ≤ 9223372036854775807
set_option maxRecDepth 100000 in
theorem val_of_trod {H : Type} {enc : TypeId × Value → H} {W : World} {base : Nat} {v : Value} {d : DataW H} {p : List MemPlace} (hok : Value.okWide Tryd.prog W .any base 23 v) (h : DataW.Trod enc Tryd.prog W 0 (fun _ => true) true 23 v d p) : ValIn v := by
  obtain ⟨l, rfl, hl, hf⟩ := struct_of_trod Tryd.underlying23 (by kernel_rfl) (by kernel_rfl) hok h
  have hl3 : l.length = 3 := hl
  match l, hl3 with
  | [c0, c1, c2], _ =>
    obtain ⟨u0, n0, y0, e0, h0⟩ := hf 0 _ rfl
    obtain ⟨u1, n1, y1, e1, h1⟩ := hf 1 _ rfl
    obtain ⟨u2, n2, y2, e2, h2⟩ := hf 2 _ rfl
    simp at e0 e1 e2
    subst e0 e1 e2
    obtain ⟨c, hc, _, _⟩ := DataW.trod_int Tryd.underlying3 h0
    simp at hc
    subst hc
    obtain ⟨l1, rfl, m1⟩ := string_field Tryd.underlying9 h1
    obtain ⟨l2, rfl, m2⟩ := string_field Tryd.underlying9 h2
    exact ⟨c, l1, l2, rfl, m1, m2⟩
end Go.Proofs.YtafmhoeammbemaaDoor
