/-
  Arguments that are structs: what the reader says of them, for the walk. A target.
-/
import Derived.Test.YtnajnbgjmgkcoaaGreatDoorHeapG
import Derived.WalkKit
import Derived.ProofKit
import Derived.OpenShut
import Derived.ShutString
import Derived.Carry
import Derived.Deep.Fields
namespace Go.Proofs.YtnajnbgjmgkcoaaGreatDoor
open Go.ChangeShapes Go.WideShapes Go.ChangeAt Go.RowKit Go.Deep
set_option linter.unusedVariables false

set_option maxRecDepth 100000 in
theorem laidOutN : laidOutB Tryz.prog = true := by kernel_rfl

/-- A struct of one-cell fields: each field by itself. -/
theorem struct_of_trod {H : Type} {enc : TypeId × Value → H} {P : Program} {W : World} {r : Reach} {b0 base : Nat} {spare : Nat → Bool} {held : Bool} {t : TypeId} {fs : Array Field} {v : Value} {d : DataW H} {p : List MemPlace} (hs : P.underlying t = some (.struct fs)) (hone : oneCellFields P fs = true) (hC : P.cellsOf t = fs.size)
    (hv : Value.okWide P W r b0 t v) (h : DataW.Trod enc P W base spare held t v d p) :
    ∃ l : List Value, v = .agg l.toArray ∧ l.length = fs.size ∧ ∀ (i : Nat) (f : Field), fs[i]? = some f → ∃ u n y, l[i]? = some u ∧ DataW.trod enc P W base spare held n f.type [u] = some y := by
  obtain ⟨⟨l⟩, rfl, hsz⟩ := okWide_struct hs hv
  obtain ⟨fuel, hf⟩ := h
  obtain ⟨xs, n, _, _, _, hlen, hg⟩ := DataW.trod_struct hs hf
  refine ⟨l, rfl, by rw [← hC, ← hsz]; simp, fun i f hi => ?_⟩
  obtain ⟨ho, hk⟩ := hone_of hone i f hi
  have hil : i < fs.size := (Array.getElem?_eq_some_iff.1 hi).1
  have hll : l.length = fs.size := by rw [← hC, ← hsz]; simp
  have h1 := hg i f hi
  rw [ho, hk] at h1
  have h2 : ((Value.agg ⟨l⟩).cells.toList.drop i).take 1 = [l[i]'(by omega)] := by
    show (l.drop i).take 1 = _
    rw [List.drop_eq_getElem_cons (by omega)]; rfl
  rw [h2] at h1
  exact ⟨_, n, xs[i]'(by omega), List.getElem?_eq_getElem (by omega), by rw [h1]; exact List.getElem?_eq_getElem (by omega)⟩
/-- A target that came in. -/
def Tgt (v : Value) : Prop := ∃ mn mx fa co : List UInt8, ∃ c : Int, v = tgtV mn mx fa co c ∧ mn.length ≤ 9223372036854775807 ∧ mx.length ≤ 9223372036854775807 ∧ fa.length ≤ 9223372036854775807 ∧ co.length ≤ 9223372036854775807
theorem string_field {H : Type} {enc : TypeId × Value → H} {P : Program} {W : World} {base : Nat} {spare : Nat → Bool} {held : Bool} {n : Nat} {t : TypeId} {u : Value} {y : DataW H × List MemPlace} (ht : P.underlying t = some .string) (h : DataW.trod enc P W base spare held n t [u] = some y) :
    ∃ l : List UInt8, u = .string ⟨l.toArray⟩ ∧ l.length ≤ 9223372036854775807 := by
  obtain ⟨s, hs, _, hm⟩ := DataW.trod_string ht h
  obtain ⟨⟨l⟩⟩ := s
  simp at hs
  refine ⟨l, hs, ?_⟩
  unfold maxLen at hm
  have h9 : (⟨⟨l⟩⟩ : ByteArray).size = l.length := rfl
  omega
set_option maxRecDepth 100000 in
theorem tgt_of_trod {H : Type} {enc : TypeId × Value → H} {W : World} {base : Nat} {v : Value} {d : DataW H} {p : List MemPlace} (hok : Value.okWide Tryz.prog W .any base 23 v) (h : DataW.Trod enc Tryz.prog W 0 (fun _ => true) true 23 v d p) : Tgt v := by
  obtain ⟨l, rfl, hl, hf⟩ := struct_of_trod Tryz.underlying23 (by kernel_rfl) (by kernel_rfl) hok h
  have hl5 : l.length = 5 := hl
  match l, hl5 with
  | [c0, c1, c2, c3, c4], _ =>
    obtain ⟨u0, n0, y0, e0, h0⟩ := hf 0 _ rfl
    obtain ⟨u1, n1, y1, e1, h1⟩ := hf 1 _ rfl
    obtain ⟨u2, n2, y2, e2, h2⟩ := hf 2 _ rfl
    obtain ⟨u3, n3, y3, e3, h3⟩ := hf 3 _ rfl
    obtain ⟨u4, n4, y4, e4, h4⟩ := hf 4 _ rfl
    simp at e0 e1 e2 e3 e4
    subst e0 e1 e2 e3 e4
    obtain ⟨l0, rfl, m0⟩ := string_field Tryz.underlying9 h0
    obtain ⟨l1, rfl, m1⟩ := string_field Tryz.underlying9 h1
    obtain ⟨l2, rfl, m2⟩ := string_field Tryz.underlying9 h2
    obtain ⟨l3, rfl, m3⟩ := string_field Tryz.underlying9 h3
    obtain ⟨c, hc, _, _⟩ := DataW.trod_int Tryz.underlying3 h4
    simp at hc
    subst hc
    exact ⟨l0, l1, l2, l3, c, rfl, m0, m1, m2, m3⟩
end Go.Proofs.YtnajnbgjmgkcoaaGreatDoor
