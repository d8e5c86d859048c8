import Derived.Test.YtafmhoeammbemaaDoorHeapG
import Derived.WalkKit
import Derived.ProofKit
import Derived.OpenShut
import Derived.ShutString
import Derived.Carry
import Derived.Deep.Fields
namespace Go.Proofs.YtafmhoeammbemaaDoor
open Go.ChangeShapes Go.WideShapes Go.ChangeAt Go.RowKit Go.Deep
set_option linter.unusedVariables false
set_option maxRecDepth 100000 in
theorem laidOutN : laidOutB Tryd.prog = true := by kernel_rfl
/-- A struct of one-cell fields: each field by itself. -/
theorem struct_of_trod {H : Type} {enc : TypeId × Value → H} {P : Program} {W : World} {r : Reach} {b0 base : Nat} {spare : Nat → Bool} {held : Bool} {t : TypeId} {fs : Array Field} {v : Value} {d : DataW H} {p : List MemPlace} (hs : P.underlying t = some (.struct fs)) (hone : oneCellFields P fs = true) (hC : P.cellsOf t = fs.size)
    (hv : Value.okWide P W r b0 t v) (h : DataW.Trod enc P W base spare held t v d p) :
    ∃ l : List Value, v = .agg l.toArray ∧ l.length = fs.size ∧ ∀ (i : Nat) (f : Field), fs[i]? = some f → ∃ u n y, l[i]? = some u ∧ DataW.trod enc P W base spare held n f.type [u] = some y := by
  obtain ⟨⟨l⟩, rfl, hsz⟩ := okWide_struct hs hv
  obtain ⟨fuel, hf⟩ := h
  obtain ⟨xs, n, _, _, _, hlen, hg⟩ := DataW.trod_struct hs hf
  refine ⟨l, rfl, by rw [← hC, ← hsz]; simp, fun i f hi => ?_⟩
  obtain ⟨ho, hk⟩ := hone_of hone i f hi
  have hil : i < fs.size := (Array.getElem?_eq_some_iff.1 hi).1
  have hll : l.length = fs.size := by rw [← hC, ← hsz]; simp
  have h1 := hg i f hi
  rw [ho, hk] at h1
  have h2 : ((Value.agg ⟨l⟩).cells.toList.drop i).take 1 = [l[i]'(by omega)] := by
    show (l.drop i).take 1 = _
    rw [List.drop_eq_getElem_cons (by omega)]; rfl
  rw [h2] at h1
  exact ⟨_, n, xs[i]'(by omega), List.getElem?_eq_getElem (by omega), by rw [h1]; exact List.getElem?_eq_getElem (by omega)⟩
/-- A target that came in. -/
def Tgt (v : Value) : Prop := ∃ mn mx fa co : List UInt8, ∃ c : Int, v = tgtV mn mx fa co c ∧ mn.length ≤ 9223372036854775807 ∧ mx.length ≤ 9223372036854775807 ∧ fa.length ≤ 9223372036854775807 ∧ co.length ≤ 9223372036854775807
theorem string_field {H : Type} {enc : TypeId × Value → H} {P : Program} {W : World} {base : Nat} {spare : Nat → Bool} {held : Bool} {n : Nat} {t : TypeId} {u : Value} {y : DataW H × List MemPlace} (ht : P.underlying t = some .string) (h : DataW.trod enc P W base spare held n t [u] = some y) :
    ∃ l : List UInt8, u = .string ⟨l.toArray⟩ ∧ l.length ≤ 9223372036854775807 := by
  obtain ⟨s, hs, _, hm⟩ := DataW.trod_string ht h
  obtain ⟨⟨l⟩⟩ := s
  simp at hs
  refine ⟨l, hs, ?_⟩
  unfold maxLen at hm
  have h9 : (⟨⟨l⟩⟩ : ByteArray).size = l.length := rfl
  omega
end Go.Proofs.YtafmhoeammbemaaDoor
