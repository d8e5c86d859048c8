import Derived.Test.YtafmhoeammbemaaDoorDecA
import Derived.Deep.DeepCutAuto
import Derived.WalkMore
import Derived.Laws.StructEq
namespace Go.Proofs.YtafmhoeammbemaaDoor
open Go.RowKit
set_option linter.unusedVariables false
set_option linter.unusedSimpArgs false
attribute [local go_sem] field_nat
theorem Box5.put0 {w : World} {b : Nat} {x0 x1 x2 x3 x4 : Value} (h : Box5 w b x0 x1 x2 x3 x4) (u : Value) : Box5 (w.setCell ⟨b, 0, none⟩ u) b u x1 x2 x3 x4 := by
  have e0 := h.c0
  have g0 := h.f0
  have e1 := h.c1
  have g1 := h.f1
  have e2 := h.c2
  have g2 := h.f2
  have e3 := h.c3
  have g3 := h.f3
  have e4 := h.c4
  have g4 := h.f4
  exact ⟨by go_simp, by go_simp, by go_simp, by go_simp, by go_simp, by go_simp, by go_simp, by go_simp, by go_simp, by go_simp⟩
theorem Box5.put1 {w : World} {b : Nat} {x0 x1 x2 x3 x4 : Value} (h : Box5 w b x0 x1 x2 x3 x4) (u : Value) : Box5 (w.setCell ⟨b, 1, none⟩ u) b x0 u x2 x3 x4 := by
  have e0 := h.c0
  have g0 := h.f0
  have e1 := h.c1
  have g1 := h.f1
  have e2 := h.c2
  have g2 := h.f2
  have e3 := h.c3
  have g3 := h.f3
  have e4 := h.c4
  have g4 := h.f4
  exact ⟨by go_simp, by go_simp, by go_simp, by go_simp, by go_simp, by go_simp, by go_simp, by go_simp, by go_simp, by go_simp⟩
theorem Box5.put2 {w : World} {b : Nat} {x0 x1 x2 x3 x4 : Value} (h : Box5 w b x0 x1 x2 x3 x4) (u : Value) : Box5 (w.setCell ⟨b, 2, none⟩ u) b x0 x1 u x3 x4 := by
  have e0 := h.c0
  have g0 := h.f0
  have e1 := h.c1
  have g1 := h.f1
  have e2 := h.c2
  have g2 := h.f2
  have e3 := h.c3
  have g3 := h.f3
  have e4 := h.c4
  have g4 := h.f4
  exact ⟨by go_simp, by go_simp, by go_simp, by go_simp, by go_simp, by go_simp, by go_simp, by go_simp, by go_simp, by go_simp⟩
theorem Box5.put3 {w : World} {b : Nat} {x0 x1 x2 x3 x4 : Value} (h : Box5 w b x0 x1 x2 x3 x4) (u : Value) : Box5 (w.setCell ⟨b, 3, none⟩ u) b x0 x1 x2 u x4 := by
  have e0 := h.c0
  have g0 := h.f0
  have e1 := h.c1
  have g1 := h.f1
  have e2 := h.c2
  have g2 := h.f2
  have e3 := h.c3
  have g3 := h.f3
  have e4 := h.c4
  have g4 := h.f4
  exact ⟨by go_simp, by go_simp, by go_simp, by go_simp, by go_simp, by go_simp, by go_simp, by go_simp, by go_simp, by go_simp⟩
theorem Box5.put4 {w : World} {b : Nat} {x0 x1 x2 x3 x4 : Value} (h : Box5 w b x0 x1 x2 x3 x4) (u : Value) : Box5 (w.setCell ⟨b, 4, none⟩ u) b x0 x1 x2 x3 u := by
  have e0 := h.c0
  have g0 := h.f0
  have e1 := h.c1
  have g1 := h.f1
  have e2 := h.c2
  have g2 := h.f2
  have e3 := h.c3
  have g3 := h.f3
  have e4 := h.c4
  have g4 := h.f4
  exact ⟨by go_simp, by go_simp, by go_simp, by go_simp, by go_simp, by go_simp, by go_simp, by go_simp, by go_simp, by go_simp⟩
theorem nil_beq {l : List UInt8} (h : l ≠ []) : (l == []) = false := by rw [beq_eq_false_iff_ne]; exact h
/-- What cut answers. -/
abbrev litV (l : List UInt8) : Value := .agg #[.bool (sneg l), .string ⟨(lall l).toArray⟩, .int .i64 ((lbehind l).length : Nat), .bool (xneg l), .string ⟨(xdig l).toArray⟩]
theorem lman_take (l : List UInt8) : (srest l).take (lman l).length = lman l := by
  have h : srest l = lman l ++ (srest l).dropWhile (fun c => !isE c) := (List.takeWhile_append_dropWhile).symm
  generalize (srest l).dropWhile (fun c => !isE c) = t at h
  rw [h]; simp
theorem noE_of {l : List UInt8} (h : hasE l = false) : lman l = srest l ∧ ∀ i, i < (srest l).length → isE ((srest l)[i]?.getD 0) = false := by
  have h1 : (srest l).all (fun c => !isE c) = true := by
    rw [List.all_eq_true]
    intro c hc
    have := List.any_eq_false.1 h c hc
    simpa using this
  refine ⟨(tw_all _ _ h1).1, fun i hi => ?_⟩
  have := List.all_eq_true.1 h1 _ (List.getElem_mem hi)
  rw [List.getElem?_eq_getElem hi]
  simpa using this
theorem lit_split {l : List UInt8} (h : hasE l = true) : ∃ c : UInt8, (lman l).length < (srest l).length ∧ isE ((srest l)[(lman l).length]?.getD 0) = true ∧ (∀ i, i < (lman l).length → isE ((srest l)[i]?.getD 0) = false) ∧ lexp l = (srest l).drop ((lman l).length + 1) := by
  unfold lexp lman hasE at *
  generalize srest l = s at *
  induction s with
  | nil => cases h
  | cons c s ih =>
    by_cases hc : isE c = true
    · exact ⟨c, by simp [hc], by simp [hc], by simp [hc], by simp [hc]⟩
    · have hc' : isE c = false := by simpa using hc
      simp only [List.any_cons, hc', Bool.false_or] at h
      obtain ⟨d, h1, h2, h3, h4⟩ := ih h
      have e1 : (c :: s).takeWhile (fun c => !isE c) = c :: s.takeWhile (fun c => !isE c) := by simp [List.takeWhile_cons, hc']
      have e2 : (c :: s).dropWhile (fun c => !isE c) = s.dropWhile (fun c => !isE c) := by simp [List.dropWhile_cons, hc']
      rw [e1, e2]
      refine ⟨d, by simp only [List.length_cons]; omega, by simpa using h2, ?_, by simpa using h4⟩
      intro i hi
      cases i with
      | zero => simpa using hc'
      | succ i => simpa using h3 i (by simp only [List.length_cons] at hi; omega)
theorem notE_bytes {c : UInt8} (h : isE c = false) : ((c.toNat : Int) == 101) = false ∧ ((c.toNat : Int) == 69) = false := by
  simp only [isE, Bool.or_eq_false_iff, beq_eq_false_iff_ne] at h
  refine ⟨?_, ?_⟩
  · rw [beq_eq_false_iff_ne]; intro e; apply h.1; rw [← UInt8.toNat_inj]; show c.toNat = 101; omega
  · rw [beq_eq_false_iff_ne]; intro e; apply h.2; rw [← UInt8.toNat_inj]; show c.toNat = 69; omega
theorem isE_two {c : UInt8} (h : isE c = true) : c = 101 ∨ c = 69 := by simpa [isE] using h
def CutPost (w : World) (l : List UInt8) (e : Ending) (w' : World) : Prop := e = .returned (.tuple #[litV l, .bool (litIs l)]) ∧ Below w.heap.size w w'
end Go.Proofs.YtafmhoeammbemaaDoor
