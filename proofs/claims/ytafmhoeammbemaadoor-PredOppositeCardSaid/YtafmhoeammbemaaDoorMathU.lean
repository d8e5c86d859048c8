/-
  Plain facts on decimal literals (3): what the document's own reading finds, one byte behind the other, is what the parts of the literal are.
-/
import Derived.Test.YtafmhoeammbemaaDoorMathE
namespace Go.Proofs.YtafmhoeammbemaaDoor
open Go.RowKit
set_option linter.unusedVariables false
set_option linter.unusedSimpArgs false

def scanD : List UInt8 → Bool → List UInt8 × Nat × List UInt8
  | [], _ => ([], 0, [])
  | c :: t, pt => if isDig c = true then (c :: (scanD t pt).1, (if pt = true then 1 else 0) + (scanD t pt).2.1, (scanD t pt).2.2) else if c = 46 ∧ pt = false then scanD t true else ([], 0, c :: t)
theorem scan_pt (l : List UInt8) : scanD l true = (l.takeWhile isDig, (l.takeWhile isDig).length, l.dropWhile isDig) := by
  induction l with
  | nil => rfl
  | cons c t ih =>
    unfold scanD
    by_cases h : isDig c = true
    · rw [if_pos h, ih]; simp [List.takeWhile_cons, List.dropWhile_cons, h]; omega
    · rw [if_neg h, if_neg (by simp)]; simp [List.takeWhile_cons, List.dropWhile_cons, h]
theorem scan_end (l : List UInt8) (h : l.dropWhile isDig = []) : scanD l false = (l.takeWhile isDig, 0, []) := by
  induction l with
  | nil => rfl
  | cons c t ih =>
    by_cases hc : isDig c = true
    · simp only [List.dropWhile_cons, hc, if_true] at h
      unfold scanD
      rw [if_pos hc, ih h]; simp [List.takeWhile_cons, hc]
    · simp only [List.dropWhile_cons, hc, if_false] at h; simp at h
theorem scan_stop (l : List UInt8) (c : UInt8) (t : List UInt8) (h : l.dropWhile isDig = c :: t) : isDig c = false ∧ l = l.takeWhile isDig ++ c :: t ∧ scanD l false = if c = 46 then (l.takeWhile isDig ++ t.takeWhile isDig, (t.takeWhile isDig).length, t.dropWhile isDig) else (l.takeWhile isDig, 0, c :: t) := by
  refine ⟨?_, by rw [← h, List.takeWhile_append_dropWhile], ?_⟩
  · have := List.head?_dropWhile_not isDig l
    rw [h] at this
    simpa using this
  induction l with
  | nil => simp at h
  | cons x l ih =>
    by_cases hx : isDig x = true
    · simp only [List.dropWhile_cons, hx, if_true] at h
      unfold scanD
      rw [if_pos hx, ih h]
      split <;> simp [List.takeWhile_cons, hx]
    · simp only [List.dropWhile_cons, hx] at h
      simp only [Bool.false_eq_true, if_false] at h
      injection h with h1 h2
      subst h1; subst h2
      unfold scanD
      rw [if_neg hx]
      by_cases h46 : x = 46
      · rw [if_pos ⟨h46, rfl⟩, if_pos h46, scan_pt]; simp [List.takeWhile_cons, hx]
      · rw [if_neg (fun h => h46 h.1), if_neg h46]; simp [List.takeWhile_cons, hx]
def dDig (l : List UInt8) : List UInt8 := (scanD (srest l) false).1
def dBeh (l : List UInt8) : Nat := (scanD (srest l) false).2.1
def dRest (l : List UInt8) : List UInt8 := (scanD (srest l) false).2.2
theorem tw_digs (l : List UInt8) : (l.takeWhile isDig).all isDig = true := List.all_takeWhile ..
/-- The four ways in which the document's reading ends. -/
theorem doc_lit (l : List UInt8) :
    (dRest l = [] ∧ hasE l = false ∧ lall l = dDig l ∧ (lbehind l).length = dBeh l) ∨
    (∃ c t, dRest l = c :: t ∧ isE c = true ∧ hasE l = true ∧ lexp l = t ∧ lall l = dDig l ∧ (lbehind l).length = dBeh l) ∨
    (∃ c t, dRest l = c :: t ∧ isE c = false ∧ litIs l = false) := by
  unfold dRest dDig dBeh
  have hsplit : ∀ (X Y : List UInt8) (c : UInt8), srest l = X ++ c :: Y → X.all (fun c => !isE c) = true → isE c = true → hasE l = true ∧ lman l = X ∧ lexp l = Y := by
    intro X Y c h hX hc
    have := tw_stop (fun c => !isE c) X Y c hX (by simp [hc])
    refine ⟨?_, by unfold lman; rw [h, this.1], by unfold lexp; rw [h, this.2]; rfl⟩
    unfold hasE; rw [h, List.any_append, List.any_cons, hc]; simp
  have hwhole : ∀ X : List UInt8, srest l = X → X.all (fun c => !isE c) = true → hasE l = false ∧ lman l = X := by
    intro X h hX
    exact ⟨by unfold hasE; rw [h]; exact any_not isE _ hX, by unfold lman; rw [h]; exact (tw_all _ _ hX).1⟩
  have hbad : ∀ c, c ∈ lall l → isDig c = false → litIs l = false := by
    intro c hc hd
    rcases hl : litIs l with _ | _
    · rfl
    · have := List.all_eq_true.1 (litIs_parts hl).2.2.1 c hc
      rw [hd] at this; cases this
  have hdigE : ∀ A : List UInt8, A.all isDig = true → A.all (fun c => !isE c) = true := fun A h => all_imp h (fun c => dig_notE)
  have hdig46 : ∀ A : List UInt8, A.all isDig = true → A.all (fun c => c != 46) = true := fun A h => all_imp h (fun c => dig_ne46)
  generalize hb : srest l = body at *
  have hA := tw_digs body
  rcases hR : body.dropWhile isDig with _ | ⟨c, t⟩
  · rw [scan_end body hR]
    have e : body = body.takeWhile isDig := by conv => lhs; rw [← List.takeWhile_append_dropWhile (p := isDig) (l := body), hR, List.append_nil]
    generalize body.takeWhile isDig = A at *
    have h1 := hwhole A e (hdigE A hA)
    have h2 := tw_all (· != 46) A (hdig46 A hA)
    refine Or.inl ⟨rfl, h1.1, ?_, ?_⟩
    · unfold lall lahead lbehind; rw [h1.2, h2.1, h2.2]; simp
    · unfold lbehind; rw [h1.2, h2.2]; rfl
  · have hs := scan_stop body c t hR
    rw [hs.2.2]
    have e := hs.2.1
    generalize body.takeWhile isDig = A at *
    by_cases h46 : c = 46
    · subst h46
      rw [if_pos rfl]
      have hB := tw_digs t
      have eB : t = t.takeWhile isDig ++ t.dropWhile isDig := (List.takeWhile_append_dropWhile).symm
      generalize hBB : t.takeWhile isDig = B at *
      have hw := tw_stop (· != 46) A B 46 (hdig46 A hA) rfl
      have hnE : (A ++ 46 :: B).all (fun c => !isE c) = true := by rw [List.all_append, List.all_cons, hdigE A hA, hdigE B hB]; rfl
      rcases hR2 : t.dropWhile isDig with _ | ⟨x, u⟩
      · rw [hR2, List.append_nil] at eB
        rw [eB] at e
        have h1 := hwhole _ e hnE
        refine Or.inl ⟨rfl, h1.1, ?_, ?_⟩
        · unfold lall lahead lbehind; rw [h1.2, hw.1, hw.2]; rfl
        · unfold lbehind; rw [h1.2, hw.2]; rfl
      · have hx := (scan_stop t x u hR2).1
        rw [hR2] at eB
        rw [eB] at e
        rcases hxE : isE x with _ | _
        · refine Or.inr (Or.inr ⟨x, u, rfl, hxE, hbad x ?_ hx⟩)
          have hman : lman l = A ++ 46 :: (B ++ x :: u.takeWhile (fun c => !isE c)) := by
            unfold lman
            rw [hb, e, List.takeWhile_append_of_pos (List.all_eq_true.1 (hdigE A hA)), List.takeWhile_cons_of_pos (by rfl), List.takeWhile_append_of_pos (List.all_eq_true.1 (hdigE B hB)), List.takeWhile_cons_of_pos (by simp [hxE])]
          have hw2 := tw_stop (· != 46) A (B ++ x :: u.takeWhile (fun c => !isE c)) 46 (hdig46 A hA) rfl
          unfold lall lahead lbehind
          rw [hman, hw2.1, hw2.2]
          simp
        · have e2 : body = (A ++ 46 :: B) ++ x :: u := by rw [e]; simp
          have h1 := hsplit _ u x e2 hnE hxE
          refine Or.inr (Or.inl ⟨x, u, rfl, hxE, h1.1, h1.2.2, ?_, ?_⟩)
          · unfold lall lahead lbehind; rw [h1.2.1, hw.1, hw.2]; rfl
          · unfold lbehind; rw [h1.2.1, hw.2]; rfl
    · rw [if_neg h46]
      rcases hxE : isE c with _ | _
      · refine Or.inr (Or.inr ⟨c, t, rfl, hxE, hbad c ?_ hs.1⟩)
        have hman : lman l = A ++ c :: t.takeWhile (fun c => !isE c) := by
          unfold lman
          rw [hb, e, List.takeWhile_append_of_pos (List.all_eq_true.1 (hdigE A hA)), List.takeWhile_cons_of_pos (by simp [hxE])]
        unfold lall lahead
        rw [hman, List.takeWhile_append_of_pos (List.all_eq_true.1 (hdig46 A hA)), List.takeWhile_cons_of_pos (by simp [h46])]
        simp
      · have h1 := hsplit _ t c e (hdigE A hA) hxE
        have h2 := tw_all (· != 46) A (hdig46 A hA)
        refine Or.inr (Or.inl ⟨c, t, rfl, hxE, h1.1, h1.2.2, ?_, ?_⟩)
        · unfold lall lahead lbehind; rw [h1.2.1, h2.1, h2.2]; simp
        · unfold lbehind; rw [h1.2.1, h2.2]; rfl

/-! The exponent's digits, held below a bound. -/
def satx (l : List UInt8) : Nat := min (dnum l) 1000
theorem satx_snoc (l : List UInt8) (c : UInt8) : min (satx l * 10 + (c.toNat - 48)) 1000 = satx (l ++ [c]) := by
  unfold satx; rw [dnum_snoc]; omega
theorem satx_le (l : List UInt8) : satx l ≤ 1000 := Nat.min_le_right _ _
theorem satx_more (l : List UInt8) : (400 < satx l ↔ 400 < dnum l) ∧ (satx l ≤ 400 → satx l = dnum l) := by unfold satx; omega
end Go.Proofs.YtafmhoeammbemaaDoor
