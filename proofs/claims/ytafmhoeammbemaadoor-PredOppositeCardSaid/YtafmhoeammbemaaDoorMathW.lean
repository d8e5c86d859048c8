/-
  Plain facts on values: may they be, their texts, what a text says.
-/
import Derived.Test.YtafmhoeammbemaaDoorMathV
namespace Go.Proofs.YtafmhoeammbemaaDoor
open Go.RowKit
set_option linter.unusedVariables false
set_option linter.unusedSimpArgs false

/-- A value: its kind, its number's text, its category. -/
abbrev valV (k : Int) (n c : List UInt8) : Value := .agg #[.int .i64 k, .string ⟨n.toArray⟩, .string ⟨c.toArray⟩]
structure V3 where
  k : Int
  n : List UInt8
  c : List UInt8
def vnum (k : Int) (n c : List UInt8) : Bool := decide (k = 1) && (decide (c = []) && decide (qcode n = 0))
def vvalid (k : Int) (n c : List UInt8) : Bool := if k = 0 then decide (n = []) && decide (c = []) else if k = 2 then decide (n = []) && decide (c.length ≤ 60) else vnum k n c
def vtext (k : Int) (n c : List UInt8) : List UInt8 := if vvalid k n c = true then (if k = 0 then [63] else if k = 2 then 58 :: c else n) else [33]
/-- What a text says: the code, the kind, the number's text, the category. -/
def vpc (s : List UInt8) : Int := if s = [63] then 0 else if s.head? = some 58 then (if 60 < s.tail.length then 3 else 0) else if qcode s = 0 then 0 else litCode s
def vpk (s : List UInt8) : Int := if s = [63] then 0 else if s.head? = some 58 then (if 60 < s.tail.length then 0 else 2) else if qcode s = 0 then 1 else if litCode s = 0 then 1 else 0
def vpn (s : List UInt8) : List UInt8 := if s = [63] then [] else if s.head? = some 58 then [] else if qcode s = 0 then qtext (qval s) else if litCode s = 0 then qtext (litVal s) else []
def vpcat (s : List UInt8) : List UInt8 := if s = [63] then [] else if s.head? = some 58 then (if 60 < s.tail.length then [] else s.tail) else []
theorem qcode_text {s : List UInt8} (h : qcode s = 0) : qtext (qval s) = s := by
  unfold qval
  rw [if_pos h]
  unfold qcode at h
  split at h
  · cases h
  · split at h
    · cases h
    · split at h
      · cases h
      · split at h
        · cases h
        · rename_i h4
          exact Classical.byContradiction fun h5 => h4 h5
theorem qtext_head (q : Rat) (c : UInt8) (hc : isDig c = false) (h45 : c ≠ 45) : (qtext q).head? ≠ some c := by
  unfold qtext
  split
  · intro h
    simp at h
    exact h45 h.symm
  · rw [List.nil_append]
    exact dec_head_ne _ c hc _
theorem qcode_head {s : List UInt8} (h : qcode s = 0) : s ≠ [63] ∧ s.head? ≠ some 58 := by
  have h1 := qcode_text h
  constructor
  · intro e
    have := qtext_head (qval s) 63 (by decide) (by decide)
    rw [h1, e] at this
    exact this rfl
  · rw [← h1]
    exact qtext_head _ 58 (by decide) (by decide)
theorem vparse_num {s : List UInt8} (h : qcode s = 0) : vpc s = 0 ∧ vpk s = 1 ∧ vpn s = s ∧ vpcat s = [] := by
  have h1 := qcode_head h
  unfold vpc vpk vpn vpcat
  rw [if_neg h1.1, if_neg h1.1, if_neg h1.1, if_neg h1.1, if_neg h1.2, if_neg h1.2, if_neg h1.2, if_neg h1.2, if_pos h, if_pos h, if_pos h, qcode_text h]
  exact ⟨rfl, rfl, rfl, rfl⟩
/-- What is told of a value that may be is read as it was. -/
theorem vback {k : Int} {n c : List UInt8} (h : vvalid k n c = true) : vpc (vtext k n c) = 0 ∧ vpk (vtext k n c) = k ∧ vpn (vtext k n c) = n ∧ vpcat (vtext k n c) = c := by
  have ht : vtext k n c = if k = 0 then [63] else if k = 2 then 58 :: c else n := by unfold vtext; rw [if_pos h]
  rw [ht]
  unfold vvalid at h
  by_cases h0 : k = 0
  · rw [if_pos h0] at h ⊢
    simp only [Bool.and_eq_true, decide_eq_true_eq] at h
    subst h0
    rw [h.1, h.2]
    exact ⟨rfl, rfl, rfl, rfl⟩
  · rw [if_neg h0] at h ⊢
    by_cases h2 : k = 2
    · rw [if_pos h2] at h ⊢
      simp only [Bool.and_eq_true, decide_eq_true_eq] at h
      subst h2
      rw [h.1]
      have e1 : (58 :: c : List UInt8) ≠ [63] := by intro e; injection e with e; exact absurd e (by decide)
      have e2 : (58 :: c : List UInt8).head? = some 58 := rfl
      have e3 : ¬ 60 < (58 :: c : List UInt8).tail.length := by show ¬ 60 < c.length; omega
      unfold vpc vpk vpn vpcat
      rw [if_neg e1, if_neg e1, if_neg e1, if_neg e1, if_pos e2, if_pos e2, if_pos e2, if_pos e2, if_neg e3, if_neg e3, if_neg e3]
      exact ⟨rfl, rfl, rfl, rfl⟩
    · rw [if_neg h2] at h ⊢
      unfold vnum at h
      simp only [Bool.and_eq_true, decide_eq_true_eq] at h
      have := vparse_num h.2.2
      rw [h.1, h.2.1]
      exact this
theorem vtext_bad {k : Int} {n c : List UInt8} (h : vvalid k n c = false) : vtext k n c = [33] := by
  unfold vtext; rw [h]; rfl
theorem vtext_len (k : Int) (n c : List UInt8) : (vtext k n c).length ≤ n.length + c.length + 1 := by
  unfold vtext
  split
  · split
    · simp
    · split
      · simp only [List.length_cons]; omega
      · omega
  · simp
end Go.Proofs.YtafmhoeammbemaaDoor
