import Derived.Test.YtieffhkfefimeaaGreatDoorComN
namespace Go.Proofs.YtieffhkfefimeaaGreatDoor
open Go.RowKit
set_option linter.unusedVariables false
set_option linter.unusedSimpArgs false
/-- What is left of the room. -/
def roomL : Int → List Nat → Int
  | n, [] => n
  | n, k :: ks => if n < 0 ∨ n < (k : Int) then -1 else roomL (n - k) ks
theorem roomL_neg (ks : List Nat) {n : Int} (h : n < 0) : roomL n ks < 0 := by
  cases ks with
  | nil => exact h
  | cons k ks => unfold roomL; rw [if_pos (.inl h)]; omega
theorem roomL_drop {n : Int} {ks : List Nat} {i : Nat} (hi : i < ks.length) : roomL n (ks.drop i) = if n < 0 ∨ n < ((ks[i]?.getD 0 : Nat) : Int) then -1 else roomL (n - (ks[i]?.getD 0 : Nat)) (ks.drop (i + 1)) := by
  rw [List.drop_eq_getElem_cons hi, List.getElem?_eq_getElem hi]; rfl
/-- How long the texts are, all together. -/
def total (ls : List (List UInt8)) : Nat := (ls.map List.length).sum
theorem total_drop {ls : List (List UInt8)} {i : Nat} (hi : i < ls.length) : total (ls.drop i) = (ls[i]?.getD []).length + total (ls.drop (i + 1)) := by
  unfold total
  rw [List.drop_eq_getElem_cons hi, List.getElem?_eq_getElem hi, List.map_cons, List.sum_cons]
  rfl
/-- Few enough, and short enough? -/
def shortB (most room : Nat) (ls : List (List UInt8)) : Bool := decide (ls.length ≤ most ∧ total ls ≤ room)
theorem shortB_yes {most room : Nat} {ls : List (List UInt8)} (h1 : ls.length ≤ most) (h2 : total ls ≤ room) : shortB most room ls = true := decide_eq_true ⟨h1, h2⟩
theorem shortB_no {most room : Nat} {ls : List (List UInt8)} (h : ¬ ls.length ≤ most ∨ ¬ total ls ≤ room) : shortB most room ls = false := decide_eq_false (fun h2 => h.elim (fun h3 => h3 h2.1) (fun h3 => h3 h2.2))
theorem total_mem {ls : List (List UInt8)} {l : List UInt8} (h : l ∈ ls) : l.length ≤ total ls := by
  unfold total
  induction ls with
  | nil => simp at h
  | cons x xs ih =>
    rcases List.mem_cons.1 h with rfl | h1
    · simp
    · have := ih h1; simp; omega
end Go.Proofs.YtieffhkfefimeaaGreatDoor
