/-
  Plain facts on fractions (4): whole parts and rounding, as the laws ask.
-/
import Derived.Test.YtieffhkfefimeaaGreatDoorMathS
namespace Go.Proofs.YtieffhkfefimeaaGreatDoor
set_option linter.unusedVariables false
set_option linter.unusedSimpArgs false

theorem qround_den (a : Rat) : (qround a).den = 1 := by
  unfold qround
  rw [qOf_one]; rfl
theorem near_pos {a : Rat} (h : decide (a < 0) = false) : qround a ≤ a + half ∧ a + half < qround a + 1 := by
  rw [← qround_pos h]
  refine ⟨Rat.floor_le _, ?_⟩
  have := Rat.lt_floor_add_one (a + half)
  rwa [Rat.intCast_add] at this
/-- How far a number is from the nearest whole one. -/
def dist (a : Rat) : Rat := if qround a - a < 0 then 0 - (qround a - a) else qround a - a
theorem dist_pos {a : Rat} (h : decide (a < 0) = false) : dist a ≤ half ∧ (dist a = half → a < qround a) := by
  have h1 := near_pos h
  have h2 := half_two
  unfold dist
  generalize qround a = r at *
  generalize half = k at *
  split <;> constructor <;> grind
theorem dist_neg (a : Rat) : dist (-a) = dist a := by
  unfold dist
  rw [qround_neg]
  generalize qround a = r at *
  split <;> split <;> grind
theorem dist_le (a : Rat) : dist a ≤ half := by
  cases h : decide (a < 0)
  · exact (dist_pos h).1
  · rw [← dist_neg]
    exact (dist_pos (by rw [qneg_sign, h]; rfl)).1
theorem dist_half {a : Rat} (hd : dist a = half) : (decide (a < 0) = true → qround a < a) ∧ (decide (a < 0) = false → a < qround a) := by
  refine ⟨fun h => ?_, fun h => (dist_pos h).2 hd⟩
  have h1 := (dist_pos (a := -a) (by rw [qneg_sign, h]; rfl)).2 (by rw [dist_neg]; exact hd)
  rw [qround_neg] at h1
  generalize qround a = r at *
  grind
theorem qcmp_lt {a b : Rat} (h : a < b) : qcmp a b = -1 := by unfold qcmp; rw [if_pos h]
theorem qcmp_gt {a b : Rat} (h : b < a) : qcmp a b = 1 := by
  unfold qcmp
  rw [if_neg (Rat.not_lt.2 (Std.le_of_lt h)), if_pos h]
theorem qcmp_eq (a : Rat) : qcmp a a = 0 := by
  unfold qcmp
  rw [if_neg Rat.lt_irrefl, if_neg Rat.lt_irrefl]
theorem qcmp_le {a b : Rat} (h : a ≤ b) : qcmp a b ≤ 0 := by
  unfold qcmp
  split
  · decide
  · rw [if_neg (Rat.not_lt.2 h)]; decide
theorem qcmp_ge {a b : Rat} (h : b ≤ a) : 0 ≤ qcmp a b := by
  unfold qcmp
  rw [if_neg (Rat.not_lt.2 h)]
  split <;> decide
theorem qcmp_anti (a b : Rat) : qcmp b a = -qcmp a b := by
  unfold qcmp
  by_cases h1 : a < b <;> by_cases h2 : b < a <;> simp [h1, h2]
  grind
theorem qcmp_sub (a b : Rat) : qcmp (a - b) 0 = qcmp a b := by
  unfold qcmp
  have h1 : a - b < 0 ↔ a < b := by constructor <;> intro h <;> grind
  have h2 : 0 < a - b ↔ b < a := by constructor <;> intro h <;> grind
  simp only [h1, h2]
theorem qcmp_three (a b : Rat) : qcmp a b = -1 ∨ qcmp a b = 0 ∨ qcmp a b = 1 := by
  unfold qcmp; split <;> (try split) <;> simp
theorem floor_near (a : Rat) : (a.floor : Rat) ≤ a ∧ a < (a.floor : Rat) + ((1 : Int) : Rat) := by
  refine ⟨Rat.floor_le _, ?_⟩
  have := Rat.lt_floor_add_one a
  rwa [Rat.intCast_add] at this
theorem ceil_near (a : Rat) : a ≤ -((-a).floor : Rat) := by
  have := (floor_near (-a)).1
  generalize ((-a).floor : Rat) = f at *
  grind
theorem law_dist (a b c : Rat) : a * (b + c) = a * b + a * c := Rat.mul_add a b c
theorem law_back (a b : Rat) : a - b + b = a := by grind
theorem law_div {a b : Rat} (h : b ≠ 0) : a / b * b = a := Rat.div_mul_cancel h
theorem law_self (a : Rat) : a - a = 0 := by grind
end Go.Proofs.YtieffhkfefimeaaGreatDoor
