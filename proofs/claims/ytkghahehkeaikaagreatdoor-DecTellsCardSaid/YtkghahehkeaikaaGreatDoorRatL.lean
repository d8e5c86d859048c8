/-
  What the laws on fractions share: contracts with a letter for the answer.
-/
import Derived.Test.YtkghahehkeaikaaGreatDoorRefR
import Derived.Test.YtkghahehkeaikaaGreatDoorMathT
import Derived.Test.YtkghahehkeaikaaGreatDoorSeqB
namespace Go.Proofs.YtkghahehkeaikaaGreatDoor
open Go.RowKit
set_option linter.unusedVariables false
set_option linter.unusedSimpArgs false
attribute [local go_sem] field_nat

theorem same_eq (va vc : Value) (p q : Rat) (i j : Nat) (w : World) (ha : QIs w va p) (hc : QIs w vc q) (hla : QB p i) (hlc : QB q j) (hij : i + j ≤ 90000) (hpq : Hid (p = q)) :
    Calls Tryz.prog 21 #[va, vc] w fun e w' => e = .returned (.bool true) ∧ Below w.heap.size w w' := by
  have := same_q va vc p q i j w ha hc hla hlc hij
  rwa [decide_eq_true hpq.out] at this
theorem same_b (va vc : Value) (p q : Rat) (b : Bool) (i j : Nat) (w : World) (ha : QIs w va p) (hc : QIs w vc q) (hla : QB p i) (hlc : QB q j) (hij : i + j ≤ 90000) (hb : Hid (decide (p = q) = b)) :
    Calls Tryz.prog 21 #[va, vc] w fun e w' => e = .returned (.bool b) ∧ Below w.heap.size w w' := by
  have := same_q va vc p q i j w ha hc hla hlc hij
  rwa [hb.out] at this
theorem cmp_c (va vc : Value) (a c : Rat) (k : Int) (i j : Nat) (w : World) (ha : QIs w va a) (hc : QIs w vc c) (hla : QB a i) (hlc : QB c j) (hij : i + j ≤ 90000) (hk : Hid (qcmp a c = k)) :
    Calls Tryz.prog 51 #[va, vc] w fun e w' => e = .returned (.int .i64 k) ∧ Below w.heap.size w w' := by
  have := qcmp_any va vc a c i j w ha hc hla hlc hij
  rwa [hk.out] at this
theorem neg_b (va : Value) (a : Rat) (b : Bool) (w : World) (ha : QIs w va a) (hb : Hid (decide (a < 0) = b)) :
    Calls Tryz.prog 47 #[va] w fun e w' => e = .returned (.bool b) ∧ Below w.heap.size w w' := by
  have := neg_any va a w ha
  rwa [hb.out] at this
theorem whole_yes (va : Value) (a : Rat) (w : World) (ha : QIs w va a) (hb : Hid (a.den = 1)) :
    Calls Tryz.prog 34 #[va] w fun e w' => e = .returned (.bool true) ∧ Below w.heap.size w w' := by
  have := whole_any va a w ha
  rwa [decide_eq_true hb.out] at this
theorem qcode_cases (l : List UInt8) : qcode l = 0 ∨ qcode l = 2 ∨ qcode l = 3 := by
  unfold qcode
  repeat' split
  all_goals simp
theorem qneg_zero_sub (a : Rat) : 0 - a = -a := by grind

end Go.Proofs.YtkghahehkeaikaaGreatDoor
