import Derived.Test.YtafmhoeammbemaaDoorRefR
import Derived.Test.YtafmhoeammbemaaDoorMathT
import Derived.Test.YtafmhoeammbemaaDoorSeqB
namespace Go.Proofs.YtafmhoeammbemaaDoor
open Go.RowKit
set_option linter.unusedVariables false
set_option linter.unusedSimpArgs false
attribute [local go_sem] field_nat
theorem cmp_c (va vc : Value) (a c : Rat) (k : Int) (i j : Nat) (w : World) (ha : QIs w va a) (hc : QIs w vc c) (hla : QB a i) (hlc : QB c j) (hij : i + j ≤ 90000) (hk : Hid (qcmp a c = k)) :
    Calls Tryd.prog 25 #[va, vc] w fun e w' => e = .returned (.int .i64 k) ∧ Below w.heap.size w w' := by
  have := qcmp_any va vc a c i j w ha hc hla hlc hij
  rwa [hk.out] at this
theorem whole_yes (va : Value) (a : Rat) (w : World) (ha : QIs w va a) (hb : Hid (a.den = 1)) :
    Calls Tryd.prog 59 #[va] w fun e w' => e = .returned (.bool true) ∧ Below w.heap.size w w' := by
  have := whole_any va a w ha
  rwa [decide_eq_true hb.out] at this
theorem qcode_cases (l : List UInt8) : qcode l = 0 ∨ qcode l = 2 ∨ qcode l = 3 := by
  unfold qcode
  repeat' split
  all_goals simp
theorem qneg_zero_sub (a : Rat) : 0 - a = -a := by grind
end Go.Proofs.YtafmhoeammbemaaDoor
