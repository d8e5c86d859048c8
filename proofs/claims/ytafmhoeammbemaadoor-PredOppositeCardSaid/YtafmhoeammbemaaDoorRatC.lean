import Derived.Test.YtafmhoeammbemaaDoorRatB
import Derived.Test.YtafmhoeammbemaaDoorMathS
import Derived.Test.YtafmhoeammbemaaDoorSeqT
namespace Go.Proofs.YtafmhoeammbemaaDoor
open Go.RowKit
set_option linter.unusedVariables false
set_option linter.unusedSimpArgs false
attribute [local go_sem] field_nat
theorem floor_keep {a : Rat} {s : Bool} (hs : Hid (s = decide (a < 0))) (h : (s && !decide (a.num.natAbs % a.den = 0)) = false) : qOf s (a.num.natAbs / a.den) 1 = (a.floor : Rat) := by
  have h1 := qfloor_is a
  rw [← hs.out, if_neg (by rw [h]; simp)] at h1
  exact h1
theorem floor_up {a : Rat} (hs : Hid (true = decide (a < 0))) (h : ¬ a.num.natAbs % a.den = 0) : qOf true (a.num.natAbs / a.den + 1) 1 = (a.floor : Rat) := by
  have h1 := qfloor_is a
  rw [← hs.out, if_pos (by simp [h])] at h1
  exact h1
theorem of_neg (v : Int) (h : v < 0) : qOf true v.natAbs 1 = (v : Rat) := by
  rw [qOf_one]; congr 1; simp [sg]; omega
theorem of_pos (v : Int) (h : 0 ≤ v) : qOf false v.natAbs 1 = (v : Rat) := by
  rw [qOf_one]; congr 1; simp [sg]; omega
theorem of_one (w : World) : Calls Tryd.prog 60 #[.int .u64 1] w fun e w' => ∃ r, e = .returned r ∧ NatIs w' r 1 ∧ Below w.heap.size w w' := of_any 1 w (by decide)
theorem of_two (w : World) : Calls Tryd.prog 60 #[.int .u64 2] w fun e w' => ∃ r, e = .returned r ∧ NatIs w' r 2 ∧ Below w.heap.size w w' := of_any 2 w (by decide)
theorem bytes_append (l m : List UInt8) : (⟨l.toArray⟩ ++ ⟨m.toArray⟩ : ByteArray) = ⟨(l ++ m).toArray⟩ := by
  apply ByteArray.ext
  simp
end Go.Proofs.YtafmhoeammbemaaDoor
