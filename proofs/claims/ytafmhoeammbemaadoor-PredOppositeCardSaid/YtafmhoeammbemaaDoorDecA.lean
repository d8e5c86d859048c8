import Derived.Test.YtafmhoeammbemaaDoorRatD
import Derived.Test.YtafmhoeammbemaaDoorHeapG
import Derived.Test.YtafmhoeammbemaaDoorStrD
import Derived.Test.YtafmhoeammbemaaDoorMathE
import Derived.Deep.DeepCutAuto
import Derived.WalkMore
namespace Go.Proofs.YtafmhoeammbemaaDoor
open Go.RowKit
set_option linter.unusedVariables false
set_option linter.unusedSimpArgs false
attribute [local go_sem] field_nat
def trim43 (l : List UInt8) : List UInt8 := if l.head? = some 43 then l.tail else l
theorem strip_len {s : List UInt8} (h : numOk s = true) (h2 : dnum s < 10 ^ 3) : s.length ≤ 3 := by
  have h3 := dec_dnum s h
  have h4 := dec_le h2 (by decide)
  rw [← h3, List.length_map]; exact h4
theorem take_lt {s : List UInt8} (h : s.all isDig = true) (k : Nat) (hk : s.length ≤ 3) : dnum (s.take k) < 1000 := by
  have h1 := dnum_lt (s.take k) (take_drop_digs h k).1
  have h2 : (s.take k).length ≤ 3 := by rw [List.length_take]; omega
  have h3 := pow10_le h2
  omega
theorem take_dnum {s : List UInt8} {k : Nat} (hk : k < s.length) : dnum (s.take (k + 1)) = dnum (s.take k) * 10 + ((s[k]?.getD 0).toNat - 48) := by
  rw [List.take_add_one, List.getElem?_eq_getElem hk]
  simp only [Option.toList_some, Option.getD_some]
  exact dnum_snoc _ _
theorem blen10 (k K : Nat) (h : 4 * k < K) : blen (10 ^ k) ≤ K := by
  apply blen_le
  have h3 : (10 : Nat) ^ k ≤ 16 ^ k := Nat.pow_le_pow_left (by decide) _
  have h4 : (16 : Nat) ^ k = 2 ^ (4 * k) := by rw [Nat.pow_mul]
  have h5 : (2 : Nat) ^ (4 * k) < 2 ^ K := Nat.pow_lt_pow_right (by decide) h
  omega
theorem pow10_ok (k : Nat) (hk : k < 2500) : powC 10 (k : Int) = 0 ∧ powV 10 (k : Int) = 10 ^ k := by
  have e : (k : Int).toNat = k := by omega
  have h1 : powC 10 (k : Int) = 0 := by
    unfold powC
    have h5 := blen10 k 10000 (by omega)
    rw [if_neg (by omega), if_neg (by rw [e]; omega)]
  refine ⟨h1, ?_⟩
  unfold powV
  rw [if_pos h1, e]
end Go.Proofs.YtafmhoeammbemaaDoor
