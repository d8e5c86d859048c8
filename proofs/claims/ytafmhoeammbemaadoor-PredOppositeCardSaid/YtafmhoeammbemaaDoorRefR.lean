import Derived.Test.YtafmhoeammbemaaDoorRefQ
namespace Go.Proofs.YtafmhoeammbemaaDoor
open Go.RowKit
set_option linter.unusedVariables false
set_option linter.unusedSimpArgs false
attribute [local go_sem] field_nat
theorem str3 : str (dec 3) = [51] := str_dec (l := [51]) (by decide)
theorem str2 : str (dec 2) = [50] := str_dec (l := [50]) (by decide)
theorem str5 : str (dec 5) = [53] := str_dec (l := [53]) (by decide)
theorem str7 : str (dec 7) = [55] := str_dec (l := [55]) (by decide)
theorem qt_a : qtext (qOf true 6 4) = [45, 51, 47, 50] := by
  unfold qtext
  rw [show decide (qOf true 6 4 < 0) = true by decide, show (qOf true 6 4).num.natAbs = 3 by decide, show (qOf true 6 4).den = 2 by decide, str3, str2]; rfl
theorem qt_b : qtext (qOf true 5 2) = [45, 53, 47, 50] := by
  unfold qtext
  rw [show decide (qOf true 5 2 < 0) = true by decide, show (qOf true 5 2).num.natAbs = 5 by decide, show (qOf true 5 2).den = 2 by decide, str5, str2]; rfl
theorem qt_c : qtext (qround (qOf true 5 2)) = [45, 51] := by
  have h : qround (qOf true 5 2) = qOf true 3 1 := by
    unfold qround
    rw [show decide (qOf true 5 2 < 0) = true by decide, show (qOf true 5 2).num.natAbs = 5 by decide, show (qOf true 5 2).den = 2 by decide]
  rw [h]
  unfold qtext
  rw [show decide (qOf true 3 1 < 0) = true by decide, show (qOf true 3 1).num.natAbs = 3 by decide, show (qOf true 3 1).den = 1 by decide, str3]; rfl
theorem qt_d : qtext ((-7 : Int) : Rat) = [45, 55] := by
  rw [← of_neg (-7) (by decide)]
  unfold qtext
  rw [show decide (qOf true (-7 : Int).natAbs 1 < 0) = true by decide, show (qOf true (-7 : Int).natAbs 1).num.natAbs = 7 by decide, show (qOf true (-7 : Int).natAbs 1).den = 1 by decide, str7]; rfl
theorem qt_z : qtext 0 = [48] := by
  unfold qtext
  rw [show decide ((0 : Rat) < 0) = false by decide, show (0 : Rat).num.natAbs = 0 by decide, show (0 : Rat).den = 1 by decide, str_dec_zero]; rfl
theorem dec_small {n : Nat} (h : n < 10) : (dec n).length ≤ 1200 := Nat.le_trans (dec_le (k := 1) (by omega) (by decide)) (by omega)
theorem qp_b : qcode [45, 53, 47, 50] = 0 ∧ qval [45, 53, 47, 50] = qOf true 5 2 := by
  rw [← qt_b]
  exact qparse_text _ (dec_small (by decide)) (dec_small (by decide))
theorem QB.small {neg : Bool} {n d k : Nat} (hn : n < 4294967296) (hd : d < 4294967296) (h0 : 0 < d) (hk : 1 ≤ k) : QB (qOf neg n d) k := QB.of _ (limbs_bound hn hk) (limbs_bound hd hk) h0
theorem QB.int {v : Int} {k : Nat} (h : v.natAbs < 18446744073709551616) (hk : 2 ≤ k) : QB (v : Rat) k := by
  have hl : (limbs v.natAbs).length ≤ k := Nat.le_trans (limbs_length_le (k := 2) (by omega)) hk
  rcases (show v < 0 ∨ 0 ≤ v by omega) with h0 | h0
  · rw [← of_neg v h0]; exact QB.of _ hl (limbs_bound (by decide) (by omega)) (by decide)
  · rw [← of_pos v h0]; exact QB.of _ hl (limbs_bound (by decide) (by omega)) (by decide)
theorem of_six (w : World) : Calls Tryd.prog 60 #[.int .u64 6] w fun e w' => ∃ r, e = .returned r ∧ NatIs w' r 6 ∧ Below w.heap.size w w' := of_any 6 w (by decide)
theorem of_four (w : World) : Calls Tryd.prog 60 #[.int .u64 4] w fun e w' => ∃ r, e = .returned r ∧ NatIs w' r 4 ∧ Below w.heap.size w w' := of_any 4 w (by decide)
theorem lim1 {n : Nat} (h : n < 4294967296) : (limbs n).length ≤ 1000000 := limbs_bound h (by omega)
end Go.Proofs.YtafmhoeammbemaaDoor
