import Derived.Test.YtafmhoeammbemaaDoorDecB
import Derived.Deep.DeepCutAuto
import Derived.WalkMore
import Derived.Laws.StructEq
namespace Go.Proofs.YtafmhoeammbemaaDoor
open Go.RowKit
set_option linter.unusedVariables false
set_option linter.unusedSimpArgs false
attribute [local go_sem] field_nat
theorem trim0_b (l : List UInt8) (t : List UInt8) (w : World) (hl : l.length ≤ 1000000000) (ht : Hid (t = l.dropWhile (· == 48))) :
    Calls Tryd.prog 68 #[.string ⟨l.toArray⟩, .string ⟨#[48]⟩] w fun e w' => e = .returned (.string ⟨t.toArray⟩) ∧ Below w.heap.size w w' := by
  rw [ht.out]
  refine (trimLeft0_any l w hl).mono ?_
  rintro e w' ⟨rfl, rfl⟩
  exact ⟨rfl, Below.refl _ _⟩
theorem nparse_ok (l : List UInt8) (n : Nat) (w : World) (hl : l.length ≤ 1000000000) (h : Hid (pcode l = 0 ∧ pval l = n)) :
    Calls Tryd.prog 43 #[.string ⟨l.toArray⟩] w fun e w' => ∃ r, e = .returned (.tuple #[r, .int .i64 0]) ∧ NatIs w' r n ∧ Below w.heap.size w w' := by
  have := parse_any l w (by omega)
  rwa [h.out.1, h.out.2] at this
theorem limbs_ten (k : Nat) {K : Nat} (h : k < K) : (limbs (10 ^ k)).length ≤ K := limbs_pow10 (Nat.pow_lt_pow_right (by decide) h)
theorem litQ_zero (s : Bool) (k : Int) : litQ s 0 k = 0 := by
  unfold litQ
  split
  · exact qOf_zero _ _
  · rw [Nat.zero_mul]; exact qOf_zero _ _
theorem litQ_neg {s : Bool} {n : Nat} {k : Int} {m : Nat} (h : k < 0) (hm : m = k.natAbs) : litQ s n k = qOf s n (10 ^ m) := by
  unfold litQ; rw [if_pos h, hm]
theorem litQ_pos {s : Bool} {n : Nat} {k : Int} {m : Nat} (h : ¬ k < 0) (hm : m = k.natAbs) : litQ s n k = qOf s (n * 10 ^ m) 1 := by
  unfold litQ; rw [if_neg h, hm]
end Go.Proofs.YtafmhoeammbemaaDoor
