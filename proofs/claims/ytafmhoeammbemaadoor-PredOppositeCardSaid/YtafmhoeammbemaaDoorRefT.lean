import Derived.Test.YtafmhoeammbemaaDoorRefR
import Derived.Test.YtafmhoeammbemaaDoorMathV
import Derived.Test.YtafmhoeammbemaaDoorDecA
import Derived.Deep.DeepCutAuto
import Derived.WalkMore
import Derived.Laws.StructEq
namespace Go.Proofs.YtafmhoeammbemaaDoor
open Go.RowKit
set_option linter.unusedVariables false
set_option linter.unusedSimpArgs false
attribute [local go_sem] field_nat
theorem rcmp_f (va vb : Value) (a : Nat) (z : Int) (w : World) (ha : RIs w va a) (hb : RIs w vb 1) (hz : Hid (z = cmpI a 1)) : Calls Tryd.prog 40 #[va, vb] w fun e w' => e = .returned (.int .i64 z) ∧ Below w.heap.size w w' := by
  rw [hz.out]; exact rcmp_any va vb a 1 w ha hb
theorem rl1 {n : Nat} (h : n < 10000) : (rlimbs n).length ≤ 1 := rlimbs_length_le (k := 1) (by omega)
theorem cnt_smallr {b n K : Nat} (hb : 1 < b) (hn : 0 < n) (h : (rlimbs n).length ≤ K) : cnt b n ≤ 14 * K := by
  have h1 := cnt_eq hb n hn
  have h2 : 2 ^ cnt b n ≤ b ^ cnt b n := Nat.pow_le_pow_left (by omega) _
  have h3 : b ^ cnt b n ≤ n := by
    have := Nat.mul_le_mul (Nat.le_refl (b ^ cnt b n)) (show 1 ≤ crest b n from h1.2.2)
    rw [Nat.mul_one, ← h1.1] at this; exact this
  have h4 := lt_pow_rlimbs n
  have h5 : 10000 ^ (rlimbs n).length ≤ 16384 ^ K := Nat.le_trans (Nat.pow_le_pow_left (by decide) _) (Nat.pow_le_pow_right (by decide) h)
  have h6 : 16384 ^ K = 2 ^ (14 * K) := by rw [Nat.pow_mul]
  have h7 : 2 ^ cnt b n < 2 ^ (14 * K) := by omega
  exact Nat.le_of_lt ((Nat.pow_lt_pow_iff_right (by decide)).1 h7)
theorem cmp_fin {u : Nat} {z : Int} (hz : z = cmpI u 1) : (z == 0) = decide (u = 1) := by
  rw [hz]
  unfold cmpI
  by_cases h1 : u < 1
  · rw [if_pos h1, decide_eq_false (by omega)]; rfl
  · rw [if_neg h1]
    by_cases h2 : 1 < u
    · rw [if_pos h2, decide_eq_false (by omega)]; rfl
    · rw [if_neg h2, decide_eq_true (by omega)]; rfl
theorem rtext_b (v : Value) (n : Nat) (s : List UInt8) (w : World) (h : RIs w v n) (hl : (rlimbs n).length ≤ 100000) (hs : Hid (s = str (dec n))) :
    Calls Tryd.prog 39 #[v] w fun e w' => e = .returned (.string ⟨s.toArray⟩) ∧ Below w.heap.size w w' := by
  rw [hs.out]; exact rtext_any v n w h hl
theorem str_len (n : Nat) : (str (dec n)).length = (dec n).length := by unfold str; simp
theorem rlimbs_ten (p : Nat) {K : Nat} (h : p < K) : (rlimbs (10 ^ p)).length ≤ K := rlimbs_pow10 (Nat.pow_lt_pow_right (by decide) h)
theorem rlimbs_mul10 {a m p K : Nat} (ha : a < 10 ^ m) (h : m + p ≤ K) : (rlimbs (a * 10 ^ p)).length ≤ K := by
  refine rlimbs_pow10 (Nat.lt_of_lt_of_le (Nat.mul_lt_mul_of_pos_right ha (Nat.pow_pos (by decide))) ?_)
  rw [← Nat.pow_add]
  exact Nat.pow_le_pow_right (by decide) h
theorem lt_dec {n k : Nat} (h : (dec n).length ≤ k) : n < 10 ^ k := by
  have h1 := dnum_lt (str (dec n)) (str_dec_digs n)
  rw [dnum_dec, str_len] at h1
  exact Nat.lt_of_lt_of_le h1 (Nat.pow_le_pow_right (by decide) h)
theorem lit_small {q : Rat} {p a K : Nat} (h : q.num.natAbs < 10 ^ a) (hp : a + p ≤ K) : litNum q p < 10 ^ K := by
  refine Nat.lt_of_le_of_lt (Nat.div_le_self _ _) (Nat.lt_of_lt_of_le (Nat.mul_lt_mul_of_pos_right h (Nat.pow_pos (by decide))) ?_)
  rw [← Nat.pow_add]
  exact Nat.pow_le_pow_right (by decide) hp
end Go.Proofs.YtafmhoeammbemaaDoor
