import Derived.Test.YtkghahehkeaikaaDoorRatD
namespace Go.Proofs.YtkghahehkeaikaaDoor
open Go.RowKit
set_option linter.unusedVariables false
set_option linter.unusedSimpArgs false
attribute [local go_sem] field_nat
theorem RIs.len {w : World} {o : Option Addr} {l c n : Nat} (h : RIs w (.slice o l c) n) : l = (rlimbs n).length := by
  obtain ⟨ao, cap, h1, _⟩ := h.open
  injection h1
theorem rlimbs_mono {a b k : Nat} (hab : a ≤ b) (h : (rlimbs b).length ≤ k) : (rlimbs a).length ≤ k := Nat.le_trans (rlimbs_length_mono hab) h
theorem rlimbs_one : (rlimbs 1).length = 1 := by rw [rlimbs_pos (by omega)]; simp [rlimbs_zero]
theorem rlimbs_mul {a b m n : Nat} (ha : (rlimbs a).length ≤ m) (hb : (rlimbs b).length ≤ n) : (rlimbs (a * b)).length ≤ m + n := by
  have h1 := lt_pow_rlimbs a
  have h2 := lt_pow_rlimbs b
  refine rlimbs_length_le ?_
  have h3 : a < 10000 ^ m := Nat.lt_of_lt_of_le h1 (Nat.pow_le_pow_right (by decide) ha)
  have h4 : b < 10000 ^ n := Nat.lt_of_lt_of_le h2 (Nat.pow_le_pow_right (by decide) hb)
  rw [Nat.pow_add]
  exact Nat.mul_lt_mul'' h3 h4
theorem rlimbs_add {a b m : Nat} (ha : (rlimbs a).length ≤ m) (hb : (rlimbs b).length ≤ m) : (rlimbs (a + b)).length ≤ m + 1 := by
  have h1 := lt_pow_rlimbs a
  have h2 := lt_pow_rlimbs b
  refine rlimbs_length_le ?_
  have h3 : a < 10000 ^ m := Nat.lt_of_lt_of_le h1 (Nat.pow_le_pow_right (by decide) ha)
  have h4 : b < 10000 ^ m := Nat.lt_of_lt_of_le h2 (Nat.pow_le_pow_right (by decide) hb)
  rw [Nat.pow_succ]
  omega
theorem qb_pf2 {a : Rat} (hs : Hid (false = decide (a < 0))) (h : ¬ a.den = 1) : ((⟨(str (dec a.num.natAbs)).toArray⟩ ++ ⟨#[47]⟩) ++ ⟨(str (dec a.den)).toArray⟩ : ByteArray) = ⟨(qtext a).toArray⟩ := by
  rw [← qb_pf hs h]; apply ByteArray.ext; simp
theorem qb_nf2 {a : Rat} (hs : Hid (true = decide (a < 0))) (h : ¬ a.den = 1) : (((⟨#[45]⟩ ++ ⟨(str (dec a.num.natAbs)).toArray⟩) ++ ⟨#[47]⟩) ++ ⟨(str (dec a.den)).toArray⟩ : ByteArray) = ⟨(qtext a).toArray⟩ := by
  rw [← qb_nf hs h]; apply ByteArray.ext; simp
theorem cmpI_cases (a b : Nat) : cmpI a b = -1 ∨ cmpI a b = 0 ∨ cmpI a b = 1 := by
  unfold cmpI; split <;> (try split) <;> simp
theorem cmpI_neg (a b : Nat) : cmpI b a = -cmpI a b := by
  unfold cmpI; by_cases h1 : a < b <;> by_cases h2 : b < a <;> simp [h1, h2] <;> omega
theorem cmpI_ge (a b : Nat) : 0 ≤ cmpI a b ↔ b ≤ a := by
  unfold cmpI; by_cases h1 : a < b <;> by_cases h2 : b < a <;> simp [h1, h2] <;> omega
theorem qOf_minus (a : Rat) {s : Bool} (hs : Hid (s = decide (a < 0))) : qOf (!s) a.num.natAbs a.den = -a := by
  rw [hs.out]
  have h := qOf_self (-a)
  rw [(qneg_num a).1, (qneg_num a).2, qneg_sign] at h
  by_cases h0 : a.num.natAbs = 0
  · rw [h0, qOf_zero, q_num_zero.1 h0]; rfl
  · rw [decide_eq_false h0] at h
    simpa using h
theorem QB.half (k : Nat) (hk : 1 ≤ k) : QB half k := ⟨by rw [half_num]; exact limbs_bound (by decide) hk, by rw [half_den]; exact limbs_bound (by decide) hk⟩
end Go.Proofs.YtkghahehkeaikaaDoor
