/-
  Plain facts on fractions (core's Rat): sign, numerator, denominator of what is made.
-/
import Derived.WalkKit
namespace Go.Proofs.YtieffhkfefimeaaGreatDoor
set_option linter.unusedVariables false
set_option linter.unusedSimpArgs false

/-- A number with its sign. -/
def sg (neg : Bool) (n : Nat) : Int := if neg then -(n : Int) else n
theorem sg_natAbs (neg : Bool) (n : Nat) : (sg neg n).natAbs = n := by cases neg <;> simp [sg]
/-- The fraction of a sign and two numbers. -/
def qOf (neg : Bool) (n d : Nat) : Rat := mkRat (sg neg n) d

theorem qOf_num {neg : Bool} {n d : Nat} (hd : 0 < d) : (qOf neg n d).num = sg neg (n / Nat.gcd n d) := by
  have hd' : d ≠ 0 := by omega
  unfold qOf
  rw [Rat.mkRat_def, dif_neg hd', Rat.normalize_eq]
  simp only [sg_natAbs]
  cases neg
  · simp [sg]
  · simp only [sg, if_true]
    rw [Int.neg_ediv_of_dvd (Int.natCast_dvd_natCast.2 (Nat.gcd_dvd_left _ _))]
    simp
theorem qOf_den {neg : Bool} {n d : Nat} (hd : 0 < d) : (qOf neg n d).den = d / Nat.gcd n d := by
  have hd' : d ≠ 0 := by omega
  unfold qOf
  rw [Rat.mkRat_def, dif_neg hd', Rat.normalize_eq]
  simp only [sg_natAbs]
theorem qOf_zero (neg : Bool) (d : Nat) : qOf neg 0 d = 0 := by
  unfold qOf
  have : sg neg 0 = 0 := by cases neg <;> rfl
  rw [this, Rat.zero_mkRat]
theorem q_neg (q : Rat) : q < 0 ↔ q.num < 0 := by rw [Rat.lt_iff]; simp
theorem qOf_self (q : Rat) : qOf (decide (q < 0)) q.num.natAbs q.den = q := by
  have h : sg (decide (q < 0)) q.num.natAbs = q.num := by
    unfold sg
    by_cases h : q < 0
    · have := (q_neg q).1 h
      simp only [h, decide_true, if_true]; omega
    · have h1 : ¬ q.num < 0 := fun h2 => h ((q_neg q).2 h2)
      simp only [h, decide_false]
      simp; omega
  unfold qOf
  rw [h, Rat.mkRat_self]
theorem qOf_neg {neg : Bool} {n d : Nat} (hn : 0 < n) (hd : 0 < d) : decide (qOf neg n d < 0) = neg := by
  have hg : 0 < n / Nat.gcd n d := Nat.div_pos (Nat.gcd_le_left _ hn) (Nat.gcd_pos_of_pos_left _ hn)
  have h := q_neg (qOf neg n d)
  rw [qOf_num hd] at h
  cases neg
  · rw [decide_eq_false_iff_not, h]; simp [sg]; omega
  · rw [decide_eq_true_iff, h]; simp only [sg, if_true]; omega
theorem qOf_eq_zero {neg : Bool} {n d : Nat} (hn : 0 < n) (hd : 0 < d) : qOf neg n d ≠ 0 := by
  intro h
  have hg : 0 < n / Nat.gcd n d := Nat.div_pos (Nat.gcd_le_left _ hn) (Nat.gcd_pos_of_pos_left _ hn)
  have h1 := qOf_num (neg := neg) (n := n) hd
  rw [h] at h1
  have h2 := congrArg Int.natAbs h1
  rw [sg_natAbs] at h2
  simp at h2
  omega

/-! What is reckoned of signs, numerators and denominators is what is reckoned of the fractions. -/
theorem qOf_frac (neg : Bool) (n : Nat) {d : Nat} (hd : 0 < d) : qOf neg n d = (sg neg n : Rat) / (d : Rat) := by
  unfold qOf
  rw [Rat.mkRat_eq_div]
theorem q_frac (q : Rat) : q = (q.num : Rat) / (q.den : Rat) := by
  have := Rat.mkRat_self q
  rw [Rat.mkRat_eq_div] at this
  exact this.symm

theorem q_num_sg (q : Rat) : q.num = sg (decide (q < 0)) q.num.natAbs := by
  have := congrArg Rat.num (qOf_self q)
  have h : sg (decide (q < 0)) q.num.natAbs = q.num := by
    unfold sg
    by_cases h : q < 0
    · have := (q_neg q).1 h
      simp only [h, decide_true, if_true]; omega
    · have h1 : ¬ q.num < 0 := fun h2 => h ((q_neg q).2 h2)
      simp only [h, decide_false]
      simp; omega
  exact h.symm
theorem q_add_eq (a b : Rat) : a + b = mkRat (a.num * b.den + b.num * a.den) (a.den * b.den) := by
  rw [Rat.add_def, Rat.mkRat_def, dif_neg (Nat.ne_of_gt (Nat.mul_pos a.den_pos b.den_pos))]
theorem q_mul_eq (a b : Rat) : a * b = mkRat (a.num * b.num) (a.den * b.den) := by
  rw [Rat.mul_def, Rat.mkRat_def, dif_neg (Nat.ne_of_gt (Nat.mul_pos a.den_pos b.den_pos))]
theorem qadd_same {a b : Rat} {s : Bool} (ha : decide (a < 0) = s) (hb : decide (b < 0) = s) : qOf s (a.num.natAbs * b.den + b.num.natAbs * a.den) (a.den * b.den) = a + b := by
  have h1 := q_num_sg a
  have h2 := q_num_sg b
  rw [ha] at h1
  rw [hb] at h2
  rw [q_add_eq]
  unfold qOf
  congr 1
  generalize a.num.natAbs = n at *
  generalize b.num.natAbs = m at *
  rw [h1, h2]
  cases s
  · simp [sg]
  · simp [sg]; grind
theorem qadd_more {a b : Rat} (hab : decide (a < 0) ≠ decide (b < 0)) (hge : b.num.natAbs * a.den ≤ a.num.natAbs * b.den) : qOf (decide (a < 0)) (a.num.natAbs * b.den - b.num.natAbs * a.den) (a.den * b.den) = a + b := by
  have h1 := q_num_sg a
  have h2 := q_num_sg b
  rw [q_add_eq]
  unfold qOf
  congr 1
  generalize a.num.natAbs = n at *
  generalize b.num.natAbs = m at *
  generalize decide (a < 0) = s at *
  generalize decide (b < 0) = t at *
  rw [h1, h2]
  have h3 : ((n * b.den - m * a.den : Nat) : Int) = (n : Int) * b.den - (m : Int) * a.den := by
    rw [Int.natCast_sub hge, Int.natCast_mul, Int.natCast_mul]
  cases s <;> cases t <;> simp [sg, h3] at * <;> grind
theorem qmul_is (a b : Rat) : qOf (decide (a < 0) != decide (b < 0)) (a.num.natAbs * b.num.natAbs) (a.den * b.den) = a * b := by
  have h1 := q_num_sg a
  have h2 := q_num_sg b
  rw [q_mul_eq]
  unfold qOf
  congr 1
  generalize a.num.natAbs = n at *
  generalize b.num.natAbs = m at *
  generalize decide (a < 0) = s at *
  generalize decide (b < 0) = t at *
  rw [h1, h2]
  cases s <;> cases t <;> simp [sg] <;> grind
/-- A numerator taken as such (the sum is not below 0). -/
theorem qsub_is (a b : Rat) : a - b = a + -b := Rat.sub_eq_add_neg a b
theorem qneg_num (a : Rat) : (-a).num.natAbs = a.num.natAbs ∧ (-a).den = a.den := by
  simp
theorem qneg_sign (a : Rat) : decide (-a < 0) = (!decide (a < 0) && !decide (a.num.natAbs = 0)) := by
  have h1 := q_neg a
  have h2 := q_neg (-a)
  have h3 : (-a).num = -a.num := by simp
  rw [h3] at h2
  by_cases ha : a.num < 0
  · rw [decide_eq_true (h1.2 ha), decide_eq_false (fun h => by have := h2.1 h; omega)]; rfl
  · rw [decide_eq_false (fun h => ha (h1.1 h))]
    by_cases h0 : a.num = 0
    · rw [decide_eq_false (fun h => by have := h2.1 h; omega), decide_eq_true (by omega)]; rfl
    · rw [decide_eq_true (h2.2 (by omega)), decide_eq_false (by omega)]; rfl
theorem qdiv_is {a b : Rat} (hb : b ≠ 0) : qOf (decide (a < 0) != decide (b < 0)) (a.num.natAbs * b.den) (a.den * b.num.natAbs) = a / b := by
  have h1 := q_num_sg a
  have h2 := q_num_sg b
  have hbn : 0 < b.num.natAbs := by
    rcases Nat.eq_zero_or_pos b.num.natAbs with h | h
    · exact (hb (Rat.num_eq_zero.1 (by omega))).elim
    · exact h
  have e1 := q_frac a
  have e2 := q_frac b
  have p1 := a.den_pos
  have p2 := b.den_pos
  rw [qOf_frac _ _ (Nat.mul_pos p1 hbn)]
  generalize a.num.natAbs = n at *
  generalize b.num.natAbs = m at *
  generalize a.den = ad at *
  generalize b.den = bd at *
  generalize decide (a < 0) = s at *
  generalize decide (b < 0) = t at *
  rw [h1] at e1
  rw [h2] at e2
  clear h1 h2 hb
  subst e1 e2
  have k1 : (ad : Rat) ≠ 0 := by
    intro h; have := Rat.natCast_eq_zero_iff.1 h; omega
  have k2 : (bd : Rat) ≠ 0 := by
    intro h; have := Rat.natCast_eq_zero_iff.1 h; omega
  have k3 : (m : Rat) ≠ 0 := by
    intro h; have := Rat.natCast_eq_zero_iff.1 h; omega
  have hc : ∀ k : Nat, ((k : Int) : Rat) = (k : Rat) := fun k => rfl
  have hn1 : ∀ k : Nat, ((-(k : Int) : Int) : Rat) = -(k : Rat) := fun k => by rw [Rat.intCast_neg, hc]
  have hm1 : ∀ k l : Nat, ((k * l : Nat) : Rat) = (k : Rat) * (l : Rat) := fun k l => Rat.natCast_mul k l
  cases s <;> cases t <;> simp only [sg, Bool.bne_true, Bool.bne_false, Bool.not_true, Bool.not_false, if_true, Bool.false_eq_true, if_false, hc, hn1, hm1] <;> grind

/-- Fractions compared. -/
def qcmp (a b : Rat) : Int := if a < b then -1 else if b < a then 1 else 0
theorem qlt_iff (a b : Rat) : a < b ↔ sg (decide (a < 0)) a.num.natAbs * b.den < sg (decide (b < 0)) b.num.natAbs * a.den := by
  rw [Rat.lt_iff]
  conv => lhs; rw [q_num_sg a, q_num_sg b]
theorem qlt_pp {a b : Rat} (ha : decide (a < 0) = false) (hb : decide (b < 0) = false) : a < b ↔ a.num.natAbs * b.den < b.num.natAbs * a.den := by
  rw [qlt_iff, ha, hb]
  simp only [sg, Bool.false_eq_true, if_false]
  rw [← Int.natCast_mul, ← Int.natCast_mul]
  omega
theorem qlt_nn {a b : Rat} (ha : decide (a < 0) = true) (hb : decide (b < 0) = true) : a < b ↔ b.num.natAbs * a.den < a.num.natAbs * b.den := by
  rw [qlt_iff, ha, hb]
  simp only [sg, if_true]
  rw [Int.neg_mul, Int.neg_mul, ← Int.natCast_mul, ← Int.natCast_mul]
  omega
theorem qlt_np {a b : Rat} (ha : decide (a < 0) = true) (hb : decide (b < 0) = false) : a < b := by
  have h1 : a < 0 := of_decide_eq_true ha
  have h2 : ¬ b < 0 := of_decide_eq_false hb
  exact Std.lt_of_lt_of_le h1 (Rat.not_lt.1 h2)
theorem sg_div (s : Bool) (n : Nat) {d : Nat} (hd : 0 < d) : sg s n / (d : Int) = if s && !decide (n % d = 0) then -(((n / d : Nat) : Int) + 1) else sg s (n / d) := by
  cases s
  · simp [sg]
  · by_cases hr : n % d = 0
    · simp only [sg, if_true, hr, decide_true, Bool.not_true, Bool.and_false, Bool.false_eq_true, if_false]
      rw [Int.neg_ediv_of_dvd (Int.natCast_dvd_natCast.2 (Nat.dvd_of_mod_eq_zero hr))]
      simp
    · simp only [sg, if_true, hr, decide_false, Bool.not_false, Bool.and_true]
      have h1 := Nat.div_add_mod n d
      have h2 := Nat.mod_lt n hd
      refine ((Int.ediv_emod_unique (a := -(n : Int)) (b := (d : Int)) (r := (d : Int) - (n % d : Nat)) (q := -(((n / d : Nat) : Int) + 1)) (by omega)).2 ⟨?_, by omega, by omega⟩).1
      generalize n / d = q at *
      generalize n % d = r at *
      subst h1
      rw [Int.natCast_add, Int.natCast_mul]
      grind
theorem qfloor_num (a : Rat) : a.floor = if decide (a < 0) && !decide (a.num.natAbs % a.den = 0) then -(((a.num.natAbs / a.den : Nat) : Int) + 1) else sg (decide (a < 0)) (a.num.natAbs / a.den) := by
  rw [← sg_div _ _ a.den_pos, ← q_num_sg, Rat.floor_def]
/-- The whole number below, as the program makes it. -/
theorem qfloor_is (a : Rat) : qOf (decide (a < 0)) (if decide (a < 0) && !decide (a.num.natAbs % a.den = 0) then a.num.natAbs / a.den + 1 else a.num.natAbs / a.den) 1 = (a.floor : Rat) := by
  have hw : ∀ (s : Bool) (n : Nat), qOf s n 1 = ((sg s n : Int) : Rat) := fun s n => by
    rw [qOf_frac _ _ (by omega)]; simp; grind
  rw [hw, qfloor_num]
  congr 1
  by_cases h : (decide (a < 0) && !decide (a.num.natAbs % a.den = 0)) = true
  · rw [if_pos h, if_pos h]
    have hs : decide (a < 0) = true := by
      cases h1 : decide (a < 0)
      · rw [h1] at h; simp at h
      · rfl
    rw [hs]; simp [sg]
  · rw [if_neg h, if_neg h]
end Go.Proofs.YtieffhkfefimeaaGreatDoor
