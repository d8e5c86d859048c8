/-
  Plain facts on fractions (3): texts told and read back, rounding.
-/
import Derived.Test.YtieffhkfefimeaaGreatDoorMathR
namespace Go.Proofs.YtieffhkfefimeaaGreatDoor
open Go.RowKit
set_option linter.unusedVariables false
set_option linter.unusedSimpArgs false

theorem str_dec_parts {n : Nat} (h : 0 < n) : (str (dec n)).map (fun c => c.toNat - 48) = (dig n).reverse := by
  rw [dec_pos h]
  unfold str
  rw [List.map_map, List.map_map]
  conv => rhs; rw [← List.map_id (dig n).reverse]
  refine List.map_congr_left fun x hx => ?_
  have := dig_lt n x (List.mem_reverse.1 hx)
  simp only [Function.comp_apply, UInt8.toNat_ofNat', id]
  omega
theorem str_dec_digs (n : Nat) : (str (dec n)).all isDig = true := by
  rcases Nat.eq_zero_or_pos n with h | h
  · subst h; decide
  · rw [List.all_eq_true]
    intro c hc
    rw [dec_pos h] at hc
    unfold str at hc
    rw [List.map_map] at hc
    obtain ⟨x, hx, rfl⟩ := List.mem_map.1 hc
    have := dig_lt n x (List.mem_reverse.1 hx)
    rw [isDig_iff]
    simp only [Function.comp_apply, UInt8.toNat_ofNat']
    omega
theorem dnum_dec (n : Nat) : dnum (str (dec n)) = n := by
  rcases Nat.eq_zero_or_pos n with h | h
  · subst h; decide
  · rw [dnum_rev, str_dec_parts h, List.reverse_reverse, dval_dig]
theorem dec_head {n : Nat} (h : 0 < n) : ∃ x t, dec n = (48 + x) :: t ∧ 0 < x ∧ x < 10 := by
  have h1 : dig n ≠ [] := fun h2 => by have := dig_eq_nil.1 h2; omega
  have h2 := dig_getLast n h1
  have h3 := dig_lt n _ (List.getLast_mem h1)
  rw [dec_pos h]
  refine ⟨(dig n).getLast h1, ((dig n).dropLast.reverse).map (48 + ·), ?_, by omega, h3⟩
  have h4 := List.dropLast_concat_getLast h1
  conv => lhs; rw [← h4]
  rw [List.reverse_append]
  rfl
theorem numOk_dec (n : Nat) : numOk (str (dec n)) = true := by
  rcases Nat.eq_zero_or_pos n with h | h
  · subst h; decide
  · obtain ⟨x, t, e, h1, h2⟩ := dec_head h
    have h3 := str_dec_digs n
    unfold numOk
    rw [h3, e]
    have h4 : (UInt8.ofNat (48 + x)) ≠ 48 := by
      intro h5
      have := congrArg UInt8.toNat h5
      simp only [UInt8.toNat_ofNat'] at this
      have h6 : (48 : UInt8).toNat = 48 := by decide
      omega
    have h5 : (UInt8.ofNat (48 + x) != 48) = true := bne_iff_ne.2 h4
    simp only [str, List.map_cons, List.headD_cons, h5]
    simp
theorem dec_inj {n m : Nat} (h : str (dec n) = str (dec m)) : n = m := by rw [← dnum_dec n, h, dnum_dec]
theorem pcode_dec {n : Nat} (h : (dec n).length ≤ 1200) : pcode (str (dec n)) = 0 := by
  unfold pcode
  rw [numOk_dec, if_pos rfl, if_neg (by simp [str]; omega)]
theorem pval_dec {n : Nat} (h : (dec n).length ≤ 1200) : pval (str (dec n)) = n := by
  unfold pval
  rw [numOk_dec, if_pos rfl, if_neg (by simp [str]; omega), dnum_dec]
theorem dig_le {n k : Nat} (h : n < 10 ^ k) : (dig n).length ≤ k := by
  induction k generalizing n with
  | zero => have : n = 0 := by simp at h; omega
            subst this; rw [dig_zero]; simp
  | succ k ih =>
    rcases Nat.eq_zero_or_pos n with h0 | h0
    · subst h0; rw [dig_zero]; simp
    · rw [dig_pos h0]
      have : n / 10 < 10 ^ k := by rw [Nat.div_lt_iff_lt_mul (by decide)]; rwa [Nat.pow_succ] at h
      simp only [List.length_cons]
      have := ih this
      omega
theorem dec_le {n k : Nat} (h : n < 10 ^ k) (hk : 0 < k) : (dec n).length ≤ k := by
  unfold dec
  split
  · simp; omega
  · simp only [List.length_map, List.length_reverse]; exact dig_le h
theorem dec_no (n : Nat) (c : UInt8) (hc : isDig c = false) : c ∉ str (dec n) := fun h => by
  have := List.all_eq_true.1 (str_dec_digs n) c h
  rw [hc] at this
  cases this
theorem dec_ne_nil (n : Nat) : str (dec n) ≠ [] := by
  rcases Nat.eq_zero_or_pos n with h | h
  · subst h; decide
  · obtain ⟨x, t, e, h1, h2⟩ := dec_head h
    rw [e]; simp [str]
theorem dec_head_ne (n : Nat) (c : UInt8) (hc : isDig c = false) (t : List UInt8) : (str (dec n) ++ t).head? ≠ some c := by
  have h1 := dec_ne_nil n
  have h2 := dec_no n c hc
  cases h : str (dec n) with
  | nil => exact (h1 h).elim
  | cons x s =>
    rw [h] at h2
    simp only [List.cons_append, List.head?_cons]
    intro h3
    injection h3 with h3
    subst h3
    simp at h2

/-! A fraction's text is read as the fraction. -/
theorem cutNeg_qtext (q : Rat) : cutNeg (qtext q) = (decide (q < 0), str (dec q.num.natAbs) ++ (if q.den = 1 then [] else 47 :: str (dec q.den))) := by
  unfold cutNeg qtext
  by_cases h : q < 0
  · simp only [h, decide_true, if_true]
    simp
  · simp only [h, decide_false]
    rw [if_neg (by simp only [Bool.false_eq_true, if_false, List.nil_append]; exact dec_head_ne _ 45 (by decide) _)]
    simp
theorem takeWhile_stop {α : Type} [BEq α] [LawfulBEq α] (l t : List α) (c : α) (h : c ∉ l) : (l ++ c :: t).takeWhile (· != c) = l ∧ (l ++ c :: t).dropWhile (· != c) = c :: t := by
  induction l with
  | nil => simp
  | cons x l ih =>
    simp only [List.mem_cons, not_or] at h
    have hx : (x != c) = true := by simp; exact fun h2 => h.1 h2.symm
    have := ih h.2
    simp [List.takeWhile_cons, List.dropWhile_cons, hx, this.1, this.2]
theorem takeWhile_all {α : Type} [BEq α] [LawfulBEq α] (l : List α) (c : α) (h : c ∉ l) : l.takeWhile (· != c) = l := by
  induction l with
  | nil => simp
  | cons x l ih =>
    simp only [List.mem_cons, not_or] at h
    have hx : (x != c) = true := by simp; exact fun h2 => h.1 h2.symm
    simp [List.takeWhile_cons, hx, ih h.2]
theorem cut_stroke (n d : Nat) : cutAt (str (dec n) ++ 47 :: str (dec d)) = str (dec n) ∧ cutOn (str (dec n) ++ 47 :: str (dec d)) = str (dec d) := by
  have h := takeWhile_stop (str (dec n)) (str (dec d)) 47 (dec_no n 47 (by decide))
  refine ⟨h.1, ?_⟩
  unfold cutOn
  rw [if_pos (by simp), h.2]
  rfl
theorem cut_whole (n : Nat) : cutAt (str (dec n)) = str (dec n) ∧ cutOn (str (dec n)) = [49] := by
  refine ⟨takeWhile_all _ _ (dec_no n 47 (by decide)), ?_⟩
  unfold cutOn
  rw [if_neg (dec_no n 47 (by decide))]
theorem qtext_parts (q : Rat) : qneg (qtext q) = decide (q < 0) ∧ qnum (qtext q) = str (dec q.num.natAbs) ∧ qden (qtext q) = str (dec q.den) := by
  unfold qneg qnum qden
  rw [cutNeg_qtext]
  refine ⟨rfl, ?_⟩
  by_cases h : q.den = 1
  · simp only [h, if_true, List.append_nil]
    have := cut_whole q.num.natAbs
    rw [this.1, this.2]
    exact ⟨rfl, str_dec_one.symm⟩
  · simp only [h, if_false]
    have := cut_stroke q.num.natAbs q.den
    exact ⟨this.1, this.2⟩
theorem qparse_text (q : Rat) (h1 : (dec q.num.natAbs).length ≤ 1200) (h2 : (dec q.den).length ≤ 1200) : qcode (qtext q) = 0 ∧ qval (qtext q) = q := by
  obtain ⟨e1, e2, e3⟩ := qtext_parts q
  have hm : qmade (qtext q) = q := by
    unfold qmade
    rw [e1, e2, e3, pval_dec h1, pval_dec h2, qOf_self]
  have hc : qcode (qtext q) = 0 := by
    unfold qcode
    rw [hm, e2, e3, pcode_dec h1, pcode_dec h2, pval_dec h2, if_neg (by omega), if_neg (by omega), if_neg (by have := q.den_pos; omega), if_neg (by simp)]
  exact ⟨hc, by unfold qval; rw [hc, if_pos rfl, hm]⟩
theorem qtext_inj {p q : Rat} (h : qtext p = qtext q) : p = q := by
  obtain ⟨a1, a2, a3⟩ := qtext_parts p
  obtain ⟨b1, b2, b3⟩ := qtext_parts q
  rw [h] at a1 a2 a3
  have e1 := a1.symm.trans b1
  have e2 := dec_inj (a2.symm.trans b2)
  have e3 := dec_inj (a3.symm.trans b3)
  rw [← qOf_self p, ← qOf_self q, e1, e2, e3]
/-- A fraction that isn't in lowest terms is none. -/
theorem qparse_more {n d : Nat} (hn : 0 < n) (hd : 0 < d) (hg : Nat.gcd n d ≠ 1) (h1 : (dec n).length ≤ 1200) (h2 : (dec d).length ≤ 1200) : qcode (str (dec n) ++ 47 :: str (dec d)) = 3 := by
  obtain ⟨l, hl⟩ : ∃ l, l = str (dec n) ++ 47 :: str (dec d) := ⟨_, rfl⟩
  have hc : cutNeg l = (false, l) := by
    unfold cutNeg
    rw [if_neg (by rw [hl]; exact dec_head_ne n 45 (by decide) _)]
  have e2 : qnum l = str (dec n) := by unfold qnum; rw [hc, hl]; exact (cut_stroke n d).1
  have e3 : qden l = str (dec d) := by unfold qden; rw [hc, hl]; exact (cut_stroke n d).2
  rw [← hl]
  unfold qcode
  rw [e2, e3, pcode_dec h1, pcode_dec h2, pval_dec h2, if_neg (by omega), if_neg (by omega), if_neg (by omega)]
  refine if_pos fun h => ?_
  have h3 := (qtext_parts (qmade l)).2.1
  rw [h, e2] at h3
  have h4 := dec_inj h3
  unfold qmade at h4
  rw [e2, e3, pval_dec h1, pval_dec h2, qOf_num hd, sg_natAbs] at h4
  have h5 : Nat.gcd n d ∣ n := Nat.gcd_dvd_left _ _
  have h6 := Nat.div_mul_cancel h5
  rw [← h4] at h6
  have h7 : n * Nat.gcd n d = n * 1 := by omega
  exact hg (Nat.eq_of_mul_eq_mul_left hn h7)
theorem qparse_plus (l : List UInt8) : qcode (43 :: l) = 3 := by
  have h1 : qnum (43 :: l) = 43 :: cutAt l := by
    unfold qnum cutNeg
    rw [if_neg (by simp)]
    unfold cutAt
    simp [List.takeWhile_cons]
  have h2 : pcode (qnum (43 :: l)) = 3 := by
    rw [h1]
    unfold pcode
    have : numOk (43 :: cutAt l) = false := by simp [numOk, isDig]
    rw [this]; rfl
  unfold qcode
  rw [if_pos (.inl h2)]

/-! Rounding. -/
theorem floor_qOf (n : Nat) {d : Nat} (hd : 0 < d) : (qOf false n d).floor = ((n / d : Nat) : Int) := by
  rw [Rat.floor_def, qOf_num hd, qOf_den hd]
  have hg : 0 < Nat.gcd n d := Nat.gcd_pos_of_pos_right _ hd
  obtain ⟨a, ha⟩ := Nat.gcd_dvd_left n d
  obtain ⟨b, hb⟩ := Nat.gcd_dvd_right n d
  generalize Nat.gcd n d = g at *
  subst ha hb
  rw [Nat.mul_div_cancel_left _ hg, Nat.mul_div_cancel_left _ hg, Nat.mul_div_mul_left _ _ hg]
  simp [sg]
/-- One half. -/
def half : Rat := qOf false 1 2
theorem half_num : half.num.natAbs = 1 := by decide
theorem half_den : half.den = 2 := by decide
theorem half_neg : decide (half < 0) = false := by decide
theorem half_two : half + half = 1 := by rw [q_add_eq, half_den]; show mkRat (1 * ((2 : Nat) : Int) + 1 * ((2 : Nat) : Int)) (2 * 2) = 1; decide
theorem qOf_one (s : Bool) (n : Nat) : qOf s n 1 = ((sg s n : Int) : Rat) := by
  rw [qOf_frac _ _ (by omega)]; simp; grind
/-- The nearest whole number, of two the one farther from 0. -/
def qround (q : Rat) : Rat := qOf (decide (q < 0)) ((q.num.natAbs * 2 + q.den) / (q.den * 2)) 1
theorem qround_pos {q : Rat} (h : decide (q < 0) = false) : ((q + half).floor : Rat) = qround q := by
  rw [← qadd_same h half_neg, half_num, half_den, floor_qOf _ (by have := q.den_pos; omega)]
  unfold qround
  rw [h, qOf_one]
  simp [sg]
theorem qround_neg (q : Rat) : qround (-q) = -qround q := by
  unfold qround
  rw [(qneg_num q).1, (qneg_num q).2, qneg_sign, qOf_one, qOf_one]
  by_cases h0 : q.num.natAbs = 0
  · have : q = 0 := q_num_zero.1 h0
    subst this
    decide
  · rw [decide_eq_false h0]
    cases decide (q < 0) <;> simp [sg]
theorem QB.round {q : Rat} {k : Nat} (h : QB q k) : QB (qround q) (k + 2) := by
  unfold qround
  have h1 : (limbs 2).length ≤ 1 := limbs_bound (by decide) (by omega)
  have h2 : (limbs (q.num.natAbs * 2 + q.den)).length ≤ k + 2 := limbs_add (limbs_mul h.1 h1) (Nat.le_trans h.2 (by omega))
  exact QB.of _ (Nat.le_trans (limbs_length_mono (Nat.div_le_self _ _)) h2) (limbs_bound (by decide) (by omega)) (by decide)
end Go.Proofs.YtieffhkfefimeaaGreatDoor
