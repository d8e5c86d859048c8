/-
  Plain facts on decimal literals (4): how many places a fraction needs by what its denominator divides.
-/
import Derived.Test.YtafmhoeammbemaaDoorMathE
namespace Go.Proofs.YtafmhoeammbemaaDoor
open Go.RowKit
set_option linter.unusedVariables false
set_option linter.unusedSimpArgs false

theorem places_dvd {q : Rat} {t f : Nat} (h : q.den ∣ 2 ^ t * 5 ^ f) : places q ≤ max t f := by
  have h1 := cnt_eq (b := 2) (by decide) q.den (den_pos q)
  have h2 := cnt_eq (b := 5) (by decide) (crest 2 q.den) h1.2.2
  have c25 : ∀ a b : Nat, Nat.Coprime (2 ^ a) (5 ^ b) := fun a b => Nat.Coprime.pow a b (by decide)
  have d1 : 2 ^ cnt 2 q.den ∣ 2 ^ t * 5 ^ f := Nat.dvd_trans ⟨_, h1.1⟩ h
  have d2 : 2 ^ cnt 2 q.den ∣ 2 ^ t := Nat.Coprime.dvd_of_dvd_mul_right (c25 _ _) d1
  have d3 : cnt 2 q.den ≤ t := (Nat.pow_dvd_pow_iff_le_right (by decide)).1 d2
  have e1 : 5 ^ cnt 5 (crest 2 q.den) ∣ 2 ^ t * 5 ^ f := Nat.dvd_trans (Nat.dvd_trans ⟨_, h2.1⟩ ⟨_, h1.1.trans (Nat.mul_comm _ _)⟩) h
  have e2 : 5 ^ cnt 5 (crest 2 q.den) ∣ 5 ^ f := Nat.Coprime.dvd_of_dvd_mul_left (c25 _ _).symm e1
  have e3 : cnt 5 (crest 2 q.den) ≤ f := (Nat.pow_dvd_pow_iff_le_right (by decide)).1 e2
  unfold places
  omega
theorem fin_dvd2 {q : Rat} {t f : Nat} (h : q.den ∣ 2 ^ t * 5 ^ f) : fin q = true := by
  refine fin_of_dvd (k := max t f) (Nat.dvd_trans h ?_)
  exact Nat.mul_dvd_mul (Nat.pow_dvd_pow 2 (Nat.le_max_left _ _)) (Nat.pow_dvd_pow 5 (Nat.le_max_right _ _))
theorem places_dvd10 {q : Rat} {k : Nat} (h : q.den ∣ 10 ^ k) : places q ≤ k := by
  have := places_dvd (q := q) (t := k) (f := k) (by rw [← Nat.mul_pow]; exact h)
  omega
theorem litQ_places (neg : Bool) (n : Nat) (k : Int) : places (litQ neg n k) ≤ k.natAbs := by
  unfold litQ
  split
  · exact places_dvd10 (qOf_den_dvd _ _ (Nat.pow_pos (by decide)))
  · exact Nat.le_trans (places_dvd10 (k := 0) (qOf_den_dvd _ _ (by decide))) (Nat.zero_le _)
theorem lit_places (l : List UInt8) : places (litVal l) ≤ 800 := by
  unfold litVal
  split
  · rename_i h
    have h1 := litCode_zero h
    exact Nat.le_trans (litQ_places _ _ _) (Nat.le_trans (expOf_le h h1.2.2) (by decide))
  · exact Nat.le_trans (places_dvd10 (k := 0) (by show (1 : Nat) ∣ _; exact Nat.one_dvd _)) (Nat.zero_le _)
/-- A fraction whose text is not too long. -/
def LOk (q : Rat) : Prop := QB q 1300 ∧ places q ≤ 1200 ∧ (dec q.num.natAbs).length ≤ 1200 ∧ (dec q.den).length ≤ 1200
theorem LOk.of {q : Rat} {K : Nat} (h1 : q.num.natAbs < 10 ^ K) (h2 : q.den < 10 ^ K) (hK : K ≤ 1200) (hK0 : 0 < K) (hp : places q ≤ 1200) : LOk q :=
  ⟨⟨Nat.le_trans (limbs_pow10 h1) (Nat.le_trans hK (by decide)), Nat.le_trans (limbs_pow10 h2) (Nat.le_trans hK (by decide))⟩, hp, Nat.le_trans (dec_le h1 hK0) hK, Nat.le_trans (dec_le h2 hK0) hK⟩
theorem LOk.lit {l : List UInt8} (h : l.length ≤ 300) : LOk (litVal l) := by
  have h1 := litVal_lt (l := l) (K := 300) h
  exact LOk.of h1.1 h1.2 (by decide) (by decide) (Nat.le_trans (lit_places l) (by decide))
/-- A fraction over a denominator of twos, fives, and one other number. -/
theorem other_cases {o : Nat} (h : o = 1 ∨ o = 3 ∨ o = 7 ∨ o = 11) : 0 < o ∧ o ≤ 11 ∧ ∀ g, g ∣ o → g = 1 ∨ g = o := by
  rcases h with rfl | rfl | rfl | rfl
  · exact ⟨by decide, by decide, fun g hg => Or.inl (Nat.dvd_one.1 hg)⟩
  · refine ⟨by decide, by decide, fun g hg => ?_⟩
    have h1 := Nat.le_of_dvd (by decide) hg
    have : g = 0 ∨ g = 1 ∨ g = 2 ∨ g = 3 := by omega
    rcases this with rfl | rfl | rfl | rfl <;> revert hg <;> decide
  · refine ⟨by decide, by decide, fun g hg => ?_⟩
    have h1 := Nat.le_of_dvd (by decide) hg
    have : g = 0 ∨ g = 1 ∨ g = 2 ∨ g = 3 ∨ g = 4 ∨ g = 5 ∨ g = 6 ∨ g = 7 := by omega
    rcases this with rfl | rfl | rfl | rfl | rfl | rfl | rfl | rfl <;> revert hg <;> decide
  · refine ⟨by decide, by decide, fun g hg => ?_⟩
    have h1 := Nat.le_of_dvd (by decide) hg
    have : g = 0 ∨ g = 1 ∨ g = 2 ∨ g = 3 ∨ g = 4 ∨ g = 5 ∨ g = 6 ∨ g = 7 ∨ g = 8 ∨ g = 9 ∨ g = 10 ∨ g = 11 := by omega
    rcases this with rfl | rfl | rfl | rfl | rfl | rfl | rfl | rfl | rfl | rfl | rfl | rfl <;> revert hg <;> decide
theorem whole_den (s : Bool) {n t f o : Nat} (ho : o = 1 ∨ o = 3 ∨ o = 7 ∨ o = 11) (hw : n % o = 0) : (qOf s n (2 ^ t * 5 ^ f * o)).den ∣ 2 ^ t * 5 ^ f := by
  have hp : 0 < 2 ^ t * 5 ^ f := Nat.mul_pos (Nat.pow_pos (by decide)) (Nat.pow_pos (by decide))
  have h0 := (other_cases ho).1
  have hd : 0 < 2 ^ t * 5 ^ f * o := Nat.mul_pos hp h0
  have e : qOf s n (2 ^ t * 5 ^ f * o) = qOf s (n / o) (2 ^ t * 5 ^ f) := by
    refine qOf_eq hd hp ?_
    have h1 : n = o * (n / o) := (Nat.mul_div_cancel' (Nat.dvd_of_mod_eq_zero hw)).symm
    generalize n / o = m at *
    rw [h1]
    grind
  rw [e]
  exact qOf_den_dvd _ _ hp
theorem other_not (s : Bool) {n t f o : Nat} (ho : o = 1 ∨ o = 3 ∨ o = 7 ∨ o = 11) (h1 : ¬ o = 1) (hw : ¬ n % o = 0) : fin (qOf s n (2 ^ t * 5 ^ f * o)) = false := by
  have hc := other_cases ho
  have hp : 0 < 2 ^ t * 5 ^ f := Nat.mul_pos (Nat.pow_pos (by decide)) (Nat.pow_pos (by decide))
  have hd : 0 < 2 ^ t * 5 ^ f * o := Nat.mul_pos hp hc.1
  rcases hf : fin (qOf s n (2 ^ t * 5 ^ f * o)) with _ | _
  · rfl
  · exfalso
    have h2 := fin_dvd hf
    rw [qOf_den hd] at h2
    have hg1 : Nat.gcd n (2 ^ t * 5 ^ f * o) ∣ n := Nat.gcd_dvd_left _ _
    have hg2 : Nat.gcd n (2 ^ t * 5 ^ f * o) ∣ 2 ^ t * 5 ^ f * o := Nat.gcd_dvd_right _ _
    have hcop : Nat.Coprime o (Nat.gcd n (2 ^ t * 5 ^ f * o)) := by
      rcases hc.2.2 _ (Nat.gcd_dvd_left o (Nat.gcd n (2 ^ t * 5 ^ f * o))) with e | e
      · exact e
      · exfalso
        apply hw
        have : o ∣ Nat.gcd n (2 ^ t * 5 ^ f * o) := by
          have h9 := Nat.gcd_dvd_right o (Nat.gcd n (2 ^ t * 5 ^ f * o))
          rwa [e] at h9
        exact Nat.mod_eq_zero_of_dvd (Nat.dvd_trans this hg1)
    have h3 : o ∣ 2 ^ t * 5 ^ f * o / Nat.gcd n (2 ^ t * 5 ^ f * o) := by
      have h4 : o ∣ Nat.gcd n (2 ^ t * 5 ^ f * o) * (2 ^ t * 5 ^ f * o / Nat.gcd n (2 ^ t * 5 ^ f * o)) := by
        rw [Nat.mul_div_cancel' hg2]; exact Nat.dvd_mul_left _ _
      exact Nat.Coprime.dvd_of_dvd_mul_left hcop h4
    have h5 := Nat.dvd_trans h3 h2
    have h6 : ∀ k, Nat.Coprime o (10 ^ k) := fun k => Nat.Coprime.pow_right k (by rcases ho with rfl | rfl | rfl | rfl <;> decide)
    have h7 := h6 (places (qOf s n (2 ^ t * 5 ^ f * o)))
    have h8 : Nat.gcd o (10 ^ places (qOf s n (2 ^ t * 5 ^ f * o))) = o := Nat.gcd_eq_left h5
    rw [Nat.Coprime, h8] at h7
    exact h1 h7
theorem litText_ne (q : Rat) : 0 < (litText q).length := by
  have hd := padTo_digs (places q) (litNum q (places q))
  have := ptAt_len (places q) (padTo (places q) (str (dec (litNum q (places q)))))
  rw [litText_sgn, List.length_append]
  omega
end Go.Proofs.YtafmhoeammbemaaDoor
