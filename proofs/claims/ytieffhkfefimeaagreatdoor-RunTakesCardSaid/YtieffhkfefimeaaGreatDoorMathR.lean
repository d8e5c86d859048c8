/-
  Plain facts on fractions (2): sizes, texts, what a text says, rounding.
-/
import Derived.Test.YtieffhkfefimeaaGreatDoorComN
import Derived.Test.YtieffhkfefimeaaGreatDoorMathQ
namespace Go.Proofs.YtieffhkfefimeaaGreatDoor
open Go.RowKit
set_option linter.unusedVariables false
set_option linter.unusedSimpArgs false

theorem rlimbs_of_limbs {n k : Nat} (h : (limbs n).length ≤ k) : (rlimbs n).length ≤ 3 * k := by
  have h1 := lt_pow_limbs n
  refine rlimbs_length_le (Nat.lt_of_lt_of_le h1 ?_)
  rw [Nat.pow_mul]
  exact Nat.le_trans (Nat.pow_le_pow_right (by decide) h) (Nat.pow_le_pow_left (by decide) _)

/-- Sizes: numerator and denominator have at most k limbs. -/
def QB (q : Rat) (k : Nat) : Prop := (limbs q.num.natAbs).length ≤ k ∧ (limbs q.den).length ≤ k
theorem QB.mono {q : Rat} {k m : Nat} (h : QB q k) (hk : k ≤ m) : QB q m := ⟨Nat.le_trans h.1 hk, Nat.le_trans h.2 hk⟩
theorem QB.neg {q : Rat} {k : Nat} (h : QB q k) : QB (-q) k := by
  unfold QB; rw [(qneg_num q).1, (qneg_num q).2]; exact h
theorem mkRat_le (z : Int) {d : Nat} (hd : 0 < d) : (mkRat z d).num.natAbs ≤ z.natAbs ∧ (mkRat z d).den ≤ d := by
  have hd' : d ≠ 0 := by omega
  rw [Rat.mkRat_def, dif_neg hd', Rat.normalize_eq]
  refine ⟨?_, Nat.div_le_self _ _⟩
  show (z / ((Nat.gcd z.natAbs d : Nat) : Int)).natAbs ≤ z.natAbs
  rw [Int.natAbs_ediv_of_dvd (Int.ofNat_dvd_left.2 (Nat.gcd_dvd_left _ _))]
  exact Nat.div_le_self _ _
theorem qOf_le (neg : Bool) (n : Nat) {d : Nat} (hd : 0 < d) : (qOf neg n d).num.natAbs ≤ n ∧ (qOf neg n d).den ≤ d := by
  have h := mkRat_le (sg neg n) hd
  rw [sg_natAbs] at h
  exact h
theorem QB.of {n d k : Nat} (neg : Bool) (hn : (limbs n).length ≤ k) (hd : (limbs d).length ≤ k) (h0 : 0 < d) : QB (qOf neg n d) k := by
  have h := qOf_le neg n h0
  exact ⟨Nat.le_trans (limbs_length_mono h.1) hn, Nat.le_trans (limbs_length_mono h.2) hd⟩
theorem limbs_one : (limbs 1).length = 1 := by rw [limbs_pos (by omega)]; simp [limbs_zero]
theorem limbs_bound {n k : Nat} (h : n < 4294967296) (hk : 1 ≤ k) : (limbs n).length ≤ k := Nat.le_trans (limbs_length_le (k := 1) (by omega)) hk
theorem QB.zero (k : Nat) (hk : 1 ≤ k) : QB 0 k := ⟨limbs_bound (by decide) hk, limbs_bound (by decide) hk⟩
theorem QB.num {q : Rat} {k : Nat} (h : QB q k) : (limbs q.num.natAbs).length ≤ k := h.1
theorem QB.den {q : Rat} {k : Nat} (h : QB q k) : (limbs q.den).length ≤ k := h.2
theorem QB.rnum {q : Rat} {k : Nat} (h : QB q k) : (rlimbs q.num.natAbs).length ≤ 3 * k := rlimbs_of_limbs h.1
theorem QB.rden {q : Rat} {k : Nat} (h : QB q k) : (rlimbs q.den).length ≤ 3 * k := rlimbs_of_limbs h.2
theorem QB.add {a b : Rat} {i j : Nat} (ha : QB a i) (hb : QB b j) : QB (a + b) (i + j + 1) := by
  rw [q_add_eq]
  have h := mkRat_le (a.num * b.den + b.num * a.den) (Nat.mul_pos a.den_pos b.den_pos)
  have h1 : (a.num * b.den + b.num * a.den).natAbs ≤ a.num.natAbs * b.den + b.num.natAbs * a.den := by
    refine Nat.le_trans (Int.natAbs_add_le _ _) ?_
    rw [Int.natAbs_mul, Int.natAbs_mul]; simp
  have h2 := limbs_mul ha.1 hb.2
  have h3 := limbs_mul hb.1 ha.2
  rw [Nat.add_comm j i] at h3
  have h4 := limbs_add h2 h3
  have h5 := limbs_mul ha.2 hb.2
  exact ⟨Nat.le_trans (limbs_length_mono (Nat.le_trans h.1 h1)) h4, Nat.le_trans (limbs_length_mono h.2) (by omega)⟩
theorem QB.sub {a b : Rat} {i j : Nat} (ha : QB a i) (hb : QB b j) : QB (a - b) (i + j + 1) := by
  rw [qsub_is]; exact ha.add hb.neg
theorem QB.mul {a b : Rat} {i j : Nat} (ha : QB a i) (hb : QB b j) : QB (a * b) (i + j) := by
  rw [← qmul_is]
  exact QB.of _ (limbs_mul ha.1 hb.1) (limbs_mul ha.2 hb.2) (Nat.mul_pos a.den_pos b.den_pos)
theorem q_num_pos {b : Rat} (hb : b ≠ 0) : 0 < b.num.natAbs := by
  rcases Nat.eq_zero_or_pos b.num.natAbs with h | h
  · exact (hb (Rat.num_eq_zero.1 (by omega))).elim
  · exact h
theorem q_num_zero {b : Rat} : b.num.natAbs = 0 ↔ b = 0 := ⟨fun h => Rat.num_eq_zero.1 (by omega), fun h => by rw [h]; rfl⟩
theorem QB.div {a b : Rat} {i j : Nat} (ha : QB a i) (hb : QB b j) (h0 : b ≠ 0) : QB (a / b) (i + j) := by
  rw [← qdiv_is h0]
  exact QB.of _ (limbs_mul ha.1 hb.2) (limbs_mul ha.2 hb.1) (Nat.mul_pos a.den_pos (q_num_pos h0))
theorem QB.floor {a : Rat} {i : Nat} (ha : QB a i) : QB (a.floor : Rat) (i + 1) := by
  rw [← qfloor_is]
  have h1 : (limbs (a.num.natAbs / a.den)).length ≤ i := Nat.le_trans (limbs_length_mono (Nat.div_le_self _ _)) ha.1
  have h2 : (limbs (a.num.natAbs / a.den + 1)).length ≤ i + 1 := by
    rcases Nat.eq_zero_or_pos i with h | h
    · subst h
      have : a.num.natAbs / a.den = 0 := limbs_eq_nil.1 (List.eq_nil_of_length_eq_zero (by omega))
      rw [this]; exact Nat.le_of_eq limbs_one
    · exact limbs_add h1 (limbs_bound (by decide) h)
  split
  · exact QB.of _ h2 (limbs_bound (by decide) (by omega)) (by decide)
  · exact QB.of _ (by omega) (limbs_bound (by decide) (by omega)) (by decide)

/-- A fraction's text. -/
def qtext (q : Rat) : List UInt8 := (if decide (q < 0) = true then [45] else []) ++ (str (dec q.num.natAbs) ++ (if q.den = 1 then [] else 47 :: str (dec q.den)))

/-- What a text says: the part ahead of the stroke and the one behind it. -/
def cutNeg (l : List UInt8) : Bool × List UInt8 := if l.head? = some 45 then (true, l.tail) else (false, l)
def cutAt (l : List UInt8) : List UInt8 := l.takeWhile (· != 47)
def cutOn (l : List UInt8) : List UInt8 := if 47 ∈ l then (l.dropWhile (· != 47)).tail else [49]
def qneg (l : List UInt8) : Bool := (cutNeg l).1
def qnum (l : List UInt8) : List UInt8 := cutAt (cutNeg l).2
def qden (l : List UInt8) : List UInt8 := cutOn (cutNeg l).2
/-- The fraction that is made of the parts. -/
def qmade (l : List UInt8) : Rat := qOf (qneg l) (pval (qnum l)) (pval (qden l))
def qcode (l : List UInt8) : Int :=
  if pcode (qnum l) = 3 ∨ pcode (qden l) = 3 then 3 else if pcode (qnum l) ≠ 0 ∨ pcode (qden l) ≠ 0 then 2 else if pval (qden l) = 0 then 3 else if qtext (qmade l) ≠ l then 3 else 0
def qval (l : List UInt8) : Rat := if qcode l = 0 then qmade l else 0

theorem pval_lt {l : List UInt8} {K : Nat} (h : l.length ≤ K) : pval l < 10 ^ K := by
  have h0 : 0 < 10 ^ K := Nat.pow_pos (by decide)
  unfold pval
  split
  · rename_i hok
    split
    · exact h0
    · simp only [numOk, Bool.and_eq_true] at hok
      exact Nat.lt_of_lt_of_le (dnum_lt l hok.1) (Nat.pow_le_pow_right (by decide) h)
  · exact h0
theorem limbs_pow10 {n k : Nat} (h : n < 10 ^ k) : (limbs n).length ≤ k :=
  limbs_length_le (Nat.lt_of_lt_of_le h (Nat.pow_le_pow_left (by decide) _))
theorem rlimbs_pow10 {n k : Nat} (h : n < 10 ^ k) : (rlimbs n).length ≤ k :=
  rlimbs_length_le (Nat.lt_of_lt_of_le h (Nat.pow_le_pow_left (by decide) _))
theorem cutNeg_le (l : List UInt8) : (cutNeg l).2.length ≤ l.length := by
  unfold cutNeg; split <;> simp
theorem cutAt_le (l : List UInt8) : (cutAt l).length ≤ l.length := (List.takeWhile_sublist _).length_le
theorem cutOn_le (l : List UInt8) : (cutOn l).length ≤ l.length + 1 := by
  unfold cutOn
  split
  · have := (List.dropWhile_sublist (p := (· != 47)) (l := l)).length_le
    simp only [List.length_tail]; omega
  · simp
theorem qnum_le (l : List UInt8) : (qnum l).length ≤ l.length := Nat.le_trans (cutAt_le _) (cutNeg_le l)
theorem qden_le (l : List UInt8) : (qden l).length ≤ l.length + 1 := Nat.le_trans (cutOn_le _) (by have := cutNeg_le l; omega)
theorem qden_max (l : List UInt8) : (qden l).length ≤ max 1 l.length := by
  unfold qden cutOn
  have h1 := cutNeg_le l
  split
  · have := (List.dropWhile_sublist (p := (· != 47)) (l := (cutNeg l).2)).length_le
    simp only [List.length_tail]; omega
  · simp; omega
theorem qval_lt {l : List UInt8} {K : Nat} (h : l.length + 1 ≤ K) : (qval l).num.natAbs < 10 ^ K ∧ (qval l).den < 10 ^ K := by
  have h1 := pval_lt (l := qnum l) (K := K) (by have := qnum_le l; omega)
  have h2 := pval_lt (l := qden l) (K := K) (by have := qden_le l; omega)
  have h9 : 1 < 10 ^ K := Nat.one_lt_pow (by omega) (by decide)
  unfold qval
  split
  · rename_i h0
    have hd : 0 < pval (qden l) := by
      rcases Nat.eq_zero_or_pos (pval (qden l)) with h3 | h3
      · exfalso
        unfold qcode at h0
        rw [if_pos h3] at h0
        split at h0
        · omega
        · split at h0 <;> omega
      · exact h3
    have h4 := qOf_le (qneg l) (pval (qnum l)) hd
    exact ⟨Nat.lt_of_le_of_lt h4.1 h1, Nat.lt_of_le_of_lt h4.2 h2⟩
  · exact ⟨by show 0 < _; omega, h9⟩
theorem QB.val {l : List UInt8} {K : Nat} (h : l.length + 1 ≤ K) : QB (qval l) K :=
  ⟨limbs_pow10 (qval_lt h).1, limbs_pow10 (qval_lt h).2⟩
end Go.Proofs.YtieffhkfefimeaaGreatDoor
