/-
  Plain facts on decimal literals: the parts of a literal, its number, how many places a fraction needs, its text.
-/
import Derived.Test.YtafmhoeammbemaaDoorMathS
namespace Go.Proofs.YtafmhoeammbemaaDoor
open Go.RowKit
set_option linter.unusedVariables false
set_option linter.unusedSimpArgs false

/-! The parts of a literal. -/
def isE (c : UInt8) : Bool := c == 101 || c == 69
def sneg (l : List UInt8) : Bool := decide (l.head? = some 45)
def srest (l : List UInt8) : List UInt8 := if l.head? = some 45 ∨ l.head? = some 43 then l.tail else l
def lman (l : List UInt8) : List UInt8 := (srest l).takeWhile (fun c => !isE c)
def lexp (l : List UInt8) : List UInt8 := ((srest l).dropWhile (fun c => !isE c)).tail
def hasE (l : List UInt8) : Bool := (srest l).any isE
def lahead (l : List UInt8) : List UInt8 := (lman l).takeWhile (· != 46)
def lbehind (l : List UInt8) : List UInt8 := ((lman l).dropWhile (· != 46)).tail
def lall (l : List UInt8) : List UInt8 := lahead l ++ lbehind l
def xneg (l : List UInt8) : Bool := hasE l && sneg (lexp l)
def xdig (l : List UInt8) : List UInt8 := if hasE l = true then srest (lexp l) else [48]
def litIs (l : List UInt8) : Bool := !(lall l).isEmpty && !(xdig l).isEmpty && ((lall l).all isDig && (xdig l).all isDig)
def expOf (l : List UInt8) : Int := sg (xneg l) (dnum (xdig l)) - ((lbehind l).length : Int)
def litCode (l : List UInt8) : Int := if litIs l = true then (if 400 < dnum (xdig l) ∨ 400 < (lall l).length then 2 else 0) else 3
def litQ (neg : Bool) (n : Nat) (k : Int) : Rat := if k < 0 then qOf neg n (10 ^ k.natAbs) else qOf neg (n * 10 ^ k.natAbs) 1
def litVal (l : List UInt8) : Rat := if litCode l = 0 then litQ (sneg l) (dnum (lall l)) (expOf l) else 0

theorem srest_le (l : List UInt8) : (srest l).length ≤ l.length := by
  unfold srest
  split
  · simp
  · exact Nat.le_refl _
theorem lman_le (l : List UInt8) : (lman l).length ≤ l.length := Nat.le_trans (List.takeWhile_sublist _).length_le (srest_le l)
theorem lexp_le (l : List UInt8) : (lexp l).length ≤ l.length := by
  unfold lexp
  rw [List.length_tail]
  have := (List.dropWhile_sublist (l := srest l) (fun c => !isE c)).length_le
  have := srest_le l
  omega
theorem tw_dw (l : List UInt8) (p : UInt8 → Bool) : (l.takeWhile p).length + (l.dropWhile p).length = l.length := by
  rw [← List.length_append, List.takeWhile_append_dropWhile]
theorem lall_le (l : List UInt8) : (lall l).length ≤ (lman l).length := by
  unfold lall lahead lbehind
  rw [List.length_append, List.length_tail]
  have := tw_dw (lman l) (· != 46)
  omega
theorem lbehind_le (l : List UInt8) : (lbehind l).length ≤ (lall l).length := by
  unfold lall; rw [List.length_append]; omega
theorem xdig_le (l : List UInt8) : (xdig l).length ≤ l.length + 1 := by
  unfold xdig
  split
  · have := srest_le (lexp l); have := lexp_le l; omega
  · simp
theorem litCode_cases (l : List UInt8) : litCode l = 0 ∨ litCode l = 2 ∨ litCode l = 3 := by
  unfold litCode; split <;> (try split) <;> simp
theorem litCode_zero {l : List UInt8} (h : litCode l = 0) : litIs l = true ∧ dnum (xdig l) ≤ 400 ∧ (lall l).length ≤ 400 := by
  unfold litCode at h
  split at h
  · rename_i h1
    split at h
    · cases h
    · exact ⟨h1, by omega, by omega⟩
  · cases h
theorem litCode_ok {l : List UInt8} (h : litIs l = true) (h1 : dnum (xdig l) ≤ 400) (h2 : (lall l).length ≤ 400) : litCode l = 0 := by
  unfold litCode; rw [if_pos h, if_neg (by omega)]
theorem litIs_parts {l : List UInt8} (h : litIs l = true) : lall l ≠ [] ∧ xdig l ≠ [] ∧ (lall l).all isDig = true ∧ (xdig l).all isDig = true := by
  unfold litIs at h
  simp only [Bool.and_eq_true, Bool.not_eq_true', List.isEmpty_eq_false_iff] at h
  exact ⟨h.1.1, h.1.2, h.2.1, h.2.2⟩
theorem litIs_of {l : List UInt8} (h1 : lall l ≠ []) (h2 : xdig l ≠ []) (h3 : (lall l).all isDig = true) (h4 : (xdig l).all isDig = true) : litIs l = true := by
  unfold litIs
  simp only [Bool.and_eq_true, Bool.not_eq_true', List.isEmpty_eq_false_iff]
  exact ⟨⟨h1, h2⟩, h3, h4⟩

/-! Sizes. -/
theorem pow10_le {a b : Nat} (h : a ≤ b) : 10 ^ a ≤ 10 ^ b := Nat.pow_le_pow_right (by decide) h
theorem litQ_lt (neg : Bool) (n : Nat) (k : Int) {a b K : Nat} (hn : n < 10 ^ a) (hk : k.natAbs ≤ b) (hK : a + b < K) : (litQ neg n k).num.natAbs < 10 ^ K ∧ (litQ neg n k).den < 10 ^ K := by
  have h1 : 10 ^ a ≤ 10 ^ (a + b) := pow10_le (by omega)
  have h2 : 10 ^ (a + b) < 10 ^ K := Nat.pow_lt_pow_right (by decide) hK
  have h3 : 10 ^ k.natAbs ≤ 10 ^ b := pow10_le hk
  have h4 : 10 ^ b ≤ 10 ^ (a + b) := pow10_le (by omega)
  have hp : 0 < 10 ^ k.natAbs := Nat.pow_pos (by decide)
  unfold litQ
  split
  · have := qOf_le neg n hp
    exact ⟨by omega, by omega⟩
  · have := qOf_le neg (n * 10 ^ k.natAbs) (d := 1) (by decide)
    have h5 : n * 10 ^ k.natAbs ≤ 10 ^ a * 10 ^ b := Nat.mul_le_mul (by omega) h3
    rw [← Nat.pow_add] at h5
    have h6 : 0 < 10 ^ b := Nat.pow_pos (by decide)
    exact ⟨by omega, by omega⟩
theorem expOf_le {l : List UInt8} {K : Nat} (h : litCode l = 0) (hl : (lall l).length ≤ K) : (expOf l).natAbs ≤ 400 + K := by
  have h1 := litCode_zero h
  have h2 := lbehind_le l
  unfold expOf sg
  split <;> omega
theorem litVal_lt {l : List UInt8} {K : Nat} (hl : l.length ≤ K) : (litVal l).num.natAbs < 10 ^ (2 * K + 401) ∧ (litVal l).den < 10 ^ (2 * K + 401) := by
  unfold litVal
  split
  · rename_i h
    have h1 := lall_le l
    have h2 := lman_le l
    have h3 := litIs_parts (litCode_zero h).1
    have h4 := dnum_lt _ h3.2.2.1
    refine litQ_lt _ _ _ (a := K) (b := 400 + K) ?_ (expOf_le h (by omega)) (by omega)
    have := pow10_le (a := (lall l).length) (b := K) (by omega)
    omega
  · have : 1 < 10 ^ (2 * K + 401) := Nat.one_lt_pow (by omega) (by decide)
    exact ⟨by show 0 < _; omega, this⟩
theorem litVal_lt4 (l : List UInt8) : (litVal l).num.natAbs < 10 ^ 1201 ∧ (litVal l).den < 10 ^ 1201 := by
  unfold litVal
  generalize hk : 1201 = K
  split
  · rename_i h
    have h1 := litCode_zero h
    have h3 := litIs_parts h1.1
    have h4 := dnum_lt _ h3.2.2.1
    have h5 := expOf_le h h1.2.2
    refine litQ_lt _ _ _ (a := (lall l).length) (b := 800) h4 (by omega) (by omega)
  · have : 1 < 10 ^ K := Nat.one_lt_pow (by omega) (by decide)
    exact ⟨by show 0 < _; omega, this⟩
theorem QB.lit (l : List UInt8) : QB (litVal l) 1201 := ⟨limbs_pow10 (litVal_lt4 l).1, limbs_pow10 (litVal_lt4 l).2⟩

/-! How often a number is divided. -/
def cnt (b n : Nat) : Nat := if h : 1 < b ∧ 0 < n ∧ n % b = 0 then cnt b (n / b) + 1 else 0
termination_by n
decreasing_by exact Nat.div_lt_self h.2.1 h.1
def crest (b n : Nat) : Nat := if h : 1 < b ∧ 0 < n ∧ n % b = 0 then crest b (n / b) else n
termination_by n
decreasing_by exact Nat.div_lt_self h.2.1 h.1
theorem cnt_more {b n : Nat} (hb : 1 < b) (hn : 0 < n) (h : n % b = 0) : cnt b n = cnt b (n / b) + 1 ∧ crest b n = crest b (n / b) := by
  constructor
  · rw [cnt, dif_pos ⟨hb, hn, h⟩]
  · rw [crest, dif_pos ⟨hb, hn, h⟩]
theorem cnt_end {b n : Nat} (h : ¬ n % b = 0) : cnt b n = 0 ∧ crest b n = n := by
  constructor
  · rw [cnt, dif_neg (fun h2 => h h2.2.2)]
  · rw [crest, dif_neg (fun h2 => h h2.2.2)]
theorem cnt_eq {b : Nat} (hb : 1 < b) (n : Nat) (hn : 0 < n) : n = b ^ cnt b n * crest b n ∧ ¬ crest b n % b = 0 ∧ 0 < crest b n := by
  induction n using Nat.strongRecOn with
  | _ n ih =>
    by_cases h : n % b = 0
    · have h1 := cnt_more hb hn h
      have hq : 0 < n / b := Nat.div_pos (Nat.le_of_dvd hn (Nat.dvd_of_mod_eq_zero h)) (by omega)
      have h2 := ih (n / b) (Nat.div_lt_self hn hb) hq
      rw [h1.1, h1.2]
      refine ⟨?_, h2.2⟩
      have h3 : n = b * (n / b) := (Nat.mul_div_cancel' (Nat.dvd_of_mod_eq_zero h)).symm
      rw [Nat.pow_succ]
      calc n = b * (n / b) := h3
        _ = b * (b ^ cnt b (n / b) * crest b (n / b)) := by rw [← h2.1]
        _ = _ := by rw [Nat.mul_comm (b ^ cnt b (n / b)) b, Nat.mul_assoc]
    · have h1 := cnt_end h
      rw [h1.1, h1.2]
      exact ⟨by simp, h, hn⟩
theorem cnt_lt {b : Nat} (hb : 1 < b) {n K : Nat} (hn : 0 < n) (h : n < 10 ^ K) (hb2 : b = 2 ∨ b = 5) : cnt b n ≤ 4 * K := by
  have h1 := cnt_eq hb n hn
  have h2 : 2 ^ cnt b n ≤ b ^ cnt b n := Nat.pow_le_pow_left (by omega) _
  have h3 : b ^ cnt b n ≤ n := by
    have := Nat.mul_le_mul (Nat.le_refl (b ^ cnt b n)) (show 1 ≤ crest b n from h1.2.2)
    rw [Nat.mul_one, ← h1.1] at this; exact this
  have h4 : 10 ^ K ≤ 16 ^ K := Nat.pow_le_pow_left (by decide) _
  have h5 : 16 ^ K = 2 ^ (4 * K) := by rw [Nat.pow_mul]
  have h6 : 2 ^ cnt b n < 2 ^ (4 * K) := by omega
  exact Nat.le_of_lt ((Nat.pow_lt_pow_iff_right (by decide)).1 h6)
theorem crest_le (b n : Nat) (hb : 1 < b) : crest b n ≤ n := by
  rcases Nat.eq_zero_or_pos n with h | h
  · subst h; rw [crest, dif_neg (by omega)]; exact Nat.le_refl _
  · have h1 := cnt_eq hb n h
    have := Nat.mul_le_mul (show 1 ≤ b ^ cnt b n from Nat.pow_pos (by omega)) (Nat.le_refl (crest b n))
    rw [Nat.one_mul, ← h1.1] at this; exact this

/-! The places of a fraction. -/
def left25 (q : Rat) : Nat := crest 5 (crest 2 q.den)
def fin (q : Rat) : Bool := decide (left25 q = 1)
def places (q : Rat) : Nat := max (cnt 2 q.den) (cnt 5 (crest 2 q.den))
theorem den_pos (q : Rat) : 0 < q.den := q.den_pos
theorem den_parts (q : Rat) : q.den = 2 ^ cnt 2 q.den * (5 ^ cnt 5 (crest 2 q.den) * left25 q) := by
  have h1 := cnt_eq (b := 2) (by decide) q.den (den_pos q)
  have h2 := cnt_eq (b := 5) (by decide) (crest 2 q.den) h1.2.2
  conv => lhs; rw [h1.1, h2.1]
  rfl
theorem fin_dvd {q : Rat} (h : fin q = true) : q.den ∣ 10 ^ places q := by
  have h1 := den_parts q
  have h2 : left25 q = 1 := of_decide_eq_true h
  rw [h2, Nat.mul_one] at h1
  have h3 : (10 : Nat) ^ places q = 2 ^ places q * 5 ^ places q := by rw [← Nat.mul_pow]
  rw [h1, h3]
  exact Nat.mul_dvd_mul (Nat.pow_dvd_pow 2 (Nat.le_max_left _ _)) (Nat.pow_dvd_pow 5 (Nat.le_max_right _ _))
theorem cop_two {n : Nat} (h : ¬ n % 2 = 0) (k : Nat) : Nat.Coprime n (2 ^ k) := by
  apply Nat.Coprime.pow_right
  have h1 : Nat.gcd n 2 ∣ 2 := Nat.gcd_dvd_right n 2
  have h2 : Nat.gcd n 2 ∣ n := Nat.gcd_dvd_left n 2
  have h3 : Nat.gcd n 2 ≤ 2 := Nat.le_of_dvd (by decide) h1
  have h4 : 0 < Nat.gcd n 2 := Nat.gcd_pos_of_pos_right _ (by decide)
  have h5 : ¬ Nat.gcd n 2 = 2 := fun e => by rw [e] at h2; exact h (Nat.mod_eq_zero_of_dvd h2)
  show Nat.gcd n 2 = 1
  omega
theorem cop_five {n : Nat} (h : ¬ n % 5 = 0) (k : Nat) : Nat.Coprime n (5 ^ k) := by
  apply Nat.Coprime.pow_right
  have h1 : Nat.gcd n 5 ∣ 5 := Nat.gcd_dvd_right n 5
  have h2 : Nat.gcd n 5 ∣ n := Nat.gcd_dvd_left n 5
  have h3 : Nat.gcd n 5 ≤ 5 := Nat.le_of_dvd (by decide) h1
  have h4 : 0 < Nat.gcd n 5 := Nat.gcd_pos_of_pos_right _ (by decide)
  have h5 : ¬ Nat.gcd n 5 = 5 := fun e => by rw [e] at h2; exact h (Nat.mod_eq_zero_of_dvd h2)
  have h6 : Nat.gcd n 5 = 1 ∨ Nat.gcd n 5 = 2 ∨ Nat.gcd n 5 = 3 ∨ Nat.gcd n 5 = 4 := by omega
  show Nat.gcd n 5 = 1
  rcases h6 with e | e | e | e <;> rw [e] at h1 ⊢ <;> revert h1 <;> decide
theorem crest_cases (q : Rat) : ¬ left25 q % 2 = 0 ∧ ¬ left25 q % 5 = 0 ∧ left25 q ∣ q.den := by
  have h1 := cnt_eq (b := 2) (by decide) q.den (den_pos q)
  have h2 := cnt_eq (b := 5) (by decide) (crest 2 q.den) h1.2.2
  have h3 : left25 q ∣ crest 2 q.den := ⟨_, h2.1.trans (Nat.mul_comm _ _)⟩
  refine ⟨fun h => h1.2.1 (Nat.mod_eq_zero_of_dvd (Nat.dvd_trans (Nat.dvd_of_mod_eq_zero h) h3)), h2.2.1, Nat.dvd_trans h3 ⟨_, h1.1.trans (Nat.mul_comm _ _)⟩⟩
theorem fin_of_dvd {q : Rat} {k : Nat} (h : q.den ∣ 2 ^ k * 5 ^ k) : fin q = true := by
  have h1 := crest_cases q
  have h2 : left25 q ∣ 2 ^ k * 5 ^ k := Nat.dvd_trans h1.2.2 h
  have h3 : left25 q ∣ 5 ^ k := Nat.Coprime.dvd_of_dvd_mul_left (cop_two h1.1 k) h2
  have h4 : left25 q ∣ 1 := by
    have := cop_five h1.2.1 k
    have e : Nat.gcd (left25 q) (5 ^ k) = left25 q := Nat.gcd_eq_left h3
    rw [Nat.Coprime, e] at this
    rw [this]; exact Nat.dvd_refl _
  exact decide_eq_true (Nat.dvd_one.1 h4)
theorem fin_of_dvd10 {q : Rat} {k : Nat} (h : q.den ∣ 10 ^ k) : fin q = true := by
  refine fin_of_dvd (k := k) ?_
  rw [← Nat.mul_pow]; exact h
theorem qOf_den_dvd (neg : Bool) (n : Nat) {d : Nat} (hd : 0 < d) : (qOf neg n d).den ∣ d := by
  rw [qOf_den hd]
  exact Nat.div_dvd_of_dvd (Nat.gcd_dvd_right n d)
theorem fin_litQ (neg : Bool) (n : Nat) (k : Int) : fin (litQ neg n k) = true := by
  unfold litQ
  split
  · exact fin_of_dvd10 (qOf_den_dvd _ _ (Nat.pow_pos (by decide)))
  · exact fin_of_dvd10 (k := 0) (qOf_den_dvd _ _ (by decide))
theorem fin_lit (l : List UInt8) : fin (litVal l) = true := by
  unfold litVal
  split
  · exact fin_litQ _ _ _
  · exact fin_of_dvd10 (k := 0) (by show (1 : Nat) ∣ _; exact Nat.one_dvd _)
theorem places_lt {q : Rat} {K : Nat} (h : q.den < 10 ^ K) : places q ≤ 4 * K := by
  have h1 := cnt_eq (b := 2) (by decide) q.den (den_pos q)
  refine Nat.max_le.2 ⟨cnt_lt (by decide) (den_pos q) h (Or.inl rfl), cnt_lt (by decide) h1.2.2 (Nat.lt_of_le_of_lt (crest_le 2 _ (by decide)) h) (Or.inr rfl)⟩

/-! The text of a fraction. -/
def litNum (q : Rat) (p : Nat) : Nat := q.num.natAbs * 10 ^ p / q.den
def padTo (p : Nat) (l : List UInt8) : List UInt8 := List.replicate (p + 1 - l.length) 48 ++ l
def ptAt (p : Nat) (l : List UInt8) : List UInt8 := if 0 < p then l.take (l.length - p) ++ 46 :: l.drop (l.length - p) else l
def litText (q : Rat) : List UInt8 := (if decide (q < 0) = true then [45] else []) ++ ptAt (places q) (padTo (places q) (str (dec (litNum q (places q)))))
end Go.Proofs.YtafmhoeammbemaaDoor
