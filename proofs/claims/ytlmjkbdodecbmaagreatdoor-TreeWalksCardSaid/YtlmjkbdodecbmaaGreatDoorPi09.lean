/-
  Pi09: MathR MathS MathD MathE MathV MathW PrepM HeapQ (what is needed of them).
-/
import Derived.Test.YtlmjkbdodecbmaaGreatDoorPi05
import Derived.Test.YtlmjkbdodecbmaaGreatDoorPi08

namespace Go.Proofs.YtlmjkbdodecbmaaGreatDoor
open Go.RowKit
set_option linter.unusedVariables false
set_option linter.unusedSimpArgs false
/-- Sizes: numerator and denominator have at most k limbs. -/
def QB (q : Rat) (k : Nat) : Prop := (limbs q.num.natAbs).length ≤ k ∧ (limbs q.den).length ≤ k
theorem QB.mono {q : Rat} {k m : Nat} (h : QB q k) (hk : k ≤ m) : QB q m := ⟨Nat.le_trans h.1 hk, Nat.le_trans h.2 hk⟩
theorem QB.neg {q : Rat} {k : Nat} (h : QB q k) : QB (-q) k := by
  unfold QB; rw [(qneg_num q).1, (qneg_num q).2]; exact h
theorem mkRat_le (z : Int) {d : Nat} (hd : 0 < d) : (mkRat z d).num.natAbs ≤ z.natAbs ∧ (mkRat z d).den ≤ d := by
  have hd' : d ≠ 0 := by omega
  rw [Rat.mkRat_def, dif_neg hd', Rat.normalize_eq]
  refine ⟨?_, Nat.div_le_self _ _⟩
  show (z / ((Nat.gcd z.natAbs d : Nat) : Int)).natAbs ≤ z.natAbs
  rw [Int.natAbs_ediv_of_dvd (Int.ofNat_dvd_left.2 (Nat.gcd_dvd_left _ _))]
  exact Nat.div_le_self _ _
theorem qOf_le (neg : Bool) (n : Nat) {d : Nat} (hd : 0 < d) : (qOf neg n d).num.natAbs ≤ n ∧ (qOf neg n d).den ≤ d := by
  have h := mkRat_le (sg neg n) hd
  rw [sg_natAbs] at h
  exact h
theorem QB.of {n d k : Nat} (neg : Bool) (hn : (limbs n).length ≤ k) (hd : (limbs d).length ≤ k) (h0 : 0 < d) : QB (qOf neg n d) k := by
  have h := qOf_le neg n h0
  exact ⟨Nat.le_trans (limbs_length_mono h.1) hn, Nat.le_trans (limbs_length_mono h.2) hd⟩
theorem limbs_bound {n k : Nat} (h : n < 4294967296) (hk : 1 ≤ k) : (limbs n).length ≤ k := Nat.le_trans (limbs_length_le (k := 1) (by omega)) hk
theorem QB.zero (k : Nat) (hk : 1 ≤ k) : QB 0 k := ⟨limbs_bound (by decide) hk, limbs_bound (by decide) hk⟩
theorem QB.num {q : Rat} {k : Nat} (h : QB q k) : (limbs q.num.natAbs).length ≤ k := h.1
theorem QB.den {q : Rat} {k : Nat} (h : QB q k) : (limbs q.den).length ≤ k := h.2
theorem QB.add {a b : Rat} {i j : Nat} (ha : QB a i) (hb : QB b j) : QB (a + b) (i + j + 1) := by
  rw [q_add_eq]
  have h := mkRat_le (a.num * b.den + b.num * a.den) (Nat.mul_pos a.den_pos b.den_pos)
  have h1 : (a.num * b.den + b.num * a.den).natAbs ≤ a.num.natAbs * b.den + b.num.natAbs * a.den := by
    refine Nat.le_trans (Int.natAbs_add_le _ _) ?_
    rw [Int.natAbs_mul, Int.natAbs_mul]; simp
  have h2 := limbs_mul ha.1 hb.2
  have h3 := limbs_mul hb.1 ha.2
  rw [Nat.add_comm j i] at h3
  have h4 := limbs_add h2 h3
  have h5 := limbs_mul ha.2 hb.2
  exact ⟨Nat.le_trans (limbs_length_mono (Nat.le_trans h.1 h1)) h4, Nat.le_trans (limbs_length_mono h.2) (by omega)⟩
/-- A fraction's text. -/
def qtext (q : Rat) : List UInt8 := (if decide (q < 0) = true then [45] else []) ++ (str (dec q.num.natAbs) ++ (if q.den = 1 then [] else 47 :: str (dec q.den)))
/-- What a text says: the part ahead of the stroke and the one behind it. -/
def cutNeg (l : List UInt8) : Bool × List UInt8 := if l.head? = some 45 then (true, l.tail) else (false, l)
def cutAt (l : List UInt8) : List UInt8 := l.takeWhile (· != 47)
def cutOn (l : List UInt8) : List UInt8 := if 47 ∈ l then (l.dropWhile (· != 47)).tail else [49]
def qneg (l : List UInt8) : Bool := (cutNeg l).1
def qnum (l : List UInt8) : List UInt8 := cutAt (cutNeg l).2
def qden (l : List UInt8) : List UInt8 := cutOn (cutNeg l).2
/-- The fraction that is made of the parts. -/
def qmade (l : List UInt8) : Rat := qOf (qneg l) (pval (qnum l)) (pval (qden l))
def qcode (l : List UInt8) : Int :=
  if pcode (qnum l) = 3 ∨ pcode (qden l) = 3 then 3 else if pcode (qnum l) ≠ 0 ∨ pcode (qden l) ≠ 0 then 2 else if pval (qden l) = 0 then 3 else if qtext (qmade l) ≠ l then 3 else 0
def qval (l : List UInt8) : Rat := if qcode l = 0 then qmade l else 0
theorem pval_lt {l : List UInt8} {K : Nat} (h : l.length ≤ K) : pval l < 10 ^ K := by
  have h0 : 0 < 10 ^ K := Nat.pow_pos (by decide)
  unfold pval
  split
  · rename_i hok
    split
    · exact h0
    · simp only [numOk, Bool.and_eq_true] at hok
      exact Nat.lt_of_lt_of_le (dnum_lt l hok.1) (Nat.pow_le_pow_right (by decide) h)
  · exact h0
theorem limbs_pow10 {n k : Nat} (h : n < 10 ^ k) : (limbs n).length ≤ k :=
  limbs_length_le (Nat.lt_of_lt_of_le h (Nat.pow_le_pow_left (by decide) _))
theorem cutNeg_le (l : List UInt8) : (cutNeg l).2.length ≤ l.length := by
  unfold cutNeg; split <;> simp
theorem cutAt_le (l : List UInt8) : (cutAt l).length ≤ l.length := (List.takeWhile_sublist _).length_le
theorem cutOn_le (l : List UInt8) : (cutOn l).length ≤ l.length + 1 := by
  unfold cutOn
  split
  · have := (List.dropWhile_sublist (p := (· != 47)) (l := l)).length_le
    simp only [List.length_tail]; omega
  · simp
theorem qnum_le (l : List UInt8) : (qnum l).length ≤ l.length := Nat.le_trans (cutAt_le _) (cutNeg_le l)
theorem qden_le (l : List UInt8) : (qden l).length ≤ l.length + 1 := Nat.le_trans (cutOn_le _) (by have := cutNeg_le l; omega)
theorem qden_max (l : List UInt8) : (qden l).length ≤ max 1 l.length := by
  unfold qden cutOn
  have h1 := cutNeg_le l
  split
  · have := (List.dropWhile_sublist (p := (· != 47)) (l := (cutNeg l).2)).length_le
    simp only [List.length_tail]; omega
  · simp; omega
theorem qval_lt {l : List UInt8} {K : Nat} (h : l.length + 1 ≤ K) : (qval l).num.natAbs < 10 ^ K ∧ (qval l).den < 10 ^ K := by
  have h1 := pval_lt (l := qnum l) (K := K) (by have := qnum_le l; omega)
  have h2 := pval_lt (l := qden l) (K := K) (by have := qden_le l; omega)
  have h9 : 1 < 10 ^ K := Nat.one_lt_pow (by omega) (by decide)
  unfold qval
  split
  · rename_i h0
    have hd : 0 < pval (qden l) := by
      rcases Nat.eq_zero_or_pos (pval (qden l)) with h3 | h3
      · exfalso
        unfold qcode at h0
        rw [if_pos h3] at h0
        split at h0
        · omega
        · split at h0 <;> omega
      · exact h3
    have h4 := qOf_le (qneg l) (pval (qnum l)) hd
    exact ⟨Nat.lt_of_le_of_lt h4.1 h1, Nat.lt_of_le_of_lt h4.2 h2⟩
  · exact ⟨by show 0 < _; omega, h9⟩
theorem QB.val {l : List UInt8} {K : Nat} (h : l.length + 1 ≤ K) : QB (qval l) K :=
  ⟨limbs_pow10 (qval_lt h).1, limbs_pow10 (qval_lt h).2⟩
end Go.Proofs.YtlmjkbdodecbmaaGreatDoor

namespace Go.Proofs.YtlmjkbdodecbmaaGreatDoor
open Go.RowKit
set_option linter.unusedVariables false
set_option linter.unusedSimpArgs false
theorem str_dec_parts {n : Nat} (h : 0 < n) : (str (dec n)).map (fun c => c.toNat - 48) = (dig n).reverse := by
  rw [dec_pos h]
  unfold str
  rw [List.map_map, List.map_map]
  conv => rhs; rw [← List.map_id (dig n).reverse]
  refine List.map_congr_left fun x hx => ?_
  have := dig_lt n x (List.mem_reverse.1 hx)
  simp only [Function.comp_apply, UInt8.toNat_ofNat', id]
  omega
theorem str_dec_digs (n : Nat) : (str (dec n)).all isDig = true := by
  rcases Nat.eq_zero_or_pos n with h | h
  · subst h; decide
  · rw [List.all_eq_true]
    intro c hc
    rw [dec_pos h] at hc
    unfold str at hc
    rw [List.map_map] at hc
    obtain ⟨x, hx, rfl⟩ := List.mem_map.1 hc
    have := dig_lt n x (List.mem_reverse.1 hx)
    rw [isDig_iff]
    simp only [Function.comp_apply, UInt8.toNat_ofNat']
    omega
theorem dnum_dec (n : Nat) : dnum (str (dec n)) = n := by
  rcases Nat.eq_zero_or_pos n with h | h
  · subst h; decide
  · rw [dnum_rev, str_dec_parts h, List.reverse_reverse, dval_dig]
theorem dec_head {n : Nat} (h : 0 < n) : ∃ x t, dec n = (48 + x) :: t ∧ 0 < x ∧ x < 10 := by
  have h1 : dig n ≠ [] := fun h2 => by have := dig_eq_nil.1 h2; omega
  have h2 := dig_getLast n h1
  have h3 := dig_lt n _ (List.getLast_mem h1)
  rw [dec_pos h]
  refine ⟨(dig n).getLast h1, ((dig n).dropLast.reverse).map (48 + ·), ?_, by omega, h3⟩
  have h4 := List.dropLast_concat_getLast h1
  conv => lhs; rw [← h4]
  rw [List.reverse_append]
  rfl
theorem numOk_dec (n : Nat) : numOk (str (dec n)) = true := by
  rcases Nat.eq_zero_or_pos n with h | h
  · subst h; decide
  · obtain ⟨x, t, e, h1, h2⟩ := dec_head h
    have h3 := str_dec_digs n
    unfold numOk
    rw [h3, e]
    have h4 : (UInt8.ofNat (48 + x)) ≠ 48 := by
      intro h5
      have := congrArg UInt8.toNat h5
      simp only [UInt8.toNat_ofNat'] at this
      have h6 : (48 : UInt8).toNat = 48 := by decide
      omega
    have h5 : (UInt8.ofNat (48 + x) != 48) = true := bne_iff_ne.2 h4
    simp only [str, List.map_cons, List.headD_cons, h5]
    simp
theorem pcode_dec {n : Nat} (h : (dec n).length ≤ 1200) : pcode (str (dec n)) = 0 := by
  unfold pcode
  rw [numOk_dec, if_pos rfl, if_neg (by simp [str]; omega)]
theorem pval_dec {n : Nat} (h : (dec n).length ≤ 1200) : pval (str (dec n)) = n := by
  unfold pval
  rw [numOk_dec, if_pos rfl, if_neg (by simp [str]; omega), dnum_dec]
theorem dig_le {n k : Nat} (h : n < 10 ^ k) : (dig n).length ≤ k := by
  induction k generalizing n with
  | zero => have : n = 0 := by simp at h; omega
            subst this; rw [dig_zero]; simp
  | succ k ih =>
    rcases Nat.eq_zero_or_pos n with h0 | h0
    · subst h0; rw [dig_zero]; simp
    · rw [dig_pos h0]
      have : n / 10 < 10 ^ k := by rw [Nat.div_lt_iff_lt_mul (by decide)]; rwa [Nat.pow_succ] at h
      simp only [List.length_cons]
      have := ih this
      omega
theorem dec_le {n k : Nat} (h : n < 10 ^ k) (hk : 0 < k) : (dec n).length ≤ k := by
  unfold dec
  split
  · simp; omega
  · simp only [List.length_map, List.length_reverse]; exact dig_le h
theorem dec_no (n : Nat) (c : UInt8) (hc : isDig c = false) : c ∉ str (dec n) := fun h => by
  have := List.all_eq_true.1 (str_dec_digs n) c h
  rw [hc] at this
  cases this
theorem dec_ne_nil (n : Nat) : str (dec n) ≠ [] := by
  rcases Nat.eq_zero_or_pos n with h | h
  · subst h; decide
  · obtain ⟨x, t, e, h1, h2⟩ := dec_head h
    rw [e]; simp [str]
theorem dec_head_ne (n : Nat) (c : UInt8) (hc : isDig c = false) (t : List UInt8) : (str (dec n) ++ t).head? ≠ some c := by
  have h1 := dec_ne_nil n
  have h2 := dec_no n c hc
  cases h : str (dec n) with
  | nil => exact (h1 h).elim
  | cons x s =>
    rw [h] at h2
    simp only [List.cons_append, List.head?_cons]
    intro h3
    injection h3 with h3
    subst h3
    simp at h2
/-! A fraction's text is read as the fraction. -/
theorem cutNeg_qtext (q : Rat) : cutNeg (qtext q) = (decide (q < 0), str (dec q.num.natAbs) ++ (if q.den = 1 then [] else 47 :: str (dec q.den))) := by
  unfold cutNeg qtext
  by_cases h : q < 0
  · simp only [h, decide_true, if_true]
    simp
  · simp only [h, decide_false]
    rw [if_neg (by simp only [Bool.false_eq_true, if_false, List.nil_append]; exact dec_head_ne _ 45 (by decide) _)]
    simp
theorem takeWhile_stop {α : Type} [BEq α] [LawfulBEq α] (l t : List α) (c : α) (h : c ∉ l) : (l ++ c :: t).takeWhile (· != c) = l ∧ (l ++ c :: t).dropWhile (· != c) = c :: t := by
  induction l with
  | nil => simp
  | cons x l ih =>
    simp only [List.mem_cons, not_or] at h
    have hx : (x != c) = true := by simp; exact fun h2 => h.1 h2.symm
    have := ih h.2
    simp [List.takeWhile_cons, List.dropWhile_cons, hx, this.1, this.2]
theorem takeWhile_all {α : Type} [BEq α] [LawfulBEq α] (l : List α) (c : α) (h : c ∉ l) : l.takeWhile (· != c) = l := by
  induction l with
  | nil => simp
  | cons x l ih =>
    simp only [List.mem_cons, not_or] at h
    have hx : (x != c) = true := by simp; exact fun h2 => h.1 h2.symm
    simp [List.takeWhile_cons, hx, ih h.2]
theorem cut_stroke (n d : Nat) : cutAt (str (dec n) ++ 47 :: str (dec d)) = str (dec n) ∧ cutOn (str (dec n) ++ 47 :: str (dec d)) = str (dec d) := by
  have h := takeWhile_stop (str (dec n)) (str (dec d)) 47 (dec_no n 47 (by decide))
  refine ⟨h.1, ?_⟩
  unfold cutOn
  rw [if_pos (by simp), h.2]
  rfl
theorem cut_whole (n : Nat) : cutAt (str (dec n)) = str (dec n) ∧ cutOn (str (dec n)) = [49] := by
  refine ⟨takeWhile_all _ _ (dec_no n 47 (by decide)), ?_⟩
  unfold cutOn
  rw [if_neg (dec_no n 47 (by decide))]
theorem qtext_parts (q : Rat) : qneg (qtext q) = decide (q < 0) ∧ qnum (qtext q) = str (dec q.num.natAbs) ∧ qden (qtext q) = str (dec q.den) := by
  unfold qneg qnum qden
  rw [cutNeg_qtext]
  refine ⟨rfl, ?_⟩
  by_cases h : q.den = 1
  · simp only [h, if_true, List.append_nil]
    have := cut_whole q.num.natAbs
    rw [this.1, this.2]
    exact ⟨rfl, str_dec_one.symm⟩
  · simp only [h, if_false]
    have := cut_stroke q.num.natAbs q.den
    exact ⟨this.1, this.2⟩
theorem qparse_text (q : Rat) (h1 : (dec q.num.natAbs).length ≤ 1200) (h2 : (dec q.den).length ≤ 1200) : qcode (qtext q) = 0 ∧ qval (qtext q) = q := by
  obtain ⟨e1, e2, e3⟩ := qtext_parts q
  have hm : qmade (qtext q) = q := by
    unfold qmade
    rw [e1, e2, e3, pval_dec h1, pval_dec h2, qOf_self]
  have hc : qcode (qtext q) = 0 := by
    unfold qcode
    rw [hm, e2, e3, pcode_dec h1, pcode_dec h2, pval_dec h2, if_neg (by omega), if_neg (by omega), if_neg (by have := q.den_pos; omega), if_neg (by simp)]
  exact ⟨hc, by unfold qval; rw [hc, if_pos rfl, hm]⟩
theorem qOf_one (s : Bool) (n : Nat) : qOf s n 1 = ((sg s n : Int) : Rat) := by
  rw [qOf_frac _ _ (by omega)]; simp; grind
/-- The nearest whole number, of two the one farther from 0. -/
def qround (q : Rat) : Rat := qOf (decide (q < 0)) ((q.num.natAbs * 2 + q.den) / (q.den * 2)) 1
theorem QB.round {q : Rat} {k : Nat} (h : QB q k) : QB (qround q) (k + 2) := by
  unfold qround
  have h1 : (limbs 2).length ≤ 1 := limbs_bound (by decide) (by omega)
  have h2 : (limbs (q.num.natAbs * 2 + q.den)).length ≤ k + 2 := limbs_add (limbs_mul h.1 h1) (Nat.le_trans h.2 (by omega))
  exact QB.of _ (Nat.le_trans (limbs_length_mono (Nat.div_le_self _ _)) h2) (limbs_bound (by decide) (by omega)) (by decide)
end Go.Proofs.YtlmjkbdodecbmaaGreatDoor

namespace Go.Proofs.YtlmjkbdodecbmaaGreatDoor
open Go.RowKit
set_option linter.unusedVariables false
set_option linter.unusedSimpArgs false
/-! How often a number is divided. -/
def cnt (b n : Nat) : Nat := if h : 1 < b ∧ 0 < n ∧ n % b = 0 then cnt b (n / b) + 1 else 0
termination_by n
decreasing_by exact Nat.div_lt_self h.2.1 h.1
def crest (b n : Nat) : Nat := if h : 1 < b ∧ 0 < n ∧ n % b = 0 then crest b (n / b) else n
termination_by n
decreasing_by exact Nat.div_lt_self h.2.1 h.1
/-! The places of a fraction. -/
def left25 (q : Rat) : Nat := crest 5 (crest 2 q.den)
def fin (q : Rat) : Bool := decide (left25 q = 1)
def places (q : Rat) : Nat := max (cnt 2 q.den) (cnt 5 (crest 2 q.den))
theorem den_pos (q : Rat) : 0 < q.den := q.den_pos
end Go.Proofs.YtlmjkbdodecbmaaGreatDoor

namespace Go.Proofs.YtlmjkbdodecbmaaGreatDoor
open Go.RowKit
set_option linter.unusedVariables false
set_option linter.unusedSimpArgs false
/-- A fraction whose text is not too long. -/
def LOk (q : Rat) : Prop := QB q 1300 ∧ places q ≤ 1200 ∧ (dec q.num.natAbs).length ≤ 1200 ∧ (dec q.den).length ≤ 1200
theorem LOk.of {q : Rat} {K : Nat} (h1 : q.num.natAbs < 10 ^ K) (h2 : q.den < 10 ^ K) (hK : K ≤ 1200) (hK0 : 0 < K) (hp : places q ≤ 1200) : LOk q :=
  ⟨⟨Nat.le_trans (limbs_pow10 h1) (Nat.le_trans hK (by decide)), Nat.le_trans (limbs_pow10 h2) (Nat.le_trans hK (by decide))⟩, hp, Nat.le_trans (dec_le h1 hK0) hK, Nat.le_trans (dec_le h2 hK0) hK⟩
end Go.Proofs.YtlmjkbdodecbmaaGreatDoor

namespace Go.Proofs.YtlmjkbdodecbmaaGreatDoor
open Go.RowKit
set_option linter.unusedVariables false
set_option linter.unusedSimpArgs false
/-- A value: its kind, its number's text, its category. -/
abbrev valV (k : Int) (n c : List UInt8) : Value := .agg #[.int .i64 k, .string ⟨n.toArray⟩, .string ⟨c.toArray⟩]
structure V3 where
  k : Int
  n : List UInt8
  c : List UInt8
def vnum (k : Int) (n c : List UInt8) : Bool := decide (k = 1) && (decide (c = []) && decide (qcode n = 0))
def vvalid (k : Int) (n c : List UInt8) : Bool := if k = 0 then decide (n = []) && decide (c = []) else if k = 2 then decide (n = []) && decide (c.length ≤ 60) else vnum k n c
end Go.Proofs.YtlmjkbdodecbmaaGreatDoor

namespace Go.Proofs.YtlmjkbdodecbmaaGreatDoor
open Go.RowKit
set_option linter.unusedVariables false
set_option linter.unusedSimpArgs false
/-- A field: its name, kind, declared values, what stands in a missing one's place, what is done with others. -/
structure F5 where
  nm : List UInt8
  k : Int
  vals : List (List UInt8)
  r : V3
  inv : Int
def v0 : V3 := ⟨0, [], []⟩
end Go.Proofs.YtlmjkbdodecbmaaGreatDoor

namespace Go.Proofs.YtlmjkbdodecbmaaGreatDoor
open Go.RowKit
set_option linter.unusedVariables false
set_option linter.unusedSimpArgs false
/-- A block of three cells, a variable of the call's own. -/
structure Box3 (w : World) (b : Nat) (x y z : Value) : Prop where
  c0 : w.cell? ⟨b, 0, none⟩ = some x
  c1 : w.cell? ⟨b, 1, none⟩ = some y
  c2 : w.cell? ⟨b, 2, none⟩ = some z
  f0 : w.frozen? ⟨b, 0, none⟩ = false
  f1 : w.frozen? ⟨b, 1, none⟩ = false
  f2 : w.frozen? ⟨b, 2, none⟩ = false
theorem Box3.lt {w : World} {b : Nat} {x y z : Value} (h : Box3 w b x y z) : b < w.heap.size := World.block_lt_of_cell? w ⟨b, 0, none⟩ h.c0
theorem Box3.below {w w' : World} {b B : Nat} {x y z : Value} (h : Box3 w b x y z) (hb : Below B w w') (hlt : b < B) : Box3 w' b x y z :=
  ⟨(hb.cell (p := ⟨b, 0, none⟩) hlt).trans h.c0, (hb.cell (p := ⟨b, 1, none⟩) hlt).trans h.c1, (hb.cell (p := ⟨b, 2, none⟩) hlt).trans h.c2,
    (hb.frozen (p := ⟨b, 0, none⟩) hlt).trans h.f0, (hb.frozen (p := ⟨b, 1, none⟩) hlt).trans h.f1, (hb.frozen (p := ⟨b, 2, none⟩) hlt).trans h.f2⟩
theorem Box3.kept {w w' : World} {b : Nat} {x y z : Value} (h : Box3 w b x y z) (hb : Below w.heap.size w w') : Box3 w' b x y z := h.below hb h.lt
/-- A fraction of the program's in memory: of its sign, and of the numbers in lowest terms (no denominator where it is 0). -/
def den0 (q : Rat) : Nat := if q = 0 then 0 else q.den
def QIs (w : World) (v : Value) (q : Rat) : Prop := ∃ xo xl xc yo yl yc, v = .agg #[.bool (decide (q < 0)), .slice xo xl xc, .slice yo yl yc] ∧ NatIs w (.agg #[.slice xo xl xc]) q.num.natAbs ∧ NatIs w (.agg #[.slice yo yl yc]) (den0 q)
theorem QIs.below {w w' : World} {v : Value} {q : Rat} (h : QIs w v q) (hb : Below w.heap.size w w') : QIs w' v q := by
  obtain ⟨xo, xl, xc, yo, yl, yc, h1, h2, h3⟩ := h
  exact ⟨xo, xl, xc, yo, yl, yc, h1, h2.below hb, h3.below hb⟩
theorem QIs.mk {w : World} {x y : Value} {q : Rat} {s : Bool} (hs : s = decide (q < 0)) (h2 : NatIs w (.agg #[x]) q.num.natAbs) (h3 : NatIs w (.agg #[y]) (den0 q)) : QIs w (.agg #[.bool s, x, y]) q := by
  obtain ⟨ao, ca, h8, _⟩ := h2.open
  obtain ⟨bo, cb, h9, _⟩ := h3.open
  cases h8
  cases h9
  subst hs
  exact ⟨_, _, _, _, _, _, rfl, h2, h3⟩
theorem QIs.zero (w : World) : QIs w (.agg #[.bool false, .slice none 0 0, .slice none 0 0]) 0 := QIs.mk (by decide) (NatIs.zero w) (NatIs.zero w)
/-- A fraction of the document's in memory. -/
def RQIs (w : World) (v : Value) (q : Rat) : Prop := ∃ xo xl xc yo yl yc, v = .agg #[.bool (decide (q < 0)), .slice xo xl xc, .slice yo yl yc] ∧ RIs w (.slice xo xl xc) q.num.natAbs ∧ RIs w (.slice yo yl yc) q.den
theorem RQIs.below {w w' : World} {v : Value} {q : Rat} (h : RQIs w v q) (hb : Below w.heap.size w w') : RQIs w' v q := by
  obtain ⟨xo, xl, xc, yo, yl, yc, h1, h2, h3⟩ := h
  exact ⟨xo, xl, xc, yo, yl, yc, h1, h2.below hb, h3.below hb⟩
theorem load_rat {w : World} {b : Nat} {x y z : Value} (h : Box3 w b x y z) : (loadVar 145 ⟨b, 0, none⟩).run Tryz.prog w = .ok (.agg #[x, y, z]) w := by
  have h0 := h.c0
  have h1 := h.c1
  have h2 := h.c2
  simp [go_sem, h0, h1, h2]
/-- The end of a function whose one result is a fraction. -/
theorem ret_rat {fn : Func} {s : Nat} {R : Ending → World → Prop} {a : Act} {w : World} {b : Nat} {x y z : Value} (hres : fn.results = #[.cell s 145]) (hp : a.tmps.getD s undef = .pointer (some ⟨b, 0, none⟩)) (hc : Box3 w b x y z) (hd : a.defers = []) (hR : R (.returned (.agg #[x, y, z])) w) : bodyPost Tryz.prog fn R .ret a w := by
  refine bodyPost_ret (v := .agg #[x, y, z]) ?_ hd hR
  have hp' : a.tmps[s]?.getD undef = .pointer (some ⟨b, 0, none⟩) := by simpa using hp
  simp only [results, hres]
  simp [Sem.run_bind, Sem.run_pure, Result.andThen, hp', asAddr, load_rat hc]
/-- The end of a function whose results are a fraction and a plain value. -/
theorem ret_rat_tmp {fn : Func} {s t : Nat} {R : Ending → World → Prop} {a : Act} {w : World} {b : Nat} {x y z u : Value} (hres : fn.results = #[.cell s 145, .tmp t]) (hp : a.tmps.getD s undef = .pointer (some ⟨b, 0, none⟩)) (hu : a.tmps.getD t undef = u) (hc : Box3 w b x y z) (hd : a.defers = []) (hR : R (.returned (.tuple #[.agg #[x, y, z], u])) w) : bodyPost Tryz.prog fn R .ret a w := by
  refine bodyPost_ret (v := .tuple #[.agg #[x, y, z], u]) ?_ hd hR
  rw [results_cell_tmp hres, hp, hu]
  simp [asAddr, load_rat hc]
/-- Stores into a box of three cells. -/
theorem Box3.set0 {w : World} {b : Nat} {x y z : Value} (h : Box3 w b x y z) (u : Value) : Box3 (w.setCell ⟨b, 0, none⟩ u) b u y z := by
  have e0 := h.c0
  have e1 := h.c1
  have e2 := h.c2
  have g0 := h.f0
  have g1 := h.f1
  have g2 := h.f2
  exact ⟨by go_simp, by go_simp, by go_simp, by go_simp, by go_simp, by go_simp⟩
theorem Box3.set1 {w : World} {b : Nat} {x y z : Value} (h : Box3 w b x y z) (u : Value) : Box3 (w.setCell ⟨b, 1, none⟩ u) b x u z := by
  have e0 := h.c0
  have e1 := h.c1
  have e2 := h.c2
  have g0 := h.f0
  have g1 := h.f1
  have g2 := h.f2
  exact ⟨by go_simp, by go_simp, by go_simp, by go_simp, by go_simp, by go_simp⟩
theorem Box3.set2 {w : World} {b : Nat} {x y z : Value} (h : Box3 w b x y z) (u : Value) : Box3 (w.setCell ⟨b, 2, none⟩ u) b x y u := by
  have e0 := h.c0
  have e1 := h.c1
  have e2 := h.c2
  have g0 := h.f0
  have g1 := h.f1
  have g2 := h.f2
  exact ⟨by go_simp, by go_simp, by go_simp, by go_simp, by go_simp, by go_simp⟩
theorem Box3.setOther {w : World} {b g : Nat} {x y z : Value} (h : Box3 w b x y z) (hne : b ≠ g) (j : Nat) (u : Value) : Box3 (w.setCell ⟨g, j, none⟩ u) b x y z := by
  have hg : (w.setCell ⟨g, j, none⟩ u).heap[b]? = w.heap[b]? := (grownBy_set (grownBy_refl w (some g)) j u).block b h.lt (by simpa using hne)
  exact ⟨(World.cell?_of_block (w := w) (a := ⟨b, 0, none⟩) hg).trans h.c0, (World.cell?_of_block (w := w) (a := ⟨b, 1, none⟩) hg).trans h.c1, (World.cell?_of_block (w := w) (a := ⟨b, 2, none⟩) hg).trans h.c2,
    (World.frozen?_of_block (w := w) (a := ⟨b, 0, none⟩) hg).trans h.f0, (World.frozen?_of_block (w := w) (a := ⟨b, 1, none⟩) hg).trans h.f1, (World.frozen?_of_block (w := w) (a := ⟨b, 2, none⟩) hg).trans h.f2⟩
theorem NatIs.form {w : World} {v : Value} {n : Nat} (h : NatIs w v n) : ∃ o l c, v = .agg #[.slice o l c] := by
  obtain ⟨ao, ca, rfl, _⟩ := h.open
  exact ⟨_, _, _, rfl⟩
theorem RIs.form {w : World} {v : Value} {n : Nat} (h : RIs w v n) : ∃ o l c, v = .slice o l c := by
  obtain ⟨ao, ca, rfl, _⟩ := h.open
  exact ⟨_, _, _, rfl⟩
theorem NatIs.setS {w : World} {v u : Value} {n p l c : Nat} {o : Option Addr} (h : NatIs w v n) (hb : Box w p (.slice o l c)) : NatIs (w.setCell ⟨p, 0, none⟩ u) v n := h.set _ _ (fun n e => by rw [hb.cell] at e; cases e)
theorem QIs.form {w : World} {v : Value} {q : Rat} (h : QIs w v q) : ∃ s xo xl xc yo yl yc, v = .agg #[.bool s, .slice xo xl xc, .slice yo yl yc] ∧ s = decide (q < 0) ∧ NatIs w (.agg #[.slice xo xl xc]) q.num.natAbs ∧ NatIs w (.agg #[.slice yo yl yc]) (den0 q) := by
  obtain ⟨xo, xl, xc, yo, yl, yc, h1, h2, h3⟩ := h
  exact ⟨_, xo, xl, xc, yo, yl, yc, h1, rfl, h2, h3⟩
theorem RQIs.form {w : World} {v : Value} {q : Rat} (h : RQIs w v q) : ∃ s xo xl xc yo yl yc, v = .agg #[.bool s, .slice xo xl xc, .slice yo yl yc] ∧ s = decide (q < 0) ∧ RIs w (.slice xo xl xc) q.num.natAbs ∧ RIs w (.slice yo yl yc) q.den := by
  obtain ⟨xo, xl, xc, yo, yl, yc, h1, h2, h3⟩ := h
  exact ⟨_, xo, xl, xc, yo, yl, yc, h1, rfl, h2, h3⟩
theorem RQIs.mk {w : World} {x y : Value} {q : Rat} {s : Bool} (hs : s = decide (q < 0)) (h2 : RIs w x q.num.natAbs) (h3 : RIs w y q.den) : RQIs w (.agg #[.bool s, x, y]) q := by
  obtain ⟨ao, ca, rfl, _⟩ := h2.open
  obtain ⟨bo, cb, rfl, _⟩ := h3.open
  subst hs
  exact ⟨_, _, _, _, _, _, rfl, h2, h3⟩
/-- A cell that holds no number. -/
theorem RIs.set {w : World} {v : Value} {n : Nat} (h : RIs w v n) (p : Addr) (u : Value) (hp : ∀ n, w.cell? p ≠ some (.int .i64 n)) : RIs (w.setCell p u) v n := Ints.set h p u hp
theorem RIs.setS {w : World} {v u : Value} {n p l c : Nat} {o : Option Addr} (h : RIs w v n) (hb : Box w p (.slice o l c)) : RIs (w.setCell ⟨p, 0, none⟩ u) v n := h.set _ _ (fun n e => by rw [hb.cell] at e; cases e)
section
variable {w : World} {b : Nat} {s0 : Bool} {o1 o2 : Option Addr} {l1 l2 c1 c2 : Nat} {u0 u1 u2 : Value}
theorem NatIs.set3 {v : Value} {n : Nat} (h : NatIs w v n) (hb : Box3 w b (.bool s0) (.slice o1 l1 c1) (.slice o2 l2 c2)) : NatIs (((w.setCell ⟨b, 0, none⟩ u0).setCell ⟨b, 1, none⟩ u1).setCell ⟨b, 2, none⟩ u2) v n := by
  have e1 := (hb.set0 u0).c1
  have e2 := ((hb.set0 u0).set1 u1).c2
  exact ((h.set _ _ (fun n e => by rw [hb.c0] at e; cases e)).set _ _ (fun n e => by rw [e1] at e; cases e)).set _ _ (fun n e => by rw [e2] at e; cases e)
theorem RIs.set3 {v : Value} {n : Nat} (h : RIs w v n) (hb : Box3 w b (.bool s0) (.slice o1 l1 c1) (.slice o2 l2 c2)) : RIs (((w.setCell ⟨b, 0, none⟩ u0).setCell ⟨b, 1, none⟩ u1).setCell ⟨b, 2, none⟩ u2) v n := by
  have e1 := (hb.set0 u0).c1
  have e2 := ((hb.set0 u0).set1 u1).c2
  exact ((h.set _ _ (fun n e => by rw [hb.c0] at e; cases e)).set _ _ (fun n e => by rw [e1] at e; cases e)).set _ _ (fun n e => by rw [e2] at e; cases e)
theorem QIs.set3 {v : Value} {q : Rat} (h : QIs w v q) (hb : Box3 w b (.bool s0) (.slice o1 l1 c1) (.slice o2 l2 c2)) : QIs (((w.setCell ⟨b, 0, none⟩ u0).setCell ⟨b, 1, none⟩ u1).setCell ⟨b, 2, none⟩ u2) v q := by
  obtain ⟨s, xo, xl, xc, yo, yl, yc, rfl, h1, h2, h3⟩ := h.form
  exact QIs.mk h1 (h2.set3 hb) (h3.set3 hb)
theorem RQIs.set3 {v : Value} {q : Rat} (h : RQIs w v q) (hb : Box3 w b (.bool s0) (.slice o1 l1 c1) (.slice o2 l2 c2)) : RQIs (((w.setCell ⟨b, 0, none⟩ u0).setCell ⟨b, 1, none⟩ u1).setCell ⟨b, 2, none⟩ u2) v q := by
  obtain ⟨s, xo, xl, xc, yo, yl, yc, rfl, h1, h2, h3⟩ := h.form
  exact RQIs.mk h1 (h2.set3 hb) (h3.set3 hb)
theorem QIs.setS {v u : Value} {q : Rat} {p l c : Nat} {o : Option Addr} (h : QIs w v q) (hb : Box w p (.slice o l c)) : QIs (w.setCell ⟨p, 0, none⟩ u) v q := by
  obtain ⟨s, xo, xl, xc, yo, yl, yc, rfl, h1, h2, h3⟩ := h.form
  exact QIs.mk h1 (h2.setS hb) (h3.setS hb)
theorem RQIs.setS {v u : Value} {q : Rat} {p l c : Nat} {o : Option Addr} (h : RQIs w v q) (hb : Box w p (.slice o l c)) : RQIs (w.setCell ⟨p, 0, none⟩ u) v q := by
  obtain ⟨s, xo, xl, xc, yo, yl, yc, rfl, h1, h2, h3⟩ := h.form
  exact RQIs.mk h1 (h2.setS hb) (h3.setS hb)
theorem Box.set3 {g : Nat} {v : Value} (h : Box w g v) (hne : g ≠ b) : Box (((w.setCell ⟨b, 0, none⟩ u0).setCell ⟨b, 1, none⟩ u1).setCell ⟨b, 2, none⟩ u2) g v := ((h.setOther hne 0 u0).setOther hne 1 u1).setOther hne 2 u2
theorem Box3.set3 {x y z : Value} (h : Box3 w b x y z) : Box3 (((w.setCell ⟨b, 0, none⟩ u0).setCell ⟨b, 1, none⟩ u1).setCell ⟨b, 2, none⟩ u2) b u0 u1 u2 := ((h.set0 u0).set1 u1).set2 u2
theorem below_set3 {B : Nat} {w0 : World} (h : Below B w0 w) (hb : B ≤ b) : Below B w0 (((w.setCell ⟨b, 0, none⟩ u0).setCell ⟨b, 1, none⟩ u1).setCell ⟨b, 2, none⟩ u2) :=
  ((h.setCell (p := ⟨b, 0, none⟩) hb _).setCell (p := ⟨b, 1, none⟩) hb _).setCell (p := ⟨b, 2, none⟩) hb _
end
theorem Box3.drew {w : World} {b : Nat} {x y z : Value} (h : Box3 w b x y z) : Box3 w.drew b x y z := ⟨h.c0, h.c1, h.c2, h.f0, h.f1, h.f2⟩
/-- What a function that makes a fraction answers. -/
def QPost (w : World) (q : Rat) (e : Ending) (w' : World) : Prop := ∃ r, e = .returned r ∧ QIs w' r q ∧ Below w.heap.size w w'
def QPostC (w : World) (q : Rat) (c : Int) (e : Ending) (w' : World) : Prop := ∃ r, e = .returned (.tuple #[r, .int .i64 c]) ∧ QIs w' r q ∧ Below w.heap.size w w'
def RQPost (w : World) (q : Rat) (e : Ending) (w' : World) : Prop := ∃ r, e = .returned r ∧ RQIs w' r q ∧ Below w.heap.size w w'
theorem QPost.out {w w' : World} {q : Rat} {e : Ending} (h : QPost w q e w') : ∃ s xo xl xc yo yl yc, e = .returned (.agg #[.bool s, .slice xo xl xc, .slice yo yl yc]) ∧ s = decide (q < 0) ∧ NatIs w' (.agg #[.slice xo xl xc]) q.num.natAbs ∧ NatIs w' (.agg #[.slice yo yl yc]) (den0 q) ∧ QIs w' (.agg #[.bool s, .slice xo xl xc, .slice yo yl yc]) q ∧ Below w.heap.size w w' := by
  obtain ⟨r, rfl, hq, hb⟩ := h
  obtain ⟨s, xo, xl, xc, yo, yl, yc, rfl, h1, h2, h3⟩ := hq.form
  exact ⟨_, _, _, _, _, _, _, rfl, h1, h2, h3, hq, hb⟩
theorem RQPost.out {w w' : World} {q : Rat} {e : Ending} (h : RQPost w q e w') : ∃ s xo xl xc yo yl yc, e = .returned (.agg #[.bool s, .slice xo xl xc, .slice yo yl yc]) ∧ s = decide (q < 0) ∧ RIs w' (.slice xo xl xc) q.num.natAbs ∧ RIs w' (.slice yo yl yc) q.den ∧ RQIs w' (.agg #[.bool s, .slice xo xl xc, .slice yo yl yc]) q ∧ Below w.heap.size w w' := by
  obtain ⟨r, rfl, hq, hb⟩ := h
  obtain ⟨s, xo, xl, xc, yo, yl, yc, rfl, h1, h2, h3⟩ := hq.form
  exact ⟨_, _, _, _, _, _, _, rfl, h1, h2, h3, hq, hb⟩
section
variable {fn : Func} {s : Nat} {act : Act} {w w9 : World} {b : Nat} {s0 : Bool} {o1 o2 : Option Addr} {l1 l2 c1 c2 : Nat} {u0 u1 u2 : Value} {q : Rat}
/-- A fraction is stored into the result's box, and that's the end. -/
theorem end_q (hres : fn.results = #[.cell s 145]) (hp : act.tmps.getD s undef = .pointer (some ⟨b, 0, none⟩)) (hd : act.defers = []) (hb : Box3 w9 b (.bool s0) (.slice o1 l1 c1) (.slice o2 l2 c2)) (hge : w.heap.size ≤ b) (hq : QIs w9 (.agg #[u0, u1, u2]) q) (hB : Below w.heap.size w w9) :
    bodyPost Tryz.prog fn (QPost w q) .ret act (((w9.setCell ⟨b, 0, none⟩ u0).setCell ⟨b, 1, none⟩ u1).setCell ⟨b, 2, none⟩ u2) :=
  ret_rat hres hp hb.set3 hd ⟨_, rfl, hq.set3 hb, below_set3 hB hge⟩
theorem end_qc {t : Nat} {c : Int} (hres : fn.results = #[.cell s 145, .tmp t]) (hp : act.tmps.getD s undef = .pointer (some ⟨b, 0, none⟩)) (hu : act.tmps.getD t undef = .int .i64 c) (hd : act.defers = []) (hb : Box3 w9 b (.bool s0) (.slice o1 l1 c1) (.slice o2 l2 c2)) (hge : w.heap.size ≤ b) (hq : QIs w9 (.agg #[u0, u1, u2]) q) (hB : Below w.heap.size w w9) :
    bodyPost Tryz.prog fn (QPostC w q c) .ret act (((w9.setCell ⟨b, 0, none⟩ u0).setCell ⟨b, 1, none⟩ u1).setCell ⟨b, 2, none⟩ u2) :=
  ret_rat_tmp hres hp hu hb.set3 hd ⟨_, rfl, hq.set3 hb, below_set3 hB hge⟩
end
/-- The numbers of a made fraction. -/
theorem QIs.made {w : World} {x y : Value} {n d : Nat} {neg : Bool} (hn : 0 < n) (hd : 0 < d) (hx : NatIs w (.agg #[x]) (n / Nat.gcd n d)) (hy : NatIs w (.agg #[y]) (d / Nat.gcd n d)) : QIs w (.agg #[.bool neg, x, y]) (qOf neg n d) :=
  QIs.mk (qOf_neg hn hd).symm (by rw [qOf_num hd, sg_natAbs]; exact hx) (by unfold den0; rw [if_neg (qOf_eq_zero hn hd), qOf_den hd]; exact hy)
def RQPostC (w : World) (q : Rat) (c : Int) (e : Ending) (w' : World) : Prop := ∃ r, e = .returned (.tuple #[r, .int .i64 c]) ∧ RQIs w' r q ∧ Below w.heap.size w w'
section
variable {fn : Func} {s : Nat} {act : Act} {w w9 : World} {b : Nat} {s0 : Bool} {o1 o2 : Option Addr} {l1 l2 c1 c2 : Nat} {u0 u1 u2 : Value} {q : Rat}
end
theorem RQIs.made {w : World} {x y : Value} {n d : Nat} {neg s : Bool} (hd : 0 < d) (hs : s = (neg && decide (0 < n))) (hx : RIs w x (n / Nat.gcd n d)) (hy : RIs w y (d / Nat.gcd n d)) : RQIs w (.agg #[.bool s, x, y]) (qOf neg n d) := by
  refine RQIs.mk ?_ (by rw [qOf_num hd, sg_natAbs]; exact hx) (by rw [qOf_den hd]; exact hy)
  rw [hs]
  rcases Nat.eq_zero_or_pos n with h | h
  · subst h
    rw [qOf_zero]
    cases neg <;> decide
  · rw [qOf_neg h hd, decide_eq_true h]; simp
theorem RQIs.zero {w : World} {y : Value} (hy : RIs w y 1) : RQIs w (.agg #[.bool false, .slice none 0 0, y]) 0 := RQIs.mk (by decide) (RIs.nil w) hy
theorem QPostC.out {w w' : World} {q : Rat} {c : Int} {e : Ending} (h : QPostC w q c e w') : ∃ s xo xl xc yo yl yc, e = .returned (.tuple #[.agg #[.bool s, .slice xo xl xc, .slice yo yl yc], .int .i64 c]) ∧ s = decide (q < 0) ∧ NatIs w' (.agg #[.slice xo xl xc]) q.num.natAbs ∧ NatIs w' (.agg #[.slice yo yl yc]) (den0 q) ∧ QIs w' (.agg #[.bool s, .slice xo xl xc, .slice yo yl yc]) q ∧ Below w.heap.size w w' := by
  obtain ⟨r, rfl, hq, hb⟩ := h
  obtain ⟨s, xo, xl, xc, yo, yl, yc, rfl, h1, h2, h3⟩ := hq.form
  exact ⟨_, _, _, _, _, _, _, rfl, h1, h2, h3, hq, hb⟩
theorem RQPostC.out {w w' : World} {q : Rat} {c : Int} {e : Ending} (h : RQPostC w q c e w') : ∃ s xo xl xc yo yl yc, e = .returned (.tuple #[.agg #[.bool s, .slice xo xl xc, .slice yo yl yc], .int .i64 c]) ∧ s = decide (q < 0) ∧ RIs w' (.slice xo xl xc) q.num.natAbs ∧ RIs w' (.slice yo yl yc) q.den ∧ RQIs w' (.agg #[.bool s, .slice xo xl xc, .slice yo yl yc]) q ∧ Below w.heap.size w w' := by
  obtain ⟨r, rfl, hq, hb⟩ := h
  obtain ⟨s, xo, xl, xc, yo, yl, yc, rfl, h1, h2, h3⟩ := hq.form
  exact ⟨_, _, _, _, _, _, _, rfl, h1, h2, h3, hq, hb⟩
end Go.Proofs.YtlmjkbdodecbmaaGreatDoor
