/-
  Plain facts on decimal literals (2): a text that is told is read back, an exponent moves the point, what the document's own reading finds.
-/
import Derived.Test.YtafmhoeammbemaaDoorMathD
namespace Go.Proofs.YtafmhoeammbemaaDoor
open Go.RowKit
set_option linter.unusedVariables false
set_option linter.unusedSimpArgs false

/-! Digits. -/
theorem tw_stop (p : UInt8 → Bool) (A t : List UInt8) (c : UInt8) (hA : A.all p = true) (hc : p c = false) : (A ++ c :: t).takeWhile p = A ∧ (A ++ c :: t).dropWhile p = c :: t := by
  induction A with
  | nil => simp [hc]
  | cons x A ih =>
    simp only [List.all_cons, Bool.and_eq_true] at hA
    have := ih hA.2
    simp [List.takeWhile_cons, List.dropWhile_cons, hA.1, this.1, this.2]
theorem tw_all (p : UInt8 → Bool) (A : List UInt8) (hA : A.all p = true) : A.takeWhile p = A ∧ A.dropWhile p = [] := by
  induction A with
  | nil => simp
  | cons x A ih =>
    simp only [List.all_cons, Bool.and_eq_true] at hA
    have := ih hA.2
    simp [List.takeWhile_cons, List.dropWhile_cons, hA.1, this.1, this.2]
theorem any_not (p : UInt8 → Bool) (A : List UInt8) (hA : A.all (fun c => !p c) = true) : A.any p = false := by
  induction A with
  | nil => rfl
  | cons x A ih =>
    simp only [List.all_cons, Bool.and_eq_true, Bool.not_eq_true'] at hA
    simp only [List.any_cons, hA.1, Bool.false_or]
    exact ih (by simpa using hA.2)
theorem dig_notE {c : UInt8} (h : isDig c = true) : (!isE c) = true := by
  have h1 := isDig_iff.1 h
  simp only [isE, Bool.not_eq_true', Bool.or_eq_false_iff, beq_eq_false_iff_ne]
  exact ⟨fun e => by subst e; exact absurd h1.2 (by decide), fun e => by subst e; exact absurd h1.2 (by decide)⟩
theorem dig_ne46 {c : UInt8} (h : isDig c = true) : (c != 46) = true := by
  have h1 := isDig_iff.1 h
  simp only [bne_iff_ne, ne_eq]
  exact fun e => by subst e; exact absurd h1.1 (by decide)
theorem all_imp {p q : UInt8 → Bool} {A : List UInt8} (h : A.all p = true) (hi : ∀ c, p c = true → q c = true) : A.all q = true :=
  List.all_eq_true.2 fun c hc => hi c (List.all_eq_true.1 h c hc)
theorem dnum_noughts (k : Nat) : dnum (List.replicate k 48) = 0 := by
  induction k with
  | zero => rfl
  | succ k ih => rw [List.replicate_succ', dnum_snoc, ih]; rfl
theorem noughts_digs (k : Nat) : (List.replicate k (48 : UInt8)).all isDig = true := by
  rw [List.all_eq_true]
  intro c hc
  rw [(List.mem_replicate.1 hc).2]; rfl
theorem dnum_pad (k : Nat) (l : List UInt8) : dnum (List.replicate k 48 ++ l) = dnum l := by rw [dnum_append, dnum_noughts]; omega

/-! A literal without an exponent. -/
def sgn (neg : Bool) : List UInt8 := if neg = true then [45] else []
theorem srest_sgn (neg : Bool) (t : List UInt8) (h1 : t.head? ≠ some 45) (h2 : t.head? ≠ some 43) : srest (sgn neg ++ t) = t ∧ sneg (sgn neg ++ t) = neg := by
  cases neg
  · refine ⟨?_, ?_⟩
    · show srest t = t
      unfold srest; rw [if_neg (by simp [h1, h2])]
    · show decide (t.head? = some 45) = false
      exact decide_eq_false h1
  · exact ⟨rfl, rfl⟩
theorem head_dig {A t : List UInt8} (hA : A.all isDig = true) (hne : A ≠ []) (c : UInt8) (hc : isDig c = false) : (A ++ t).head? ≠ some c := by
  cases A with
  | nil => exact (hne rfl).elim
  | cons x A =>
    simp only [List.all_cons, Bool.and_eq_true] at hA
    simp only [List.cons_append, List.head?_cons]
    intro h
    injection h with h
    rw [← h, hA.1] at hc
    cases hc
theorem head_pt {A B : List UInt8} (hA : A.all isDig = true) (c : UInt8) (hc : isDig c = false) (h46 : c ≠ 46) : (A ++ 46 :: B).head? ≠ some c := by
  cases A with
  | nil => simp only [List.nil_append, List.head?_cons]; intro h; injection h with h; exact h46 h.symm
  | cons x A => exact head_dig hA (by simp) c hc
theorem noE_parts {l : List UInt8} (h : (srest l).all (fun c => !isE c) = true) : lman l = srest l ∧ hasE l = false ∧ xneg l = false ∧ xdig l = [48] := by
  have h1 : hasE l = false := any_not isE _ h
  refine ⟨(tw_all _ _ h).1, h1, ?_, ?_⟩
  · unfold xneg; rw [h1]; rfl
  · unfold xdig; rw [h1]; rfl
theorem lit_pt (neg : Bool) (A B : List UInt8) (hA : A.all isDig = true) (hB : B.all isDig = true) (hne : A ++ B ≠ []) (hl : (A ++ B).length ≤ 400) :
    litCode (sgn neg ++ (A ++ 46 :: B)) = 0 ∧ litVal (sgn neg ++ (A ++ 46 :: B)) = litQ neg (dnum (A ++ B)) (-(B.length : Int)) := by
  have hs := srest_sgn neg (A ++ 46 :: B) (head_pt hA 45 (by decide) (by decide)) (head_pt hA 43 (by decide) (by decide))
  have hn : (A ++ 46 :: B).all (fun c => !isE c) = true := by
    rw [List.all_append, List.all_cons, all_imp hA (fun c => dig_notE), all_imp hB (fun c => dig_notE)]; rfl
  have hp := noE_parts (l := sgn neg ++ (A ++ 46 :: B)) (by rw [hs.1]; exact hn)
  have hw := tw_stop (· != 46) A B 46 (all_imp hA (fun c => dig_ne46)) rfl
  have ha : lahead (sgn neg ++ (A ++ 46 :: B)) = A := by unfold lahead; rw [hp.1, hs.1]; exact hw.1
  have hb : lbehind (sgn neg ++ (A ++ 46 :: B)) = B := by unfold lbehind; rw [hp.1, hs.1, hw.2]; rfl
  have hall : lall (sgn neg ++ (A ++ 46 :: B)) = A ++ B := by unfold lall; rw [ha, hb]
  have hc : litCode (sgn neg ++ (A ++ 46 :: B)) = 0 := by
    refine litCode_ok (litIs_of (by rw [hall]; exact hne) (by rw [hp.2.2.2]; simp) (by rw [hall, List.all_append, hA, hB]; rfl) (by rw [hp.2.2.2]; rfl)) (by rw [hp.2.2.2]; decide) (by rw [hall]; exact hl)
  refine ⟨hc, ?_⟩
  unfold litVal expOf
  rw [if_pos hc, hall, hb, hp.2.2.1, hp.2.2.2, hs.2]
  congr 1
  show (0 : Int) - _ = _
  omega
theorem lit_no (neg : Bool) (A : List UInt8) (hA : A.all isDig = true) (hne : A ≠ []) (hl : A.length ≤ 400) :
    litCode (sgn neg ++ A) = 0 ∧ litVal (sgn neg ++ A) = litQ neg (dnum A) 0 := by
  have h0 : ∀ c, isDig c = false → A.head? ≠ some c := fun c hc => by have := head_dig (t := []) hA hne c hc; rwa [List.append_nil] at this
  have hs := srest_sgn neg A (h0 45 (by decide)) (h0 43 (by decide))
  have hp := noE_parts (l := sgn neg ++ A) (by rw [hs.1]; exact all_imp hA (fun c => dig_notE))
  have hw := tw_all (· != 46) A (all_imp hA (fun c => dig_ne46))
  have ha : lahead (sgn neg ++ A) = A := by unfold lahead; rw [hp.1, hs.1]; exact hw.1
  have hb : lbehind (sgn neg ++ A) = [] := by unfold lbehind; rw [hp.1, hs.1, hw.2]; rfl
  have hall : lall (sgn neg ++ A) = A := by unfold lall; rw [ha, hb, List.append_nil]
  have hc : litCode (sgn neg ++ A) = 0 := by
    refine litCode_ok (litIs_of (by rw [hall]; exact hne) (by rw [hp.2.2.2]; simp) (by rw [hall]; exact hA) (by rw [hp.2.2.2]; rfl)) (by rw [hp.2.2.2]; decide) (by rw [hall]; exact hl)
  refine ⟨hc, ?_⟩
  unfold litVal expOf
  rw [if_pos hc, hall, hb, hp.2.2.1, hp.2.2.2, hs.2]
  rfl

/-! Numbers. -/
theorem qOf_eq {s : Bool} {n d m e : Nat} (hd : 0 < d) (he : 0 < e) (h : n * e = m * d) : qOf s n d = qOf s m e := by
  unfold qOf
  rw [Rat.mkRat_eq_iff (by omega) (by omega)]
  have h2 : ((n * e : Nat) : Int) = ((m * d : Nat) : Int) := by rw [h]
  rw [Int.natCast_mul, Int.natCast_mul] at h2
  unfold sg
  cases s
  · exact h2
  · simp only [if_true, Int.neg_mul]; rw [h2]
theorem litNum_eq {q : Rat} {p : Nat} (h : q.den ∣ 10 ^ p) : litNum q p * q.den = q.num.natAbs * 10 ^ p :=
  Nat.div_mul_cancel (Nat.dvd_trans h (Nat.dvd_mul_left _ _))
theorem lit_num {q : Rat} {p : Nat} (k : Nat) (h : q.den ∣ 10 ^ p) : litQ (decide (q < 0)) (litNum q p * 10 ^ k) (-((p + k : Nat) : Int)) = q := by
  have h1 := litNum_eq h
  conv => rhs; rw [← qOf_self q]
  have h0 : 0 < q.den := den_pos q
  unfold litQ
  split
  · rename_i hk
    have e : (-((p + k : Nat) : Int)).natAbs = p + k := by omega
    rw [e]
    refine qOf_eq (Nat.pow_pos (by decide)) h0 ?_
    rw [Nat.pow_add]
    calc litNum q p * 10 ^ k * q.den = litNum q p * q.den * 10 ^ k := by grind
      _ = _ := by rw [h1, Nat.mul_assoc]
  · rename_i hk
    have e : p + k = 0 := by omega
    have e1 : p = 0 := by omega
    have e2 : k = 0 := by omega
    subst e1; subst e2
    refine qOf_eq (by decide) h0 ?_
    simp only [Nat.pow_zero, Nat.mul_one, Nat.add_zero, Int.ofNat_zero, Int.neg_zero, Int.natAbs_zero, Int.natCast_zero] at h1 ⊢
    exact h1

/-! A text that is told is read as the number, with noughts more, too. -/
theorem padTo_digs (p n : Nat) : (padTo p (str (dec n))).all isDig = true ∧ dnum (padTo p (str (dec n))) = n ∧ p + 1 ≤ (padTo p (str (dec n))).length := by
  unfold padTo
  refine ⟨?_, ?_, ?_⟩
  · rw [List.all_append, noughts_digs, str_dec_digs]; rfl
  · rw [dnum_pad, dnum_dec]
  · rw [List.length_append, List.length_replicate]; omega
theorem litText_sgn (q : Rat) : litText q = sgn (decide (q < 0)) ++ ptAt (places q) (padTo (places q) (str (dec (litNum q (places q))))) := rfl
theorem ptAt_len (p : Nat) (l : List UInt8) : l.length ≤ (ptAt p l).length := by
  unfold ptAt
  split
  · simp only [List.length_append, List.length_cons, List.length_take, List.length_drop]; omega
  · exact Nat.le_refl _
theorem take_drop_digs {l : List UInt8} (h : l.all isDig = true) (k : Nat) : (l.take k).all isDig = true ∧ (l.drop k).all isDig = true := by
  rw [← List.take_append_drop k l, List.all_append, Bool.and_eq_true] at h
  exact h
theorem lit_back {q : Rat} (hf : fin q = true) (k : Nat) (hl : (litText q).length + k ≤ 400) (hk : 0 < k → 0 < places q) :
    litCode (litText q ++ List.replicate k 48) = 0 ∧ litVal (litText q ++ List.replicate k 48) = q := by
  have hd := padTo_digs (places q) (litNum q (places q))
  have hn := lit_num k (fin_dvd hf)
  rw [litText_sgn] at hl ⊢
  generalize hL : padTo (places q) (str (dec (litNum q (places q)))) = L at *
  have h1 := ptAt_len (places q) L
  rw [List.length_append] at hl
  by_cases hp : 0 < places q
  · have htd := take_drop_digs hd.1 (L.length - places q)
    have hX : (L.drop (L.length - places q) ++ List.replicate k 48).all isDig = true := by rw [List.all_append, htd.2, noughts_digs]; rfl
    have hlen : (L.drop (L.length - places q) ++ List.replicate k 48).length = places q + k := by
      rw [List.length_append, List.length_replicate, List.length_drop]; omega
    have hcat : L.take (L.length - places q) ++ (L.drop (L.length - places q) ++ List.replicate k 48) = L ++ List.replicate k 48 := by rw [← List.append_assoc, List.take_append_drop]
    have := lit_pt (decide (q < 0)) _ _ htd.1 hX (by rw [hcat]; intro h; have h9 := congrArg List.length h; rw [List.length_append, List.length_nil] at h9; omega) (by rw [hcat, List.length_append, List.length_replicate]; omega)
    rw [hcat, hlen, dnum_append, dnum_noughts, List.length_replicate, hd.2.1, Nat.add_zero, hn] at this
    unfold ptAt
    rw [if_pos hp, List.append_assoc, List.append_assoc, List.cons_append]
    exact this
  · have hk0 : k = 0 := by omega
    subst hk0
    have hp0 : places q = 0 := by omega
    unfold ptAt
    rw [if_neg hp, List.replicate_zero, List.append_nil]
    have := lit_no (decide (q < 0)) L hd.1 (by intro h; rw [h] at hd; simp at hd) (by omega)
    rw [hd.2.1] at this
    rw [hp0] at hn this
    simp only [Nat.pow_zero, Nat.mul_one, Nat.add_zero, Int.neg_zero, Int.natCast_zero] at hn
    rw [hn] at this
    exact this
theorem lit_back_point {q : Rat} (hf : fin q = true) (k : Nat) (hl : (litText q).length + k ≤ 400) (hp : places q = 0) :
    litCode ((litText q ++ [46]) ++ List.replicate k 48) = 0 ∧ litVal ((litText q ++ [46]) ++ List.replicate k 48) = q := by
  have hd := padTo_digs (places q) (litNum q (places q))
  have hn := lit_num k (fin_dvd hf)
  rw [litText_sgn] at hl ⊢
  generalize hL : padTo (places q) (str (dec (litNum q (places q)))) = L at *
  have h1 := ptAt_len (places q) L
  rw [List.length_append] at hl
  unfold ptAt
  rw [if_neg (by omega), List.append_assoc, List.append_assoc]
  have := lit_pt (decide (q < 0)) L (List.replicate k 48) hd.1 (noughts_digs k) (by intro h; have h9 := congrArg List.length h; rw [List.length_append, List.length_nil] at h9; omega) (by rw [List.length_append, List.length_replicate]; omega)
  rw [dnum_append, dnum_noughts, List.length_replicate, hd.2.1, Nat.add_zero] at this
  rw [hp] at hn this
  rw [Nat.zero_add] at hn
  rw [hn] at this
  exact this
theorem mem46 (q : Rat) : 46 ∈ litText q ↔ 0 < places q := by
  have hd := padTo_digs (places q) (litNum q (places q))
  rw [litText_sgn]
  generalize hL : padTo (places q) (str (dec (litNum q (places q)))) = L at *
  have h46 : 46 ∉ L := fun h => by have := List.all_eq_true.1 hd.1 _ h; exact absurd this (by decide)
  have hs : 46 ∉ sgn (decide (q < 0)) := by unfold sgn; split <;> decide
  unfold ptAt
  constructor
  · intro h
    rcases Nat.eq_zero_or_pos (places q) with h0 | h0
    · rw [if_neg (by omega)] at h
      rcases List.mem_append.1 h with h2 | h2
      · exact (hs h2).elim
      · exact (h46 h2).elim
    · exact h0
  · intro h
    rw [if_pos h]
    simp

/-! An exponent moves the point. -/
theorem sg_mul (s : Bool) (n m : Nat) : sg s (n * m) = sg s n * m := by
  unfold sg; cases s <;> simp [Int.neg_mul]
theorem q_ten (s : Bool) (n : Nat) {d : Nat} (hd : 0 < d) : qOf s n d * ((10 : Int) : Rat) = qOf s (n * 10) d := by
  rw [qOf_frac s n hd, qOf_frac s (n * 10) hd, sg_mul, Rat.intCast_mul]
  show _ * _ = _ * ((10 : Int) : Rat) / _
  rw [Rat.div_def, Rat.div_def]
  grind
theorem litQ_up (s : Bool) (n : Nat) (k : Int) : litQ s n k * ((10 : Int) : Rat) = litQ s n (k + 1) := by
  unfold litQ
  by_cases h : k < 0
  · rw [if_pos h, q_ten _ _ (Nat.pow_pos (by decide))]
    by_cases h2 : k + 1 < 0
    · rw [if_pos h2]
      refine qOf_eq (Nat.pow_pos (by decide)) (Nat.pow_pos (by decide)) ?_
      have e : k.natAbs = (k + 1).natAbs + 1 := by omega
      rw [e, Nat.pow_succ]; grind
    · rw [if_neg h2]
      have e : k = -1 := by omega
      subst e
      exact qOf_eq (by decide) (by decide) (by simp)
  · rw [if_neg h, if_neg (by omega), q_ten _ _ (by decide)]
    have e : (k + 1).natAbs = k.natAbs + 1 := by omega
    rw [e, Nat.pow_succ, Nat.mul_assoc]
theorem litQ_down (s : Bool) (n : Nat) (k : Int) : litQ s n k / ((10 : Int) : Rat) = litQ s n (k - 1) := by
  have h := litQ_up s n (k - 1)
  rw [show k - 1 + 1 = k by omega] at h
  rw [← h, Rat.div_def, Rat.mul_assoc, Rat.mul_inv_cancel _ (by decide), Rat.mul_one]
theorem srest_cons (c : UInt8) (s : List UInt8) : srest (c :: s) = if c = 45 ∨ c = 43 then s else c :: s := by
  unfold srest
  simp only [List.head?_cons, Option.some.injEq, List.tail_cons]
theorem srest_app {s t : List UInt8} (h : s ≠ []) : srest (s ++ t) = srest s ++ t ∧ sneg (s ++ t) = sneg s := by
  cases s with
  | nil => exact (h rfl).elim
  | cons c s =>
    refine ⟨?_, rfl⟩
    rw [List.cons_append, srest_cons, srest_cons]
    by_cases h2 : c = 45 ∨ c = 43
    · rw [if_pos h2, if_pos h2]
    · rw [if_neg h2, if_neg h2]; rfl
theorem srest_all {p : UInt8 → Bool} {s : List UInt8} (h : s.all p = true) : (srest s).all p = true := by
  unfold srest
  split
  · cases s with
    | nil => exact h
    | cons c s => simp only [List.all_cons, Bool.and_eq_true] at h; exact h.2
  · exact h
theorem int_text (e : Int) : qtext (e : Rat) = sgn (decide (e < 0)) ++ str (dec e.natAbs) := by
  have h1 : ((e : Rat)).num = e := rfl
  have h2 : ((e : Rat)).den = 1 := rfl
  have h3 : decide ((e : Rat) < 0) = decide (e < 0) := by
    apply decide_eq_decide.2
    rw [q_neg, h1]
  unfold qtext
  rw [h1, h2, h3, if_pos rfl, List.append_nil]
  rfl
theorem lit_exp {s : List UInt8} {e : Int} (hs : s.all (fun c => !isE c) = true) (hc : litCode s = 0) (he : e.natAbs ≤ 60) :
    litCode (s ++ 101 :: qtext (e : Rat)) = 0 ∧ litVal (s ++ 101 :: qtext (e : Rat)) = litQ (sneg s) (dnum (lall s)) (expOf s + e) := by
  have hz := litCode_zero hc
  have hi := litIs_parts hz.1
  have hne : s ≠ [] := fun h => by subst h; exact hi.1 rfl
  have h1 := srest_app (t := 101 :: qtext (e : Rat)) hne
  have h2 := srest_all hs
  have h3 := noE_parts h2
  have h4 := tw_stop (fun c => !isE c) (srest s) (qtext (e : Rat)) 101 h2 rfl
  generalize hS : s ++ 101 :: qtext (e : Rat) = S at *
  have hman : lman S = lman s := by unfold lman; rw [h1.1, h4.1, (tw_all _ _ h2).1]
  have hexp : lexp S = qtext (e : Rat) := by unfold lexp; rw [h1.1, h4.2]; rfl
  have hhas : hasE S = true := by unfold hasE; rw [h1.1, List.any_append, List.any_cons]; simp [isE]
  have hab : lbehind S = lbehind s := by unfold lbehind; rw [hman]
  have hall : lall S = lall s := by unfold lall lahead lbehind; rw [hman]
  have hd : (str (dec e.natAbs)).all isDig = true := str_dec_digs _
  have hdn := dec_ne_nil e.natAbs
  have hh : ∀ c, isDig c = false → (str (dec e.natAbs)).head? ≠ some c := fun c hc => by have := head_dig (t := []) hd hdn c hc; rwa [List.append_nil] at this
  have h5 := srest_sgn (decide (e < 0)) (str (dec e.natAbs)) (hh 45 (by decide)) (hh 43 (by decide))
  have hxd : xdig S = str (dec e.natAbs) := by unfold xdig; rw [if_pos hhas, hexp, int_text, h5.1]
  have hxn : xneg S = decide (e < 0) := by unfold xneg; rw [hhas, hexp, int_text, h5.2]; rfl
  have hcode : litCode S = 0 := by
    refine litCode_ok (litIs_of (by rw [hall]; exact hi.1) (by rw [hxd]; exact hdn) (by rw [hall]; exact hi.2.2.1) (by rw [hxd]; exact hd)) (by rw [hxd, dnum_dec]; omega) (by rw [hall]; exact hz.2.2)
  refine ⟨hcode, ?_⟩
  have hsn : sneg S = sneg s := h1.2
  unfold litVal
  rw [if_pos hcode, hall, hsn]
  congr 1
  unfold expOf
  rw [hab, hxd, hxn, dnum_dec, h3.2.2.1, h3.2.2.2]
  have e0 : dnum [48] = 0 := rfl
  rw [e0]
  unfold sg
  by_cases hneg : e < 0
  · simp [hneg]; omega
  · simp [hneg]; omega
theorem litVal_of {l : List UInt8} (h : litCode l = 0) : litVal l = litQ (sneg l) (dnum (lall l)) (expOf l) := by unfold litVal; rw [if_pos h]

/-! Noughts ahead. -/
theorem strip_num {l : List UInt8} (h : l.all isDig = true) : dnum (l.dropWhile (· == 48)) = dnum l ∧ (l.dropWhile (· == 48) = [] → dnum l = 0) ∧ (l.dropWhile (· == 48) ≠ [] → numOk (l.dropWhile (· == 48)) = true) := by
  induction l with
  | nil => exact ⟨rfl, fun _ => rfl, fun h => (h rfl).elim⟩
  | cons c l ih =>
    by_cases hc : c = 48
    · subst hc
      have h2 := ih (by simp only [List.all_cons, Bool.and_eq_true] at h; exact h.2)
      have e : dnum (48 :: l) = dnum l := by have := dnum_pad 1 l; simpa using this
      rw [e]
      simp only [List.dropWhile_cons, beq_self_eq_true, if_true]
      exact h2
    · have hb : (c == 48) = false := by simpa using hc
      have hw : (c :: l).dropWhile (· == 48) = c :: l := by simp [List.dropWhile_cons, hb]
      rw [hw]
      refine ⟨rfl, (fun h3 => by simp at h3), fun _ => ?_⟩
      unfold numOk
      rw [h]
      simp [hc]
theorem pcode_strip {l : List UInt8} (h : l.all isDig = true) (hl : l.length ≤ 1200) (hne : l.dropWhile (· == 48) ≠ []) : pcode (l.dropWhile (· == 48)) = 0 ∧ pval (l.dropWhile (· == 48)) = dnum l := by
  have h1 := strip_num h
  have h2 := h1.2.2 hne
  have h3 := (List.dropWhile_sublist (l := l) (· == 48)).length_le
  unfold pcode pval
  rw [if_pos h2, if_pos h2, if_neg (by omega), if_neg (by omega)]
  exact ⟨rfl, h1.1⟩
end Go.Proofs.YtafmhoeammbemaaDoor
