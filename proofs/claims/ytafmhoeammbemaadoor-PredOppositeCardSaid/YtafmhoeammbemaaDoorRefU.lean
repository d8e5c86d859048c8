import Derived.Test.YtafmhoeammbemaaDoorRefS
import Derived.Test.YtafmhoeammbemaaDoorMathU
import Derived.Test.YtafmhoeammbemaaDoorRefT
import Derived.Deep.DeepCutAuto
import Derived.Deep.CutBlock
import Derived.WalkMore
import Derived.Laws.StructEq
namespace Go.Proofs.YtafmhoeammbemaaDoor
open Go.RowKit
set_option linter.unusedVariables false
set_option linter.unusedSimpArgs false
attribute [local go_sem] field_nat
def sgq (u : List UInt8) : Bool := decide (u.head? = some 45 ∨ u.head? = some 43)
theorem sgq_no {u : List UInt8} (h : sgq u = false) : sneg u = false ∧ srest u = u := by
  have h1 : ¬ (u.head? = some 45 ∨ u.head? = some 43) := of_decide_eq_false h
  exact ⟨decide_eq_false (fun h2 => h1 (Or.inl h2)), by unfold srest; rw [if_neg h1]⟩
theorem sgq_yes {u : List UInt8} (h : sgq u = true) : srest u = u.tail := by
  have h1 : u.head? = some 45 ∨ u.head? = some 43 := of_decide_eq_true h
  unfold srest; rw [if_pos h1]
theorem sgq_step {l u : List UInt8} {i : Nat} (h : l.drop i = u) (hs : sgq u = true) : l.drop (i + 1) = srest u := by
  rw [sgq_yes hs, ← h, List.tail_drop]
theorem head_drop {l : List UInt8} {i : Nat} (h : i < l.length) : (l.drop i).head? = some (l[i]?.getD 0) := by
  rw [List.head?_drop, List.getElem?_eq_getElem h]; rfl
theorem drop_some {l u : List UInt8} {i : Nat} (h : l.drop i = u) (hs : sgq u = true) : i < l.length := by
  rcases Nat.lt_or_ge i l.length with h1 | h1
  · exact h1
  · rw [List.drop_eq_nil_of_le h1] at h
    rw [← h] at hs; cases hs
theorem byte_ne {c : UInt8} {k : UInt8} (h : ¬ c = k) : ((c.toNat : Int) == (k.toNat : Int)) = false := by
  rw [beq_eq_false_iff_ne]; intro e; apply h; rw [← UInt8.toNat_inj]; omega
theorem drop_cons {l : List UInt8} {i : Nat} (h : i < l.length) : l.drop i = l[i]?.getD 0 :: l.drop (i + 1) := by
  rw [List.drop_eq_getElem_cons h, List.getElem?_eq_getElem h]; rfl
theorem scan_digs (b : List UInt8) (pt : Bool) : (scanD b pt).1.all isDig = true := by
  induction b generalizing pt with
  | nil => rfl
  | cons c t ih =>
    unfold scanD
    by_cases h : isDig c = true
    · rw [if_pos h]; simp only [List.all_cons, h, Bool.true_and]; exact ih pt
    · rw [if_neg h]
      by_cases h2 : c = 46 ∧ pt = false
      · rw [if_pos h2]; exact ih true
      · rw [if_neg h2]; rfl
theorem scan_len (b : List UInt8) (pt : Bool) : (scanD b pt).1.length ≤ b.length ∧ (scanD b pt).2.1 ≤ (scanD b pt).1.length := by
  induction b generalizing pt with
  | nil => exact ⟨Nat.le_refl _, Nat.le_refl _⟩
  | cons c t ih =>
    unfold scanD
    by_cases h : isDig c = true
    · rw [if_pos h]
      have := ih pt
      simp only [List.length_cons]
      refine ⟨by omega, ?_⟩
      cases pt <;> simp <;> omega
    · rw [if_neg h]
      by_cases h2 : c = 46 ∧ pt = false
      · rw [if_pos h2]; have := ih true; simp only [List.length_cons]; omega
      · rw [if_neg h2]; simp
/-- What the reading has gathered, and what is still to come. -/
def ScanAt (l : List UInt8) (i B : Nat) (D : List UInt8) (pt : Bool) : Prop := D ++ (scanD (l.drop i) pt).1 = dDig l ∧ B + (scanD (l.drop i) pt).2.1 = dBeh l ∧ (scanD (l.drop i) pt).2.2 = dRest l
theorem ScanAt.start {l : List UInt8} {i : Nat} (h : l.drop i = srest l) : ScanAt l i 0 [] false := by
  unfold ScanAt; rw [h]; exact ⟨rfl, Nat.zero_add _, rfl⟩
theorem ScanAt.done {l : List UInt8} {i B : Nat} {D : List UInt8} {pt : Bool} (h : ScanAt l i B D pt) (hi : l.length ≤ i) : D = dDig l ∧ B = dBeh l ∧ l.drop i = dRest l := by
  have h2 := List.drop_eq_nil_of_le hi
  unfold ScanAt at h; rw [h2] at h ⊢
  simpa [scanD] using h
theorem ScanAt.dig {l : List UInt8} {i B : Nat} {D : List UInt8} {pt : Bool} {c : UInt8} (h : ScanAt l i B D pt) (hc : l.drop i = c :: l.drop (i + 1)) (hd : isDig c = true) : ScanAt l (i + 1) (B + (if pt = true then 1 else 0)) (D ++ [c]) pt := by
  unfold ScanAt at h ⊢
  rw [hc, scanD, if_pos hd] at h
  refine ⟨by rw [← h.1]; simp, ?_, h.2.2⟩
  rw [← h.2.1]
  show _ = B + ((if pt = true then 1 else 0) + _)
  omega
theorem ScanAt.point {l : List UInt8} {i B : Nat} {D : List UInt8} (h : ScanAt l i B D false) (hc : l.drop i = 46 :: l.drop (i + 1)) : ScanAt l (i + 1) B D true := by
  unfold ScanAt at h ⊢
  rw [hc, scanD, if_neg (by decide), if_pos ⟨rfl, rfl⟩] at h
  exact h
theorem ScanAt.stop {l : List UInt8} {i B : Nat} {D : List UInt8} {pt : Bool} {c : UInt8} (h : ScanAt l i B D pt) (hc : l.drop i = c :: l.drop (i + 1)) (hd : ¬ isDig c = true) (hp : ¬ (c = 46 ∧ pt = false)) : D = dDig l ∧ B = dBeh l ∧ l.drop i = dRest l := by
  unfold ScanAt at h
  rw [hc, scanD, if_neg hd, if_neg hp] at h
  rw [hc]
  simpa using h
theorem xdig_no {l : List UInt8} (h : hasE l = false) : xdig l = [48] ∧ xneg l = false := by
  constructor
  · unfold xdig; rw [h]; rfl
  · unfold xneg; rw [h]; rfl
theorem xdig_yes {l u : List UInt8} (h : hasE l = true) (hu : lexp l = u) : xdig l = srest u ∧ xneg l = sneg u := by
  constructor
  · unfold xdig; rw [if_pos h, hu]
  · unfold xneg; rw [h, hu]; rfl
theorem numOk_cons {c d : UInt8} {r : List UInt8} (h : (c :: d :: r).all isDig = true) (hc : ¬ c = 48) : numOk (c :: d :: r) = true := by
  unfold numOk; rw [h]; simp [hc]
theorem numOk_one {c : UInt8} (h : ([c]).all isDig = true) : numOk [c] = true := by
  unfold numOk
  rw [h]
  by_cases hc : c = 48
  · subst hc; rfl
  · simp [hc]
theorem dnum_nought (r : List UInt8) : dnum (48 :: r) = dnum r := by have := dnum_pad 1 r; simpa using this
theorem one_byte {l : List UInt8} {i : Nat} (h : i < l.length) : (⟨l.toArray⟩ : ByteArray).extract i (i + 1) = ⟨[l[i]?.getD 0].toArray⟩ := by
  rw [bytes_extract]
  congr 2
  rw [List.drop_take, Nat.add_sub_cancel_left, drop_cons h]
  rfl
theorem nodig_lit {l : List UInt8} (h : (dRest l = [] ∧ hasE l = false ∧ lall l = dDig l ∧ (lbehind l).length = dBeh l) ∨ (∃ c t, dRest l = c :: t ∧ isE c = true ∧ hasE l = true ∧ lexp l = t ∧ lall l = dDig l ∧ (lbehind l).length = dBeh l) ∨ (∃ c t, dRest l = c :: t ∧ isE c = false ∧ litIs l = false)) (h0 : dDig l = []) : litIs l = false := by
  have hx : lall l = [] → litIs l = false := fun h9 => by unfold litIs; rw [h9]; rfl
  rcases h with ⟨_, _, h3, _⟩ | ⟨_, _, _, _, _, _, h3, _⟩ | ⟨_, _, _, _, h3⟩
  · exact hx (h3.trans h0)
  · exact hx (h3.trans h0)
  · exact h3
theorem nil_beq9 {l : List UInt8} (h : l ≠ []) : (l == []) = false := by rw [beq_eq_false_iff_ne]; exact h
theorem isE_two9 {c : UInt8} (h : isE c = true) : c = 101 ∨ c = 69 := by simpa [isE] using h
theorem notE_two {c : UInt8} (h : isE c = false) : ¬ c = 101 ∧ ¬ c = 69 := by simpa [isE] using h
theorem pnum_ok {S : List UInt8} (h : numOk S = true) (hl : S.length ≤ 1200) : pcode S = 0 ∧ pval S = dnum S := by
  unfold pcode pval
  rw [if_pos h, if_pos h, if_neg (by omega), if_neg (by omega)]
  exact ⟨rfl, rfl⟩
theorem rparse_o (l : List UInt8) (n : Nat) (w : World) (hl : l.length ≤ 1000000000) (h : Hid (pcode l = 0 ∧ pval l = n)) :
    Calls Tryd.prog 29 #[.string ⟨l.toArray⟩] w fun e w' => ∃ r, e = .returned (.tuple #[r, .int .i64 0]) ∧ RIs w' r n ∧ Below w.heap.size w w' := by
  have := rparse_any l w hl
  unfold RPost at this
  rwa [h.out.1, h.out.2] at this
theorem rlimbs_mulk {a b m n : Nat} (ha : (rlimbs a).length ≤ m) (hb : (rlimbs b).length ≤ n) : (rlimbs (a * b)).length ≤ m + n := by
  refine rlimbs_length_le ?_
  have h1 := lt_pow_rlimbs a
  have h2 := lt_pow_rlimbs b
  have h3 : 10000 ^ (rlimbs a).length ≤ 10000 ^ m := Nat.pow_le_pow_right (by decide) ha
  have h4 : 10000 ^ (rlimbs b).length ≤ 10000 ^ n := Nat.pow_le_pow_right (by decide) hb
  rw [Nat.pow_add]
  exact Nat.mul_lt_mul'' (by omega) (by omega)
theorem litQ_neg9 {s : Bool} {n : Nat} {k : Int} {m : Nat} (h : k < 0) (hm : m = k.natAbs) : litQ s n k = qOf s n (10 ^ m) := by
  unfold litQ; rw [if_pos h, hm]
theorem litQ_pos9 {s : Bool} {n : Nat} {k : Int} {m : Nat} (h : ¬ k < 0) (hm : m = k.natAbs) : litQ s n k = qOf s (n * 10 ^ m) 1 := by
  unfold litQ; rw [if_neg h, hm]
end Go.Proofs.YtafmhoeammbemaaDoor
