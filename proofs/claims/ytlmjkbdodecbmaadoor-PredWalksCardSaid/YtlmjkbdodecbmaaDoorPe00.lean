/-
  Pe00: MathN HeapN RangeN NatN1 (what is needed of them).
-/
import Derived.WalkKit
import Derived.Shelf.Small.Bits
import Derived.Test.YtlmjkbdodecbmaaDoorProg
import Derived.Lib.Hide
import Derived.WalkSpells
import Derived.WalkLawsBesides
import Derived.Deep.QuietTactic
import Derived.BigQuiet
import Derived.RangeFuncNested
import Derived.RangeFuncBound
import Derived.RangeFuncCalls
import Derived.RangeFuncLeaves
import Derived.Shelf.Abstract
import Derived.OwnWalkIn
import Derived.BigRegion
import Derived.Deep.LoopGhost

namespace Go.Proofs.YtlmjkbdodecbmaaDoor
set_option linter.unusedVariables false
set_option linter.unusedSimpArgs false
/-- The number of a list of limbs, the lowest first. -/
def val : List Nat → Nat
  | [] => 0
  | x :: xs => x + 4294967296 * val xs
/-- The limbs of a number: none are 0 at the top. -/
def limbs (n : Nat) : List Nat := if n = 0 then [] else n % 4294967296 :: limbs (n / 4294967296)
decreasing_by omega
theorem limbs_zero : limbs 0 = [] := by rw [limbs]; simp
theorem limbs_pos {n : Nat} (h : 0 < n) : limbs n = n % 4294967296 :: limbs (n / 4294967296) := by
  rw [limbs, if_neg (by omega)]
theorem val_limbs (n : Nat) : val (limbs n) = n := by
  induction n using Nat.strongRecOn with
  | _ n ih =>
    by_cases h : n = 0
    · subst h; rw [limbs_zero]; rfl
    · rw [limbs_pos (by omega), val, ih _ (by omega)]; omega
theorem limbs_lt (n : Nat) : ∀ x ∈ limbs n, x < 4294967296 := by
  induction n using Nat.strongRecOn with
  | _ n ih =>
    by_cases h : n = 0
    · subst h; rw [limbs_zero]; simp
    · rw [limbs_pos (by omega)]
      intro x hx
      rcases List.mem_cons.1 hx with rfl | hx
      · omega
      · exact ih _ (by omega) x hx
theorem val_append (xs ys : List Nat) : val (xs ++ ys) = val xs + 4294967296 ^ xs.length * val ys := by
  induction xs with
  | nil => simp [val]
  | cons x xs ih => simp only [List.cons_append, val, ih, List.length_cons, Nat.pow_succ]; rw [Nat.mul_add, Nat.mul_comm (4294967296 ^ xs.length) 4294967296, Nat.mul_assoc]; omega
theorem val_lt (xs : List Nat) (h : ∀ x ∈ xs, x < 4294967296) : val xs < 4294967296 ^ xs.length := by
  induction xs with
  | nil => simp [val]
  | cons x xs ih =>
    have h1 := h x (by simp)
    have h2 := ih (fun y hy => h y (by simp [hy]))
    simp only [val, List.length_cons, Nat.pow_succ]
    omega
theorem val_snoc_zero (xs : List Nat) : val (xs ++ [0]) = val xs := by rw [val_append]; simp [val]
theorem limbs_length_le {n k : Nat} (h : n < 4294967296 ^ k) : (limbs n).length ≤ k := by
  induction k generalizing n with
  | zero =>
    have : n = 0 := by simp at h; exact h
    subst this; rw [limbs_zero]; simp
  | succ k ih =>
    by_cases h0 : n = 0
    · subst h0; rw [limbs_zero]; simp
    · rw [limbs_pos (by omega), List.length_cons]
      have := @ih (n / 4294967296) (by rw [Nat.pow_succ] at h; exact Nat.div_lt_of_lt_mul (by rw [Nat.mul_comm]; exact h))
      omega
theorem lt_pow_limbs (n : Nat) : n < 4294967296 ^ (limbs n).length := by
  have := val_lt (limbs n) (limbs_lt n)
  rwa [val_limbs] at this
theorem limbs_length_mono {a b : Nat} (h : a ≤ b) : (limbs a).length ≤ (limbs b).length :=
  limbs_length_le (Nat.lt_of_le_of_lt h (lt_pow_limbs b))
/-- The low 32 bits. -/
theorem and_low (x : Int) : bits .and .u64 x 4294967295 = x % 4294967296 := by
  obtain ⟨a, ha⟩ := Int.eq_ofNat_of_zero_le (Int.emod_nonneg x (show (18446744073709551616 : Int) ≠ 0 by decide))
  have hlt : a < 18446744073709551616 := by omega
  have e : BitVec.ofInt 64 x = BitVec.ofInt 64 (a : Int) := by
    apply BitVec.eq_of_toInt_eq
    simp only [BitVec.toInt_ofInt, Int.bmod_def]
    omega
  have e1 : bits .and .u64 x 4294967295 = bits .and .u64 (a : Int) 4294967295 := by
    simp only [bits, IntKind.bits] at *
    rw [e]
  have e2 : bits .and .u64 (a : Int) 4294967295 = (a : Int) % 4294967296 := bits_mask .u64 64 (by decide) (fun n h0 h1 => by rw [IntKind.wrap_u64]; omega) 32 (by decide) a (by omega) (by omega)
  rw [e1, e2]
  omega
end Go.Proofs.YtlmjkbdodecbmaaDoor
namespace Go.Proofs.YtlmjkbdodecbmaaDoor
set_option linter.unusedVariables false
set_option linter.unusedSimpArgs false
theorem take_snoc' (xs : List Nat) (k : Nat) (hk : k < xs.length) : xs.take (k + 1) = xs.take k ++ [xs[k]?.getD 0] := by
  rw [List.take_add_one, List.getElem?_eq_getElem hk]; rfl
theorem getD_lt {xs : List Nat} {B k : Nat} (h : ∀ x ∈ xs, x < B) (hB : 0 < B) : xs[k]?.getD 0 < B := by
  by_cases hk : k < xs.length
  · rw [List.getElem?_eq_getElem hk]; exact h _ (List.getElem_mem _)
  · rw [List.getElem?_eq_none (by omega)]; exact hB
theorem ext_getD {xs ys : List Nat} (hl : xs.length = ys.length) (h : ∀ i, i < xs.length → xs[i]?.getD 0 = ys[i]?.getD 0) : xs = ys := by
  apply List.ext_getElem hl
  intro i h1 h2
  have := h i h1
  rw [List.getElem?_eq_getElem h1, List.getElem?_eq_getElem h2] at this
  exact this
theorem getD_set {xs : List Nat} {k y i : Nat} (hk : k < xs.length) : (xs.set k y)[i]?.getD 0 = if i = k then y else xs[i]?.getD 0 := by
  rw [List.getElem?_set]
  by_cases h : k = i
  · subst h; simp [hk]
  · rw [if_neg h, if_neg (fun e => h e.symm)]
theorem getD_reverse {xs : List Nat} {i : Nat} (hi : i < xs.length) : xs.reverse[i]?.getD 0 = xs[xs.length - 1 - i]?.getD 0 := by
  rw [List.getElem?_reverse hi]
/-- A list of which the outer k pairs are exchanged. -/
def RevUp (xs ys : List Nat) (k : Nat) : Prop := ys.length = xs.length ∧ ∀ i, i < xs.length → ys[i]?.getD 0 = if i < k ∨ xs.length - k ≤ i then xs[xs.length - 1 - i]?.getD 0 else xs[i]?.getD 0
theorem RevUp.done {xs ys : List Nat} {k : Nat} (h : RevUp xs ys k) (hk : xs.length ≤ 2 * k + 1) : ys = xs.reverse := by
  refine ext_getD (by simp [h.1]) (fun i hi => ?_)
  rw [h.1] at hi
  rw [h.2 i hi, getD_reverse hi]
  by_cases h3 : i < k ∨ xs.length - k ≤ i
  · rw [if_pos h3]
  · rw [if_neg h3]; congr 2; omega
end Go.Proofs.YtlmjkbdodecbmaaDoor
namespace Go.Proofs.YtlmjkbdodecbmaaDoor
set_option linter.unusedVariables false
set_option linter.unusedSimpArgs false
/-- The decimal digits of a number, the lowest first; none of 0. -/
def dig (n : Nat) : List Nat := if n = 0 then [] else n % 10 :: dig (n / 10)
decreasing_by omega
theorem dig_zero : dig 0 = [] := by rw [dig]; simp
theorem dig_pos {n : Nat} (h : 0 < n) : dig n = n % 10 :: dig (n / 10) := by rw [dig, if_neg (by omega)]
def dval : List Nat → Nat
  | [] => 0
  | x :: xs => x + 10 * dval xs
theorem dig_dval (xs : List Nat) (h : ∀ x ∈ xs, x < 10) (ht : ∀ hn : xs ≠ [], xs.getLast hn ≠ 0) : dig (dval xs) = xs := by
  induction xs with
  | nil => exact dig_zero
  | cons x xs ih =>
    have hx := h x (by simp)
    have ih' := ih (fun y hy => h y (by simp [hy])) (fun hn => by have := ht (by simp); rwa [List.getLast_cons hn] at this)
    have hpos : 0 < dval (x :: xs) := by
      simp only [dval]
      by_cases hn : xs = []
      · subst hn
        have := ht (by simp)
        simp at this
        omega
      · have : dval xs ≠ 0 := by
          intro h0
          rw [h0, dig_zero] at ih'
          exact hn ih'.symm
        omega
    rw [dig_pos hpos]
    simp only [dval]
    rw [Nat.add_mul_mod_self_left, Nat.mod_eq_of_lt hx, Nat.add_mul_div_left _ _ (by omega), Nat.div_eq_of_lt hx, Nat.zero_add, ih']
/-- The text of a number: the codes of its digits, the highest first. -/
def dec (n : Nat) : List Nat := if n = 0 then [48] else (dig n).reverse.map (48 + ·)
theorem dec_pos {n : Nat} (h : 0 < n) : dec n = (dig n).reverse.map (48 + ·) := by unfold dec; rw [if_neg (by omega)]
end Go.Proofs.YtlmjkbdodecbmaaDoor
namespace Go.Proofs.YtlmjkbdodecbmaaDoor
set_option linter.unusedVariables false
set_option linter.unusedSimpArgs false
theorem val_take_succ {xs : List Nat} {k : Nat} : val (xs.take (k + 1)) = val (xs.take k) + 4294967296 ^ k * (xs[k]?.getD 0) := by
  by_cases hk : k < xs.length
  · rw [take_snoc' xs k hk, val_append, List.length_take, Nat.min_eq_left (by omega)]; simp [val]
  · rw [List.take_of_length_le (by omega), List.take_of_length_le (by omega), List.getElem?_eq_none (by omega)]; simp
/-! Adding: c is carried into place k. -/
structure AddInv (xs ys : List Nat) (k c : Nat) (zs : List Nat) : Prop where
  len : zs.length = xs.length
  lt : ∀ z ∈ zs, z < 4294967296
  car : c ≤ 1
  eq : val zs + 4294967296 ^ k * c = val xs + val (ys.take k)
theorem carry_zero {z P c s : Nat} (h1 : z + P * (4294967296 * c) = s) (h2 : s < P + P) : c = 0 := by
  rcases Nat.eq_zero_or_pos c with hc | hc
  · exact hc
  · exfalso
    have h3 : P * 2 ≤ P * (4294967296 * c) := Nat.mul_le_mul_left _ (by omega)
    generalize P * (4294967296 * c) = R at *
    omega
theorem AddInv.done {la lb zs : List Nat} {c : Nat} (h : AddInv (la ++ [0]) lb (la.length + 1) c zs) (ha : ∀ x ∈ la, x < 4294967296) (hb : ∀ x ∈ lb, x < 4294967296) (hl : lb.length ≤ la.length) : val zs = val la + val lb := by
  have h1 : val zs + 4294967296 ^ la.length * (4294967296 * c) = val la + val lb := by
    have := h.eq
    rw [val_snoc_zero, List.take_of_length_le (by omega), Nat.pow_succ, Nat.mul_assoc] at this
    exact this
  have h2 := val_lt la ha
  have h3 := Nat.lt_of_lt_of_le (val_lt lb hb) (Nat.pow_le_pow_right (by decide) hl : 4294967296 ^ lb.length ≤ 4294967296 ^ la.length)
  have h5 : c = 0 := carry_zero h1 (Nat.add_lt_add h2 h3)
  rw [h5] at h1
  simpa using h1
/-! Taking away: c is borrowed from place k. -/
structure SubInv (xs ys : List Nat) (k c : Nat) (zs : List Nat) : Prop where
  len : zs.length = xs.length
  lt : ∀ z ∈ zs, z < 4294967296
  car : c ≤ 1
  eq : val zs + val (ys.take k) = val xs + 4294967296 ^ k * c
theorem SubInv.done {la lb zs : List Nat} {k c : Nat} (h : SubInv la lb k c zs) (hk : lb.length ≤ k) (hk2 : la.length ≤ k ∨ c = 0) (hle : val lb ≤ val la) : val zs = val la - val lb := by
  have h1 := h.eq
  have h2 := val_lt zs h.lt
  rw [List.take_of_length_le hk] at h1
  rw [h.len] at h2
  have hc := h.car
  have h4 : la.length ≤ k → 4294967296 ^ la.length ≤ 4294967296 ^ k := fun h => Nat.pow_le_pow_right (by decide) h
  generalize 4294967296 ^ la.length = P at *
  generalize 4294967296 ^ k = Q at *
  have h5 : c = 0 := by
    rcases hk2 with hk2 | hk2
    · rcases Nat.eq_zero_or_pos c with hc | hc
      · exact hc
      · exfalso
        have h6 := h4 hk2
        have : Q * 1 ≤ Q * c := Nat.mul_le_mul_left _ hc
        generalize Q * c = R at *
        omega
    · exact hk2
  subst h5
  omega
theorem val_replicate (n : Nat) : val (List.replicate n 0) = 0 := by
  induction n with
  | zero => rfl
  | succ n ih => simp [List.replicate_succ, val, ih]
end Go.Proofs.YtlmjkbdodecbmaaDoor
namespace Go.Proofs.YtlmjkbdodecbmaaDoor
set_option linter.unusedVariables false
set_option linter.unusedSimpArgs false
def isDig (c : UInt8) : Bool := decide (48 ≤ c.toNat) && decide (c.toNat ≤ 57)
/-- Is a text the digits of a number, without a nought ahead? -/
def numOk (l : List UInt8) : Bool := l.all isDig && (l == [48] || (!l.isEmpty && l.headD 0 != 48))
def dnum (l : List UInt8) : Nat := l.foldl (fun a c => a * 10 + (c.toNat - 48)) 0
theorem dnum_snoc (l : List UInt8) (c : UInt8) : dnum (l ++ [c]) = dnum l * 10 + (c.toNat - 48) := by simp [dnum]
theorem isDig_iff {c : UInt8} : isDig c = true ↔ 48 ≤ c.toNat ∧ c.toNat ≤ 57 := by simp [isDig]
theorem dnum_lt (l : List UInt8) (h : l.all isDig = true) : dnum l < 10 ^ l.length := by
  generalize hn : l.length = n
  induction n generalizing l with
  | zero =>
    have : l = [] := List.eq_nil_of_length_eq_zero hn
    subst this; simp [dnum]
  | succ n ih =>
    have hne : l ≠ [] := by rintro rfl; simp at hn
    have e : l = l.dropLast ++ [l.getLast hne] := (List.dropLast_concat_getLast hne).symm
    have h1 : l.dropLast.all isDig = true := by
      rw [List.all_eq_true] at h ⊢; exact fun x hx => h x (List.dropLast_subset _ hx)
    have h2 : isDig (l.getLast hne) = true := by rw [List.all_eq_true] at h; exact h _ (List.getLast_mem hne)
    have := ih l.dropLast h1 (by simp [hn])
    rw [isDig_iff] at h2
    rw [e, dnum_snoc, Nat.pow_succ]
    omega
end Go.Proofs.YtlmjkbdodecbmaaDoor
namespace Go.Proofs.YtlmjkbdodecbmaaDoor
set_option linter.unusedVariables false
set_option linter.unusedSimpArgs false
/-! Shifting up: what is carried. -/
structure UpInv (s : Nat) (xs : List Nat) (k c : Nat) (zs : List Nat) : Prop where
  len : zs.length = k
  lt : ∀ z ∈ zs, z < 4294967296
  car : c < 2 ^ s
  eq : val zs + 4294967296 ^ k * c = val (xs.take k) * 2 ^ s
theorem UpInv.done {s : Nat} {xs zs : List Nat} {c : Nat} (h : UpInv s xs xs.length c zs) (q : Nat) : val (List.replicate q 0 ++ (zs ++ [c])) = val xs * 2 ^ (32 * q + s) := by
  have h2 := h.eq
  rw [List.take_length] at h2
  rw [val_append, val_append, val_replicate, List.length_replicate, h.len]
  simp only [val, Nat.mul_zero, Nat.add_zero, Nat.zero_add]
  rw [h2, Nat.pow_add, Nat.pow_mul, Nat.mul_left_comm]
end Go.Proofs.YtlmjkbdodecbmaaDoor
namespace Go.Proofs.YtlmjkbdodecbmaaDoor
set_option linter.unusedVariables false
/-! A digit of a quotient, guessed by the highest limbs. -/
theorem digit_top {P Q V V' U X lv lu : Nat} (hP : 0 < P) (hV : V = lv + P * V') (hU : U = lu + P * X) (hu : lu < P) (hQ : Q * V ≤ U) : Q * V' ≤ X := by
  have h1 : P * (Q * V') ≤ Q * V := by
    rw [hV, Nat.mul_add, Nat.mul_left_comm]
    exact Nat.le_add_left _ _
  have h2 : P * (Q * V') < P * (X + 1) := by
    rw [Nat.mul_add, Nat.mul_one]; omega
  have := Nat.lt_of_mul_lt_mul_left h2
  omega
/-- The highest two limbs, and three. -/
theorem val_top2 {vs : List Nat} {n : Nat} (hl : vs.length = n + 2) : val vs = val (vs.take n) + 4294967296 ^ n * (vs[n]?.getD 0 + 4294967296 * (vs[n + 1]?.getD 0)) := by
  have h1 := val_take_succ (xs := vs) (k := n + 1)
  rw [show n + 1 + 1 = n + 2 by rfl, List.take_of_length_le (by omega), val_take_succ, Nat.pow_succ, Nat.mul_assoc] at h1
  rw [h1, Nat.mul_add, Nat.add_assoc]
theorem val_top3 {us : List Nat} {n : Nat} (hl : us.length = n + 3) : val us = val (us.take n) + 4294967296 ^ n * (us[n]?.getD 0 + 4294967296 * (us[n + 1]?.getD 0 + 4294967296 * (us[n + 2]?.getD 0))) := by
  have h1 := val_take_succ (xs := us) (k := n + 2)
  rw [show n + 2 + 1 = n + 3 by rfl, List.take_of_length_le (by omega), show n + 2 = n + 1 + 1 by rfl, val_take_succ, val_take_succ] at h1
  rw [h1, show n + 2 = n + 1 + 1 by rfl]
  generalize us[n]?.getD 0 = a
  generalize us[n + 1]?.getD 0 = b
  generalize us[n + 1 + 1]?.getD 0 = c
  simp only [Nat.pow_succ, Nat.mul_add, Nat.mul_assoc, Nat.add_assoc]
theorem val_take_lt {xs : List Nat} {k : Nat} (h : ∀ x ∈ xs, x < 4294967296) (hk : k ≤ xs.length) : val (xs.take k) < 4294967296 ^ k := by
  have := val_lt (xs.take k) (fun x hx => h x (List.mem_of_mem_take hx))
  rwa [List.length_take, Nat.min_eq_left hk] at this
/-- What guess makes sure of. -/
structure GuessIn (us vs : List Nat) (n : Nat) : Prop where
  ul : us.length = n + 3
  vl : vs.length = n + 2
  ult : ∀ x ∈ us, x < 4294967296
  vlt : ∀ x ∈ vs, x < 4294967296
  top : 2147483648 ≤ vs[n + 1]?.getD 0
  less : val us < 4294967296 * val vs
def gTwo (us : List Nat) (n : Nat) : Nat := us[n + 1]?.getD 0 + 4294967296 * (us[n + 2]?.getD 0)
theorem GuessIn.pos {us vs : List Nat} {n : Nat} (h : GuessIn us vs n) : 0 < val vs := by
  have htop := h.top
  rw [val_top2 h.vl]
  have : 0 < 4294967296 ^ n * (vs[n]?.getD 0 + 4294967296 * (vs[n + 1]?.getD 0)) := Nat.mul_pos (Nat.pow_pos (by decide)) (by omega)
  omega
theorem GuessIn.lt {us vs : List Nat} {n : Nat} (h : GuessIn us vs n) : val us / val vs < 4294967296 := by
  rw [Nat.div_lt_iff_lt_mul h.pos]
  exact h.less
/-- The first guess is not below. -/
theorem GuessIn.first {us vs : List Nat} {n : Nat} (h : GuessIn us vs n) : val us / val vs ≤ gTwo us n / (vs[n + 1]?.getD 0) := by
  have htop := h.top
  have h2 := digit_top (P := 4294967296 ^ n) (Nat.pow_pos (by decide)) (val_top2 h.vl) (val_top3 h.ul) (val_take_lt h.ult (by rw [h.ul]; omega)) (Q := val us / val vs) (Nat.div_mul_le_self _ _)
  rw [Nat.le_div_iff_mul_le (by omega)]
  unfold gTwo
  generalize val us / val vs = Q at *
  rw [Nat.mul_add, Nat.mul_left_comm Q 4294967296] at h2
  have hu := getD_lt (k := n) h.ult (by decide)
  generalize us[n + 1]?.getD 0 + 4294967296 * (us[n + 2]?.getD 0) = T at *
  omega
structure MsInv (xs ys : List Nat) (q k c b : Nat) (zs : List Nat) : Prop where
  len : zs.length = xs.length
  lt : ∀ z ∈ zs, z < 4294967296
  car : c ≤ q
  bor : b ≤ 1
  fin : ys.length < k → c = 0
  eq : val zs + q * val (ys.take k) = val xs + 4294967296 ^ k * (c + b)
/-- No borrow: the guess was the digit. -/
theorem MsInv.right {xs ys zs : List Nat} {q c : Nat} (h : MsInv xs ys q xs.length c 0 zs) (hl : ys.length < xs.length) (hq : val xs / val ys ≤ q) (hp : 0 < val ys) : q = val xs / val ys ∧ val zs = val xs % val ys := by
  have h1 := h.eq
  rw [h.fin hl, List.take_of_length_le (by omega)] at h1
  have h2 : q * val ys ≤ val xs := by omega
  have h3 : q = val xs / val ys := Nat.le_antisymm ((Nat.le_div_iff_mul_le hp).2 h2) hq
  refine ⟨h3, ?_⟩
  have h4 := Nat.div_add_mod (val xs) (val ys)
  rw [← h3, Nat.mul_comm] at h4
  omega
/-- A borrow: the guess was one more; added back once. -/
theorem MsInv.more {xs ys zs ws : List Nat} {q c k : Nat} (h : MsInv xs ys q xs.length c 1 zs) (ha : AddInv zs ys xs.length k ws) (hl : ys.length < xs.length) (hq : q ≤ val xs / val ys + 1) (hp : 0 < val ys) (hy : ∀ y ∈ ys, y < 4294967296) :
    q = val xs / val ys + 1 ∧ val ws = val xs % val ys := by
  have h1 := h.eq
  rw [h.fin hl, List.take_of_length_le (by omega)] at h1
  have hz := val_lt zs h.lt
  rw [h.len] at hz
  have h2 : val xs < q * val ys := by omega
  have h3 : q = val xs / val ys + 1 := by
    have : val xs / val ys < q := (Nat.div_lt_iff_lt_mul hp).2 h2
    omega
  refine ⟨h3, ?_⟩
  have h4 := Nat.div_add_mod (val xs) (val ys)
  have h5 : q * val ys = val ys * (val xs / val ys) + val ys := by rw [h3, Nat.mul_comm, Nat.mul_add, Nat.mul_one]
  have h6 := ha.eq
  rw [List.take_of_length_le (by omega)] at h6
  have h7 := Nat.mod_lt (val xs) hp
  have h8 : val ys < 4294967296 ^ xs.length := Nat.lt_of_lt_of_le (val_lt ys hy) (Nat.pow_le_pow_right (by decide) (by omega))
  have hw := val_lt ws ha.lt
  rw [ha.len, h.len] at hw
  have hcar := ha.car
  rcases (by omega : k = 0 ∨ k = 1) with rfl | rfl
  · omega
  · omega
end Go.Proofs.YtlmjkbdodecbmaaDoor
namespace Go.Proofs.YtlmjkbdodecbmaaDoor
set_option linter.unusedVariables false
/-- Between two digits: j digits are still to come. -/
structure LongInv (V N n : Nat) (j : Nat) (us qs : List Nat) : Prop where
  eq : N = val us + V * val qs
  less : val (us.drop j) < V
  ult : ∀ x ∈ us, x < 4294967296
  qlt : ∀ x ∈ qs, x < 4294967296
  zero : ∀ i, i < j → qs[i]?.getD 0 = 0
theorem LongInv.done {V N n : Nat} {us qs : List Nat} (h : LongInv V N n 0 us qs) : val qs = N / V ∧ val us = N % V := by
  have h1 := h.eq
  have h2 := h.less
  rw [List.drop_zero] at h2
  have hV : 0 < V := by omega
  refine ⟨?_, ?_⟩
  · rw [h1, Nat.add_mul_div_left _ _ hV, Nat.div_eq_of_lt h2, Nat.zero_add]
  · rw [h1, Nat.add_mul_mod_self_left, Nat.mod_eq_of_lt h2]
end Go.Proofs.YtlmjkbdodecbmaaDoor
namespace Go.Proofs.YtlmjkbdodecbmaaDoor
set_option linter.unusedVariables false
set_option linter.unusedSimpArgs false
/-- The number of a list of rlimbs, the lowest first. -/
def rval : List Nat → Nat
  | [] => 0
  | x :: xs => x + 10000 * rval xs
/-- The rlimbs of a number: none are 0 at the top. -/
def rlimbs (n : Nat) : List Nat := if n = 0 then [] else n % 10000 :: rlimbs (n / 10000)
decreasing_by omega
theorem rlimbs_zero : rlimbs 0 = [] := by rw [rlimbs]; simp
theorem rval_append (xs ys : List Nat) : rval (xs ++ ys) = rval xs + 10000 ^ xs.length * rval ys := by
  induction xs with
  | nil => simp [rval]
  | cons x xs ih => simp only [List.cons_append, rval, ih, List.length_cons, Nat.pow_succ]; rw [Nat.mul_add, Nat.mul_comm (10000 ^ xs.length) 10000, Nat.mul_assoc]; omega
theorem rval_lt (xs : List Nat) (h : ∀ x ∈ xs, x < 10000) : rval xs < 10000 ^ xs.length := by
  induction xs with
  | nil => simp [rval]
  | cons x xs ih =>
    have h1 := h x (by simp)
    have h2 := ih (fun y hy => h y (by simp [hy]))
    simp only [rval, List.length_cons, Nat.pow_succ]
    omega
end Go.Proofs.YtlmjkbdodecbmaaDoor
namespace Go.Proofs.YtlmjkbdodecbmaaDoor
set_option linter.unusedVariables false
set_option linter.unusedSimpArgs false
theorem rval_take_succ {xs : List Nat} {k : Nat} : rval (xs.take (k + 1)) = rval (xs.take k) + 10000 ^ k * (xs[k]?.getD 0) := by
  by_cases hk : k < xs.length
  · rw [take_snoc' xs k hk, rval_append, List.length_take, Nat.min_eq_left (by omega)]; simp [rval]
  · rw [List.take_of_length_le (by omega), List.take_of_length_le (by omega), List.getElem?_eq_none (by omega)]; simp
/-! Adding: k places are done, c is carried. -/
structure RAdd (xs ys : List Nat) (k c : Nat) (zs : List Nat) : Prop where
  len : zs.length = k
  lt : ∀ z ∈ zs, z < 10000
  car : c ≤ 1
  eq : rval zs + 10000 ^ k * c = rval (xs.take k) + rval (ys.take k)
theorem RAdd.done {xs ys zs : List Nat} {k : Nat} (h : RAdd xs ys k 0 zs) (h1 : xs.length ≤ k) (h2 : ys.length ≤ k) : rval zs = rval xs + rval ys := by
  have := h.eq
  rw [List.take_of_length_le h1, List.take_of_length_le h2] at this
  omega
/-! Taking away: k places are done, c is borrowed. -/
structure RSub (xs ys : List Nat) (k c : Nat) (zs : List Nat) : Prop where
  len : zs.length = k
  lt : ∀ z ∈ zs, z < 10000
  car : c ≤ 1
  eq : rval zs + rval (ys.take k) = rval (xs.take k) + 10000 ^ k * c
theorem RSub.done {xs ys zs : List Nat} {k c : Nat} (h : RSub xs ys k c zs) (h1 : xs.length = k) (h2 : ys.length ≤ k) (hle : rval ys ≤ rval xs) : rval zs = rval xs - rval ys := by
  have he := h.eq
  have hl := rval_lt zs h.lt
  rw [h.len] at hl
  rw [List.take_of_length_le (l := xs) (by omega), List.take_of_length_le (l := ys) h2] at he
  have hc := h.car
  rcases Nat.eq_zero_or_pos c with h0 | h0
  · subst h0; omega
  · obtain rfl : c = 1 := by omega
    omega
/-! Multiplying: row i up to place j, c carried. -/
structure RMul (xs ys : List Nat) (i j c : Nat) (zs : List Nat) : Prop where
  len : zs.length = xs.length + ys.length + 1
  lt : ∀ z ∈ zs, z < 10000
  car : c < 10000
  eq : rval zs + 10000 ^ (i + j) * c = rval (xs.take i) * rval ys + 10000 ^ i * (xs[i]?.getD 0 * rval (ys.take j))
theorem RMul.row {xs ys zs : List Nat} {i j : Nat} (h : RMul xs ys i j 0 zs) (hj : ys.length ≤ j) : RMul xs ys (i + 1) 0 0 zs := by
  refine ⟨h.len, h.lt, by decide, ?_⟩
  have he := h.eq
  rw [List.take_of_length_le hj] at he
  rw [rval_take_succ, Nat.add_mul, Nat.mul_assoc]
  simp [rval] at he ⊢
  omega
theorem RMul.done {xs ys zs : List Nat} {i : Nat} (h : RMul xs ys i 0 0 zs) (hi : xs.length ≤ i) : rval zs = rval xs * rval ys := by
  have he := h.eq
  rw [List.take_of_length_le hi, List.getElem?_eq_none hi] at he
  simpa using he
/-! Dividing: the places from k on are done. -/
structure RDiv (xs : List Nat) (b : Nat) (k : Nat) (qs : List Nat) (r : Nat) : Prop where
  len : qs.length = xs.length
  lt : ∀ q ∈ qs, q < 10000
  rest : r < b
  low : ∀ i, i < k → qs[i]?.getD 0 = 0
  eq : rval qs * b + 10000 ^ k * r = 10000 ^ k * rval (xs.drop k)
theorem RDiv.done {xs qs : List Nat} {b r : Nat} (h : RDiv xs b 0 qs r) (hb : 0 < b) : rval qs = rval xs / b ∧ r = rval xs % b := by
  have he := h.eq
  simp only [Nat.pow_zero, Nat.one_mul, List.drop_zero] at he
  have hr := h.rest
  rw [← he]
  constructor
  · rw [Nat.add_comm, Nat.add_mul_div_right _ _ hb, Nat.div_eq_of_lt hr, Nat.zero_add]
  · rw [Nat.add_comm, Nat.add_mul_mod_self_right, Nat.mod_eq_of_lt hr]
/-! Texts. -/
structure RTxt (n : Nat) (ds : List Nat) (q : Nat) : Prop where
  lt : ∀ d ∈ ds, d < 10
  eq : n = dval ds + 10 ^ ds.length * q
theorem RTxt.done {n : Nat} {ds : List Nat} (h : RTxt n ds 0) (hn : 0 < n) (ht : ∀ hd : ds ≠ [], ds.getLast hd ≠ 0) : ds.reverse.map (48 + ·) = dec n := by
  have he := h.eq
  rw [Nat.mul_zero, Nat.add_zero] at he
  rw [dec_pos hn, he, dig_dval ds h.lt ht]
end Go.Proofs.YtlmjkbdodecbmaaDoor

namespace Go.Proofs.YtlmjkbdodecbmaaDoor
set_option linter.unusedVariables false
set_option linter.unusedSimpArgs false
open Go.RowKit
/-- The numbers of a list lie in memory from an address on. -/
def Cells (k : IntKind) (w : World) (ao : Option Addr) (xs : List Nat) : Prop :=
  xs = [] ∨ ∃ b off, ao = some ⟨b, off, none⟩ ∧ b < w.heap.size ∧ ∀ i, i < xs.length → w.cell? ⟨b, off + i, none⟩ = some (.int k ((xs[i]?.getD 0 : Nat) : Int))
/-- A slice's value that reads as a list of numbers. -/
def Ints (k : IntKind) (w : World) (v : Value) (xs : List Nat) : Prop :=
  ∃ ao cap, v = .slice ao xs.length cap ∧ xs.length ≤ cap ∧ cap ≤ maxLen ∧ (ao = none → cap = 0) ∧ Cells k w ao xs
theorem Cells.below {k : IntKind} {w w' : World} {ao : Option Addr} {xs : List Nat} (h : Cells k w ao xs) (hb : Below w.heap.size w w') : Cells k w' ao xs := by
  rcases h with h | ⟨b, off, h1, h2, h3⟩
  · exact .inl h
  · exact .inr ⟨b, off, h1, Nat.lt_of_lt_of_le h2 hb.size, fun i hi => (hb.cell (p := ⟨b, off + i, none⟩) h2).trans (h3 i hi)⟩
theorem Ints.below {k : IntKind} {w w' : World} {v : Value} {xs : List Nat} (h : Ints k w v xs) (hb : Below w.heap.size w w') : Ints k w' v xs := by
  obtain ⟨ao, cap, h1, h2, h3, h4, h5⟩ := h
  exact ⟨ao, cap, h1, h2, h3, h4, h5.below hb⟩
theorem Cells.alloc {k : IntKind} {w : World} {ao : Option Addr} {xs : List Nat} (h : Cells k w ao xs) (o : Obj) : Cells k (w.alloc o) ao xs :=
  h.below ((Below.refl _ _).alloc (Nat.le_refl _) _)
theorem Ints.alloc {k : IntKind} {w : World} {v : Value} {xs : List Nat} (h : Ints k w v xs) (o : Obj) : Ints k (w.alloc o) v xs :=
  h.below ((Below.refl _ _).alloc (Nat.le_refl _) _)
theorem Cells.take {k : IntKind} {w : World} {ao : Option Addr} {xs : List Nat} (h : Cells k w ao xs) (n : Nat) : Cells k w ao (xs.take n) := by
  rcases h with h | ⟨b, off, h1, h2, h3⟩
  · exact .inl (by simp [h])
  · refine .inr ⟨b, off, h1, h2, fun i hi => ?_⟩
    rw [h3 i (by simp at hi; omega), List.getElem?_take, if_pos (by simp at hi; omega)]
/-- A natural number in memory: the limbs, none 0 at the top. -/
def NatIs (w : World) (v : Value) (n : Nat) : Prop := ∃ sv, v = .agg #[sv] ∧ Ints .u32 w sv (limbs n)
theorem NatIs.below {w w' : World} {v : Value} {n : Nat} (h : NatIs w v n) (hb : Below w.heap.size w w') : NatIs w' v n := by
  obtain ⟨sv, h1, h2⟩ := h
  exact ⟨sv, h1, h2.below hb⟩
/-- Numbers as the cells hold them. -/
def ints (k : IntKind) (xs : List Nat) : List Value := xs.map fun n => Value.int k ((n : Nat) : Int)
theorem ints_length (k : IntKind) (xs : List Nat) : (ints k xs).length = xs.length := by simp [ints]
theorem ints_get (k : IntKind) (xs : List Nat) (i : Nat) (h : i < xs.length) : (ints k xs)[i]? = some (.int k ((xs[i]?.getD 0 : Nat) : Int)) := by
  simp [ints, h]
/-- A slice of the call's own, from block base on: its cells. -/
def Owns (base : Nat) (e : TypeId) (w : World) (v : Value) (xs : List Value) : Prop := w.ownsRow base e 1 v xs.length xs
theorem Owns.nil (base : Nat) (e : TypeId) (w : World) : Owns base e w (.slice none 0 0) [] := World.ownsRow_nil _ _ _ _
theorem Owns.shape {base : Nat} {e : TypeId} {w : World} {v : Value} {xs : List Value} (h : Owns base e w v xs) :
    (v = .slice none 0 0 ∧ xs = []) ∨ ∃ g cap, v = .slice (some ⟨g, 0, none⟩) xs.length cap ∧ base ≤ g ∧ g < w.heap.size ∧ xs.length ≤ cap ∧ cap ≤ maxLen ∧
      (∀ j, j < xs.length → w.cell? ⟨g, j, none⟩ = xs[j]?) ∧ (∀ j, w.frozen? ⟨g, j, none⟩ = false) := by
  have h0 := h
  obtain ⟨h1, ⟨rfl, hn⟩ | ⟨g, cap, cur, rfl, h2, h3, h4, h5, h6, h7⟩⟩ := h
  · exact .inl ⟨rfl, List.eq_nil_of_length_eq_zero hn⟩
  · exact .inr ⟨g, cap, rfl, h2, (Array.getElem?_eq_some_iff.1 h3).1, h4, h5, fun j hj => World.ownsRow.cellAt h0 j (by omega), fun j => World.ownsRow.frozenAt h0 j⟩
theorem Owns.kept {base : Nat} {e : TypeId} {w w' : World} {v : Value} {xs : List Value} (h : Owns base e w v xs) (hb : Below w.heap.size w w') : Owns base e w' v xs :=
  World.ownsRow.kept (row := none) h ⟨hb.os, hb.tape, hb.output, hb.size, fun k hk _ => hb.block k hk⟩ (by cases hv : v.ownBlock <;> simp)
theorem Owns.alloc {base : Nat} {e : TypeId} {w : World} {v : Value} {xs : List Value} (h : Owns base e w v xs) (o : Obj) : Owns base e (w.alloc o) v xs := World.ownsRow.alloc h o
theorem Owns.mono {base base' : Nat} {e : TypeId} {w : World} {v : Value} {xs : List Value} (h : Owns base e w v xs) (hb : base' ≤ base) : Owns base' e w v xs := by
  obtain ⟨h1, h2 | ⟨g, cap, cur, h2, h3, h4⟩⟩ := h
  · exact ⟨h1, .inl h2⟩
  · exact ⟨h1, .inr ⟨g, cap, cur, h2, by omega, h4⟩⟩
theorem Cells.at {k : IntKind} {w : World} {ad : Addr} {xs : List Nat} (h : Cells k w (some ad) xs) : ∀ j u, (ints k xs)[j]? = some u → w.cell? (ad.add j) = some u := by
  intro j u hu
  have hj : j < xs.length := by have := (List.getElem?_eq_some_iff.1 hu).1; rwa [ints_length] at this
  rcases h with rfl | ⟨b, off, e, _, hc⟩
  · simp at hj
  · obtain rfl := Option.some.inj e
    rw [Addr.add_lit, hc j hj, ← ints_get k xs j hj, hu]
theorem Cells.set {k : IntKind} {w : World} {ao : Option Addr} {xs : List Nat} (h : Cells k w ao xs) (p : Addr) (u : Value) (hp : ∀ n, w.cell? p ≠ some (.int k n)) : Cells k (w.setCell p u) ao xs := by
  rcases h with h | ⟨b, off, h1, h2, h3⟩
  · exact .inl h
  · refine .inr ⟨b, off, h1, by simpa [World.setCell] using h2, fun i hi => ?_⟩
    rw [World.cell?_setCell_other]
    · exact h3 i hi
    · intro e'
      exact hp _ (e' ▸ h3 i hi)
theorem Ints.set {k : IntKind} {w : World} {v : Value} {xs : List Nat} (h : Ints k w v xs) (p : Addr) (u : Value) (hp : ∀ n, w.cell? p ≠ some (.int k n)) : Ints k (w.setCell p u) v xs := by
  obtain ⟨ao, cap, h1, h2, h3, h4, h5⟩ := h
  exact ⟨ao, cap, h1, h2, h3, h4, h5.set p u hp⟩
theorem NatIs.set {w : World} {v : Value} {n : Nat} (h : NatIs w v n) (p : Addr) (u : Value) (hp : ∀ n, w.cell? p ≠ some (.int .u32 n)) : NatIs (w.setCell p u) v n := by
  obtain ⟨sv, h1, h2⟩ := h
  exact ⟨sv, h1, h2.set p u hp⟩
theorem cell_set {w : World} {p : Addr} {u v : Value} (h : w.cell? p = some u) : (w.setCell p v).cell? p = some v :=
  World.cell?_setCell_same' _ _ _ (by rw [h]; rfl)
theorem Owns.at {base : Nat} {e : TypeId} {w : World} {g n cap : Nat} {k : IntKind} {xs : List Nat} (h : Owns base e w (.slice (some ⟨g, 0, none⟩) n cap) (ints k xs)) :
    xs.length = n ∧ base ≤ g ∧ g < w.heap.size ∧ n ≤ cap ∧ (∀ j, j < n → w.cell? ⟨g, j, none⟩ = some (.int k ((xs[j]?.getD 0 : Nat) : Int))) ∧ (∀ j, w.frozen? ⟨g, j, none⟩ = false) := by
  rcases h.shape with ⟨h, _⟩ | ⟨g', cap', h, h2, h3, h4, h5, h6, h7⟩
  · cases h
  · rw [ints_length] at h h4 h6
    simp only [Value.slice.injEq, Option.some.injEq, Addr.mk.injEq, and_true] at h
    obtain ⟨rfl, rfl, rfl⟩ := h
    exact ⟨rfl, h2, h3, h4, fun j hj => by rw [h6 j hj, ints_get _ _ _ hj], h7⟩
theorem ret_one {v v' : Value} (h : v = v') : Ending.returned v = .returned v' := by rw [h]
end Go.Proofs.YtlmjkbdodecbmaaDoor
namespace Go.Proofs.YtlmjkbdodecbmaaDoor
open Go.RowKit
set_option linter.unusedVariables false
set_option linter.unusedSimpArgs false
/-- The cells of block g from off on hold these numbers, and may be written. -/
structure Mut (k : IntKind) (w : World) (g off : Nat) (xs : List Nat) : Prop where
  lt : g < w.heap.size
  cell : ∀ i, i < xs.length → w.cell? ⟨g, off + i, none⟩ = some (.int k ((xs[i]?.getD 0 : Nat) : Int))
  free : ∀ i, i < xs.length → w.frozen? ⟨g, off + i, none⟩ = false
theorem Mut.cells {k : IntKind} {w : World} {g off : Nat} {xs : List Nat} (h : Mut k w g off xs) : Cells k w (some ⟨g, off, none⟩) xs :=
  .inr ⟨g, off, rfl, h.lt, h.cell⟩
theorem Mut.kept {k : IntKind} {w w' : World} {g off : Nat} {xs : List Nat} (h : Mut k w g off xs) (hb : w'.heap[g]? = w.heap[g]?) (hs : w.heap.size ≤ w'.heap.size) : Mut k w' g off xs :=
  ⟨Nat.lt_of_lt_of_le h.lt hs, fun i hi => (World.cell?_of_block (w := w) (a := ⟨g, off + i, none⟩) hb).trans (h.cell i hi), fun i hi => (World.frozen?_of_block (w := w) (a := ⟨g, off + i, none⟩) hb).trans (h.free i hi)⟩
theorem Mut.below {k : IntKind} {w w' : World} {g off B : Nat} {xs : List Nat} (h : Mut k w g off xs) (hb : Below B w w') (hg : g < B) : Mut k w' g off xs :=
  h.kept (hb.block g hg) hb.size
theorem Mut.take {k : IntKind} {w : World} {g off : Nat} {xs : List Nat} (h : Mut k w g off xs) (n : Nat) : Mut k w g off (xs.take n) :=
  ⟨h.lt, fun i hi => by rw [h.cell i (by simp at hi; omega), List.getElem?_take, if_pos (by simp at hi; omega)], fun i hi => h.free i (by simp at hi; omega)⟩
theorem Mut.drop {k : IntKind} {w : World} {g off : Nat} {xs : List Nat} (h : Mut k w g off xs) (n : Nat) : Mut k w g (off + n) (xs.drop n) :=
  ⟨h.lt, fun i hi => by rw [Nat.add_assoc, h.cell (n + i) (by simp at hi; omega), List.getElem?_drop], fun i hi => by rw [Nat.add_assoc]; exact h.free (n + i) (by simp at hi; omega)⟩
theorem Mut.set {k : IntKind} {w : World} {g off : Nat} {xs : List Nat} (h : Mut k w g off xs) (j y : Nat) (hj : j < xs.length) : Mut k (w.setCell ⟨g, off + j, none⟩ (.int k (y : Int))) g off (xs.set j y) := by
  refine ⟨by simpa [World.setCell] using h.lt, fun i hi => ?_, fun i hi => ?_⟩
  · rw [List.length_set] at hi
    rw [getD_set hj]
    by_cases e : i = j
    · subst e
      rw [if_pos rfl]
      exact cell_set (h.cell i hj)
    · rw [if_neg e, World.cell?_setCell_other]
      · exact h.cell i hi
      · intro e'; have h2 : off + j = off + i := by injection e'
        omega
  · rw [List.length_set] at hi
    rw [World.frozen?_setCell]
    exact h.free i hi
theorem grownBy_trans {a b c : World} {r : Option Nat} (h : a.grownBy b r) (h' : b.grownBy c r) : a.grownBy c r :=
  ⟨h'.os.trans h.os, h'.tape.trans h.tape, h'.output.trans h.output, Nat.le_trans h.size h'.size, fun k hk hr => (h'.block k (Nat.lt_of_lt_of_le hk h.size) hr).trans (h.block k hk hr)⟩
theorem grownBy_set {a w : World} {g : Nat} (h : a.grownBy w (some g)) (j : Nat) (u : Value) : a.grownBy (w.setCell ⟨g, j, none⟩ u) (some g) :=
  grownBy_trans h ⟨rfl, rfl, rfl, by simp [World.setCell], fun k hk hr => Below.heap_setCell _ _ _ _ (fun e => hr (by simp [e]))⟩
theorem grownBy_refl (w : World) (r : Option Nat) : w.grownBy w r := ⟨rfl, rfl, rfl, Nat.le_refl _, fun _ _ _ => rfl⟩
/-- Numbers as bytes. -/
def str (xs : List Nat) : List UInt8 := xs.map UInt8.ofNat
/-- A block of one cell, a variable of the call's own. -/
structure Box (w : World) (b : Nat) (v : Value) : Prop where
  cell : w.cell? ⟨b, 0, none⟩ = some v
  free : w.frozen? ⟨b, 0, none⟩ = false
  lt : b < w.heap.size
theorem Box.below {w w' : World} {b B : Nat} {v : Value} (h : Box w b v) (hb : Below B w w') (hlt : b < B) : Box w' b v :=
  ⟨(hb.cell (p := ⟨b, 0, none⟩) hlt).trans h.cell, (hb.frozen (p := ⟨b, 0, none⟩) hlt).trans h.free, Nat.lt_of_lt_of_le h.lt hb.size⟩
theorem Box.kept {w w' : World} {b : Nat} {v : Value} (h : Box w b v) (hb : Below w.heap.size w w') : Box w' b v := h.below hb h.lt
theorem Box.drew {w : World} {b : Nat} {v : Value} (h : Box w b v) : Box w.drew b v := ⟨h.cell, h.free, h.lt⟩
theorem Box.set {w : World} {b : Nat} {v : Value} (h : Box w b v) (u : Value) : Box (w.setCell ⟨b, 0, none⟩ u) b u :=
  ⟨cell_set h.cell, by rw [World.frozen?_setCell]; exact h.free, by simpa [World.setCell] using h.lt⟩
end Go.Proofs.YtlmjkbdodecbmaaDoor

namespace Go.Proofs.YtlmjkbdodecbmaaDoor
open Go.RowKit
set_option linter.unusedVariables false
set_option linter.unusedSimpArgs false
/-- From W on to W': only blocks of S, and new ones, have turned; S' holds no other old ones. -/
structure Foot (S S' : Nat → Prop) (W W' : World) : Prop where
  os : W'.os = W.os
  tape : W'.tape = W.tape
  output : W'.output = W.output
  size : W.heap.size ≤ W'.heap.size
  same : ∀ k, k < W.heap.size → ¬ S k → W'.heap[k]? = W.heap[k]?
  fresh : ∀ k, S' k → S k ∨ W.heap.size ≤ k
theorem Foot.refl (S : Nat → Prop) (W : World) : Foot S S W W := ⟨rfl, rfl, rfl, Nat.le_refl _, fun _ _ _ => rfl, fun _ h => .inl h⟩
theorem Foot.trans {S S' S'' : Nat → Prop} {A B C : World} (h : Foot S S' A B) (h' : Foot S' S'' B C) : Foot S S'' A C :=
  ⟨h'.os.trans h.os, h'.tape.trans h.tape, h'.output.trans h.output, Nat.le_trans h.size h'.size,
    fun k hk hs => (h'.same k (Nat.lt_of_lt_of_le hk h.size) (fun hs' => by rcases h.fresh k hs' with h1 | h1; exact hs h1; omega)).trans (h.same k hk hs),
    fun k hk => by
      rcases h'.fresh k hk with h1 | h1
      · exact h.fresh k h1
      · exact .inr (Nat.le_trans h.size h1)⟩
theorem Foot.of_below {S : Nat → Prop} {W W' : World} (h : Below W.heap.size W W') : Foot S S W W' :=
  ⟨h.os, h.tape, h.output, h.size, fun k hk _ => h.block k hk, fun _ h => .inl h⟩
theorem Foot.mono {S S' T : Nat → Prop} {W W' : World} (h : Foot S S' W W') (hT : ∀ k, T k → S' k) : Foot S T W W' :=
  ⟨h.os, h.tape, h.output, h.size, h.same, fun k hk => h.fresh k (hT k hk)⟩
theorem Foot.wide {S S' T : Nat → Prop} {W W' : World} (h : Foot S S' W W') : Foot (fun k => S k ∨ T k) (fun k => S' k ∨ T k) W W' :=
  ⟨h.os, h.tape, h.output, h.size, fun k hk hs => h.same k hk (fun h1 => hs (.inl h1)), fun k hk => by
    rcases hk with h1 | h1
    · rcases h.fresh k h1 with h2 | h2
      · exact .inl (.inl h2)
      · exact .inr h2
    · exact .inl (.inr h1)⟩
theorem Foot.put {S : Nat → Prop} {W : World} {l : Nat} (o : Obj) (hl : S l) : Foot S S W (W.putObj l o) :=
  ⟨rfl, rfl, rfl, by simp, fun k _ hs => World.putObj_heap_other (fun e => hs (e ▸ hl)), fun _ h => .inl h⟩
/-- All rows of cells, and all that lies below B, are as they were. -/
structure Ext (B : Nat) (W W' : World) : Prop where
  os : W'.os = W.os
  tape : W'.tape = W.tape
  output : W'.output = W.output
  size : W.heap.size ≤ W'.heap.size
  low : ∀ k, k < B → k < W.heap.size → W'.heap[k]? = W.heap[k]?
  cells : ∀ (k : Nat) (o : Obj), W.heap[k]? = some o → o.isCells = true → W'.heap[k]? = some o
theorem Ext.of_below {B : Nat} {W W' : World} (h : Below W.heap.size W W') : Ext B W W' :=
  ⟨h.os, h.tape, h.output, h.size, fun k _ hk => h.block k hk, fun k o ho _ => (h.block k (Array.getElem?_eq_some_iff.1 ho).1).trans ho⟩
theorem Ext.put {B : Nat} {W : World} {l : Nat} {o o' : Obj} (hl : B ≤ l) (ho : W.heap[l]? = some o) (hc : o.isCells = false) : Ext B W (W.putObj l o') :=
  ⟨rfl, rfl, rfl, by simp, fun k hk _ => World.putObj_heap_other (by omega), fun k o2 h2 hc2 => by
    by_cases e : k = l
    · subst e; rw [ho] at h2; cases h2; rw [hc] at hc2; cases hc2
    · exact (World.putObj_heap_other e).trans h2⟩
theorem Ext.trans {B : Nat} {A C D : World} (h : Ext B A C) (h' : Ext B C D) : Ext B A D :=
  ⟨h'.os.trans h.os, h'.tape.trans h.tape, h'.output.trans h.output, Nat.le_trans h.size h'.size, fun k hk h1 => (h'.low k hk (Nat.lt_of_lt_of_le h1 h.size)).trans (h.low k hk h1), fun k o h1 h2 => h'.cells k o (h.cells k o h1 h2) h2⟩
/-- What abides all that turns no cells. -/
def Stab {α : Type} (B : Nat) (J : List α → (Nat → Prop) → World → Prop) : Prop := ∀ pre S W W', J pre S W → Ext B W W' → J pre S W'
/-- S holds blocks of the world alone. -/
def Top (S : Nat → Prop) (W : World) : Prop := ∀ k, S k → k < W.heap.size
abbrev IterArgs (l : Nat) (lb : Array Value) : Array Value := #[.func (.yield l) #[] #[]] ++ lb
/-- THE CONTRACT OF AN ITERATOR VALUE, called in a world that goes on from w: it tells the elements of xs one by one (Enc: how a value reads as an element), till a round says no more. B: the body's own blocks lie from there on. -/
def Iter {α : Type} (P : Program) (gf : Nat) (lb : Array Value) (Enc : World → Value → α → Prop) (xs : List α) (B : Nat) (Kp : World → World → Prop) (w : World) : Prop :=
  ∀ (l : Nat) (J Jx : List α → (Nat → Prop) → World → Prop) (S0 : Nat → Prop) (W1 : World), Below w.heap.size w W1 → (∀ k, S0 k → B ≤ k ∧ k < W1.heap.size) →
    (∀ pre S W W', J pre S W → Below W.heap.size W W' → J pre S W') → (∀ pre S W W', Jx pre S W → Below W.heap.size W W' → Jx pre S W') →
    (∀ pre x v S W, J pre S W → Enc W v x → pre ++ [x] <+: xs → YieldAt Fence.wide 0 P l #[v] W fun e W' =>
      (e = .returned (.bool true) ∧ ∃ S', J (pre ++ [x]) S' W' ∧ Foot S S' W W' ∧ Top S' W' ∧ Kp W W') ∨ (e = .returned (.bool false) ∧ ∃ S', Jx (pre ++ [x]) S' W' ∧ Foot S S' W W')) →
    J [] S0 W1 →
    CallsIn Fence.wide 0 P gf (IterArgs l lb) W1 fun e W' => (∃ v, e = .returned v) ∧ ((∃ S', J xs S' W' ∧ Foot S0 S' W1 W') ∨ (∃ pre S', pre <+: xs ∧ Jx pre S' W' ∧ Foot S0 S' W1 W'))
/-- What a round's body owes. -/
def postS {α : Type} (Kp : World → World → Prop) (I : List α → (Nat → Prop) → World → Prop) (Ix : Code → List α → (Nat → Prop) → World → Prop) (pre : List α) (S : Nat → Prop) (W : World) : Exit → Act → World → Prop
  | .normal, _, W' => ∃ S', I pre S' W' ∧ Foot S S' W W' ∧ Top S' W' ∧ Kp W W'
  | .ret, _, W' => ∃ S', Ix .ret pre S' W' ∧ Foot S S' W W'
  | .exit id, _, W' => ∃ S', Ix (.exit id) pre S' W' ∧ Foot S S' W W'
  | .goto t, _, W' => ∃ S', Ix (.goto t) pre S' W' ∧ Foot S S' W W'
  | _, _, _ => False
end Go.Proofs.YtlmjkbdodecbmaaDoor
namespace Go.Proofs.YtlmjkbdodecbmaaDoor
open Go.RowKit
set_option linter.unusedVariables false
set_option linter.unusedSimpArgs false
/-- All cells of the row are p's. -/
def RowAll (p : Value → Prop) (w : World) (v : Value) : Prop := ∀ g, v.ownBlock = some g → ∀ j c, w.cell? ⟨g, j, none⟩ = some c → p c
theorem cell_mem {w : World} {g j : Nat} {arr : Array Value} {e : TypeId} {fz : Nat × Nat} {c : Value} (h : w.heap[g]? = some (.cells arr e fz)) (hc : w.cell? ⟨g, j, none⟩ = some c) : c ∈ arr := by
  unfold World.cell? at hc
  simp only [h] at hc
  simp at hc
  exact Array.mem_of_getElem? hc
theorem mem_zeroCells {z : Array Value} {n : Nat} {c : Value} (h : c ∈ Builtin.zeroCells z n) : c ∈ z := by
  simp [Builtin.zeroCells] at h
  obtain ⟨i, hi, rfl⟩ := h
  have hz : 0 < z.size := by
    rcases Nat.eq_zero_or_pos z.size with h0 | h0
    · rw [h0] at hi; simp at hi
    · exact h0
  rw [getElem!_pos z (i % z.size) (Nat.mod_lt _ hz)]
  exact Array.getElem_mem _
end Go.Proofs.YtlmjkbdodecbmaaDoor

namespace Go.Proofs.YtlmjkbdodecbmaaDoor
set_option linter.unusedVariables false
set_option linter.unusedSimpArgs false
open Go.RowKit
end Go.Proofs.YtlmjkbdodecbmaaDoor
namespace Go.Proofs.YtlmjkbdodecbmaaDoor
open Go.RowKit
set_option linter.unusedVariables false
set_option linter.unusedSimpArgs false
theorem Tryd.info158 : (Tryd.prog.info? 158).map (fun i => (i.zero, i.size, i.bytes)) = some (some (.int .u32 0), 1, 4) := by kernel_rfl
theorem NatIs.open {w : World} {v : Value} {n : Nat} (h : NatIs w v n) : ∃ ao cap, v = .agg #[.slice ao (limbs n).length cap] ∧ (limbs n).length ≤ cap ∧ cap ≤ 9223372036854775807 ∧ (ao = none → cap = 0) ∧ Cells .u32 w ao (limbs n) := by
  obtain ⟨sv, rfl, ao, cap, rfl, h1, h2, h3, h4⟩ := h
  exact ⟨ao, cap, rfl, h1, h2, h3, h4⟩
theorem NatIs.zero (w : World) : NatIs w (.agg #[.slice none 0 0]) 0 :=
  ⟨_, rfl, none, 0, by rw [limbs_zero]; rfl, by rw [limbs_zero]; simp, Nat.zero_le _, fun _ => rfl, .inl limbs_zero⟩
theorem field_nat (w : World) (x : Value) : (Instr.field 118 (.agg #[x]) 0).run Tryd.prog w = .ok x w := by kernel_rfl
attribute [local go_sem] and_low
end Go.Proofs.YtlmjkbdodecbmaaDoor
namespace Go.Proofs.YtlmjkbdodecbmaaDoor
open Go.RowKit
set_option linter.unusedVariables false
set_option linter.unusedSimpArgs false
attribute [local go_sem] and_low
end Go.Proofs.YtlmjkbdodecbmaaDoor
namespace Go.Proofs.YtlmjkbdodecbmaaDoor
open Go.RowKit
set_option linter.unusedVariables false
set_option linter.unusedSimpArgs false
end Go.Proofs.YtlmjkbdodecbmaaDoor
namespace Go.Proofs.YtlmjkbdodecbmaaDoor
open Go.RowKit
set_option linter.unusedVariables false
set_option linter.unusedSimpArgs false
attribute [local go_sem] and_low
end Go.Proofs.YtlmjkbdodecbmaaDoor
namespace Go.Proofs.YtlmjkbdodecbmaaDoor
open Go.RowKit
set_option linter.unusedVariables false
set_option linter.unusedSimpArgs false
attribute [local go_sem] and_low field_nat
theorem Tryd.info5 : (Tryd.prog.info? 5).map (fun i => (i.zero, i.size, i.bytes)) = some (some (.int .u8 0), 1, 1) := by kernel_rfl
end Go.Proofs.YtlmjkbdodecbmaaDoor
