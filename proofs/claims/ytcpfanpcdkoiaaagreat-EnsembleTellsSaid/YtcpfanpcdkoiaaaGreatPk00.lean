/-
  Pk00: MathN (what is needed of them).
-/
import Derived.WalkKit
import Derived.Shelf.Small.Bits
set_option maxRecDepth 100000
set_option linter.unusedVariables false
set_option linter.unusedSimpArgs false

namespace Go.Proofs.YtcpfanpcdkoiaaaGreat


def val : List Nat → Nat
 | [] => 0
 | x :: xs => x + 4294967296 * val xs
def limbs (n : Nat) : List Nat := if n = 0 then [] else n % 4294967296 :: limbs (n / 4294967296)
decreasing_by omega
theorem limbs_zero : limbs 0 = [] := by rw [limbs]; simp
theorem limbs_pos {n : Nat} (h : 0 < n) : limbs n = n % 4294967296 :: limbs (n / 4294967296) := by
 rw [limbs, if_neg (by omega)]
theorem val_limbs (n : Nat) : val (limbs n) = n := by
 induction n using Nat.strongRecOn with
 | _ n ih =>
  by_cases h : n = 0
  ·subst h; rw [limbs_zero]; rfl
  ·rw [limbs_pos (by omega), val, ih _ (by omega)]; omega
theorem limbs_lt (n : Nat) : ∀ x ∈ limbs n, x < 4294967296 := by
 induction n using Nat.strongRecOn with
 | _ n ih =>
  by_cases h : n = 0
  ·subst h; rw [limbs_zero]; simp
  ·rw [limbs_pos (by omega)]
   intro x hx
   rcases List.mem_cons.1 hx with rfl | hx
   ·omega
   ·exact ih _ (by omega) x hx
theorem limbs_eq_nil {n : Nat} : limbs n = [] ↔ n = 0 := by
 constructor
 ·intro h; rw [← val_limbs n, h]; rfl
 ·rintro rfl; exact limbs_zero
theorem limbs_getLast (n : Nat) (h : limbs n ≠ []) : (limbs n).getLast h ≠ 0 := by
 induction n using Nat.strongRecOn with
 | _ n ih =>
  by_cases h0 : n = 0
  ·subst h0; exact absurd limbs_zero h
  ·have e := limbs_pos (show 0 < n by omega)
   by_cases hq : n / 4294967296 = 0
   ·have : limbs n = [n % 4294967296] := by rw [e, hq, limbs_zero]
    simp only [this, List.getLast_singleton]; omega
   ·have hne : limbs (n / 4294967296) ≠ [] := by rw [Ne, limbs_eq_nil]; exact hq
    have := ih (n / 4294967296) (by omega) hne
    simp only [e]
    rw [List.getLast_cons hne]
    exact this
theorem val_append (xs ys : List Nat) : val (xs ++ ys) = val xs + 4294967296 ^ xs.length * val ys := by
 induction xs with
 | nil => simp [val]
 | cons x xs ih => simp only [List.cons_append, val, ih, List.length_cons, Nat.pow_succ]; rw [Nat.mul_add, Nat.mul_comm (4294967296 ^ xs.length) 4294967296, Nat.mul_assoc]; omega
theorem val_lt (xs : List Nat) (h : ∀ x ∈ xs, x < 4294967296) : val xs < 4294967296 ^ xs.length := by
 induction xs with
 | nil => simp [val]
 | cons x xs ih =>
  have h1 := h x (by simp)
  have h2 := ih (fun y hy => h y (by simp [hy]))
  simp only [val, List.length_cons, Nat.pow_succ]
  omega
theorem limbs_val (xs : List Nat) (h : ∀ x ∈ xs, x < 4294967296) (ht : ∀ hn : xs ≠ [], xs.getLast hn ≠ 0) : limbs (val xs) = xs := by
 induction xs with
 | nil => exact limbs_zero
 | cons x xs ih =>
  have hx := h x (by simp)
  have ih' := ih (fun y hy => h y (by simp [hy])) (fun hn => by have := ht (by simp); rwa [List.getLast_cons hn] at this)
  have hpos : 0 < val (x :: xs) := by
   simp only [val]
   by_cases hn : xs = []
   ·subst hn
    have := ht (by simp)
    simp at this
    omega
   ·have : val xs ≠ 0 := by
     intro h0
     rw [h0, limbs_zero] at ih'
     exact hn ih'.symm
    omega
  rw [limbs_pos hpos]
  simp only [val]
  rw [Nat.add_mul_mod_self_left, Nat.mod_eq_of_lt hx, Nat.add_mul_div_left _ _ (by omega), Nat.div_eq_of_lt hx, Nat.zero_add, ih']
theorem val_snoc_zero (xs : List Nat) : val (xs ++ [0]) = val xs := by rw [val_append]; simp [val]
theorem val_take_of_zero (xs : List Nat) (k : Nat) (h : ∀ i, k ≤ i → i < xs.length → xs[i]? = some 0) : val (xs.take k) = val xs := by
 induction xs generalizing k with
 | nil => simp
 | cons x xs ih =>
  cases k with
  | zero =>
   have h0 := h 0 (Nat.le_refl _) (by simp)
   simp at h0
   have := ih 0 (fun i _ hi => by have := h (i + 1) (by omega) (by simp; omega); simpa using this)
   simp only [List.take_zero, val] at this ⊢
   omega
  | succ k =>
   have := ih k (fun i h1 hi => by have := h (i + 1) (by omega) (by simp; omega); simpa using this)
   simp only [List.take_succ_cons, val, this]
theorem limbs_take (xs : List Nat) (k : Nat) (hk : k ≤ xs.length) (h : ∀ x ∈ xs, x < 4294967296) (hz : ∀ i, k ≤ i → i < xs.length → xs[i]? = some 0)
  (ht : k = 0 ∨ xs[k - 1]? ≠ some 0) : limbs (val xs) = xs.take k := by
 rw [← val_take_of_zero xs k hz]
 refine limbs_val _ (fun x hx => h x (List.mem_of_mem_take hx)) (fun hn h0 => ?_)
 have hk0 : k ≠ 0 := by rintro rfl; simp at hn
 rcases ht with rfl | ht
 ·exact hk0 rfl
 ·apply ht
  rw [List.getLast_eq_getElem] at h0
  simp only [List.length_take, Nat.min_eq_left hk, List.getElem_take] at h0
  rw [List.getElem?_eq_getElem (by omega), h0]
theorem val_limbs_length_le (xs : List Nat) (h : ∀ x ∈ xs, x < 4294967296) : (limbs (val xs)).length ≤ xs.length := by
 have hlt := val_lt xs h
 generalize hv : val xs = v at *
 generalize xs.length = m at *
 clear h hv
 induction m generalizing v with
 | zero =>
  have : v = 0 := by simp at hlt; exact hlt
  subst this; rw [limbs_zero]; simp
 | succ m ih =>
  by_cases h0 : v = 0
  ·subst h0; rw [limbs_zero]; simp
  ·rw [limbs_pos (by omega), List.length_cons]
   have := ih (v / 4294967296) (by rw [Nat.pow_succ] at hlt; exact Nat.div_lt_of_lt_mul (by rw [Nat.mul_comm]; exact hlt))
   omega
theorem limbs_length_le {n k : Nat} (h : n < 4294967296 ^ k) : (limbs n).length ≤ k := by
 induction k generalizing n with
 | zero =>
  have : n = 0 := by simp at h; exact h
  subst this; rw [limbs_zero]; simp
 | succ k ih =>
  by_cases h0 : n = 0
  ·subst h0; rw [limbs_zero]; simp
  ·rw [limbs_pos (by omega), List.length_cons]
   have := @ih (n / 4294967296) (by rw [Nat.pow_succ] at h; exact Nat.div_lt_of_lt_mul (by rw [Nat.mul_comm]; exact h))
   omega
theorem lt_pow_limbs (n : Nat) : n < 4294967296 ^ (limbs n).length := by
 have := val_lt (limbs n) (limbs_lt n)
 rwa [val_limbs] at this
theorem limbs_length_mono {a b : Nat} (h : a ≤ b) : (limbs a).length ≤ (limbs b).length :=
 limbs_length_le (Nat.lt_of_le_of_lt h (lt_pow_limbs b))
theorem and_low (x : Int) : bits .and .u64 x 4294967295 = x % 4294967296 := by
 obtain ⟨a, ha⟩ := Int.eq_ofNat_of_zero_le (Int.emod_nonneg x (show (18446744073709551616 : Int) ≠ 0 by decide))
 have hlt : a < 18446744073709551616 := by omega
 have e : BitVec.ofInt 64 x = BitVec.ofInt 64 (a : Int) := by
  apply BitVec.eq_of_toInt_eq
  simp only [BitVec.toInt_ofInt, Int.bmod_def]
  omega
 have e1 : bits .and .u64 x 4294967295 = bits .and .u64 (a : Int) 4294967295 := by
  simp only [bits, IntKind.bits] at *
  rw [e]
 have e2 : bits .and .u64 (a : Int) 4294967295 = (a : Int) % 4294967296 := bits_mask .u64 64 (by decide) (fun n h0 h1 => by rw [IntKind.wrap_u64]; omega) 32 (by decide) a (by omega) (by omega)
 rw [e1, e2]
 omega
theorem or_join (x y : Int) (hx : 0 ≤ x) (hx1 : x < 4294967296) (hy : 0 ≤ y) (hy1 : y < 4294967296) : bits .or .u64 (x * 4294967296) y = x * 4294967296 + y :=
 bits_join .u64 64 (by decide) (fun n h0 h1 => by rw [IntKind.wrap_u64]; omega) 32 _ _ (by omega) (by omega) (by omega) hy (by omega) (by omega)
theorem limbs_prefix (xs : List Nat) (h : ∀ x ∈ xs, x < 4294967296) : ∃ k, k ≤ xs.length ∧ limbs (val xs) = xs.take k := by
 generalize hn : xs.length = n
 induction n generalizing xs with
 | zero =>
  have : xs = [] := List.eq_nil_of_length_eq_zero hn
  subst this
  exact ⟨0, Nat.le_refl _, limbs_zero⟩
 | succ n ih =>
  have hne : xs ≠ [] := by rintro rfl; simp at hn
  by_cases h0 : xs.getLast hne = 0
  ·have e : xs = xs.dropLast ++ [0] := by rw [← h0]; exact (List.dropLast_concat_getLast hne).symm
   obtain ⟨k, hk, hk2⟩ := ih xs.dropLast (fun x hx => h x (List.dropLast_subset _ hx)) (by simp [hn])
   refine ⟨k, by omega, ?_⟩
   have e2 : val xs = val xs.dropLast := by rw [e, val_snoc_zero]; simp
   rw [e2, hk2]
   have : xs.dropLast = xs.take n := by rw [List.dropLast_eq_take, hn]; rfl
   rw [this, List.take_take, Nat.min_eq_left hk]
  ·exact ⟨n + 1, Nat.le_refl _, by rw [limbs_val xs h (fun _ => h0), ← hn, List.take_length]⟩
end Go.Proofs.YtcpfanpcdkoiaaaGreat
namespace Go.Proofs.YtcpfanpcdkoiaaaGreat


def divL : List Nat → Nat → List Nat × Nat
 | [], _ => ([], 0)
 | x :: xs, m => (((divL xs m).2 * 4294967296 + x) / m :: (divL xs m).1, ((divL xs m).2 * 4294967296 + x) % m)
theorem divL_length (xs : List Nat) (m : Nat) : (divL xs m).1.length = xs.length := by
 induction xs with
 | nil => rfl
 | cons x xs ih => simp [divL, ih]
theorem divL_rest (xs : List Nat) (m : Nat) (hm : 0 < m) : (divL xs m).2 < m := by
 cases xs with
 | nil => exact hm
 | cons x xs => exact Nat.mod_lt _ hm
theorem divL_val (xs : List Nat) (m : Nat) (hm : 0 < m) : val (divL xs m).1 * m + (divL xs m).2 = val xs := by
 induction xs with
 | nil => simp [divL, val]
 | cons x xs ih =>
  simp only [divL, val]
  have h2 := Nat.div_add_mod ((divL xs m).2 * 4294967296 + x) m
  rw [Nat.mul_comm] at h2
  rw [Nat.add_mul, Nat.mul_assoc]
  generalize ((divL xs m).2 * 4294967296 + x) / m * m = a at *
  generalize ((divL xs m).2 * 4294967296 + x) % m = b at *
  generalize val (divL xs m).1 * m = d at *
  omega
theorem small_div {r x m : Nat} (hr : r < m) (hx : x < 4294967296) (hm : m ≤ 4294967296) : r * 4294967296 + x < 18446744073709551616 ∧ (r * 4294967296 + x) / m < 4294967296 := by
 constructor
 ·omega
 ·apply Nat.div_lt_of_lt_mul
  have : (r + 1) * 4294967296 ≤ m * 4294967296 := Nat.mul_le_mul_right _ hr
  omega
theorem divL_lt (xs : List Nat) (m : Nat) (hx : ∀ x ∈ xs, x < 4294967296) (hm : 0 < m) (hm2 : m ≤ 4294967296) : ∀ x ∈ (divL xs m).1, x < 4294967296 := by
 induction xs with
 | nil => simp [divL]
 | cons y xs ih =>
  intro x h
  rcases List.mem_cons.1 h with rfl | h
  ·exact (small_div (divL_rest xs m hm) (hx y (by simp)) hm2).2
  ·exact ih (fun z hz => hx z (by simp [hz])) x h
theorem divL_eq (xs : List Nat) (m : Nat) (hm : 0 < m) : val (divL xs m).1 = val xs / m ∧ (divL xs m).2 = val xs % m := by
 have h := divL_val xs m hm
 have h2 := divL_rest xs m hm
 constructor
 ·rw [← h, Nat.mul_comm, Nat.mul_add_div hm, Nat.div_eq_of_lt h2, Nat.add_zero]
 ·rw [← h, Nat.mul_comm, Nat.mul_add_mod, Nat.mod_eq_of_lt h2]
theorem take_snoc' (xs : List Nat) (k : Nat) (hk : k < xs.length) : xs.take (k + 1) = xs.take k ++ [xs[k]?.getD 0] := by
 rw [List.take_add_one, List.getElem?_eq_getElem hk]; rfl
theorem set_done_top {xs ds : List Nat} {k y : Nat} (hk : k < xs.length) : (xs.take (k + 1) ++ ds).set k y = xs.take k ++ (y :: ds) := by
 rw [take_snoc' xs k hk, List.append_assoc, List.set_append_right _ _ (by simp; omega)]
 congr 1
 have : k - (xs.take k).length = 0 := by simp; omega
 rw [this]; rfl
theorem getD_lt {xs : List Nat} {B k : Nat} (h : ∀ x ∈ xs, x < B) (hB : 0 < B) : xs[k]?.getD 0 < B := by
 by_cases hk : k < xs.length
 ·rw [List.getElem?_eq_getElem hk]; exact h _ (List.getElem_mem _)
 ·rw [List.getElem?_eq_none (by omega)]; exact hB
theorem ext_getD {xs ys : List Nat} (hl : xs.length = ys.length) (h : ∀ i, i < xs.length → xs[i]?.getD 0 = ys[i]?.getD 0) : xs = ys := by
 apply List.ext_getElem hl
 intro i h1 h2
 have := h i h1
 rw [List.getElem?_eq_getElem h1, List.getElem?_eq_getElem h2] at this
 exact this
theorem getD_set {xs : List Nat} {k y i : Nat} (hk : k < xs.length) : (xs.set k y)[i]?.getD 0 = if i = k then y else xs[i]?.getD 0 := by
 rw [List.getElem?_set]
 by_cases h : k = i
 ·subst h; simp [hk]
 ·rw [if_neg h, if_neg (fun e => h e.symm)]
theorem getD_reverse {xs : List Nat} {i : Nat} (hi : i < xs.length) : xs.reverse[i]?.getD 0 = xs[xs.length - 1 - i]?.getD 0 := by
 rw [List.getElem?_reverse hi]
def RevUp (xs ys : List Nat) (k : Nat) : Prop := ys.length = xs.length ∧ ∀ i, i < xs.length → ys[i]?.getD 0 = if i < k ∨ xs.length - k ≤ i then xs[xs.length - 1 - i]?.getD 0 else xs[i]?.getD 0
theorem RevUp.start (xs : List Nat) : RevUp xs xs 0 := ⟨rfl, fun i hi => by rw [if_neg (by omega)]⟩
theorem RevUp.next {xs ys : List Nat} {k : Nat} (h : RevUp xs ys k) (hk : 2 * k + 1 < xs.length) :
  RevUp xs ((ys.set k (ys[xs.length - 1 - k]?.getD 0)).set (xs.length - 1 - k) (ys[k]?.getD 0)) (k + 1) := by
 refine ⟨by simp [h.1], fun i hi => ?_⟩
 rw [getD_set (by simp [h.1]; omega), getD_set (by rw [h.1]; omega)]
 by_cases h1 : i = xs.length - 1 - k
 ·rw [if_pos h1, h.2 k (by omega), if_neg (by omega), if_pos (by omega), h1]
  congr 2; omega
 ·rw [if_neg h1]
  by_cases h2 : i = k
  ·rw [if_pos h2, h.2 _ (by omega), if_neg (by omega), if_pos (by omega), h2]
  ·rw [if_neg h2, h.2 i hi]
   by_cases h3 : i < k ∨ xs.length - k ≤ i
   ·rw [if_pos h3, if_pos (by omega)]
   ·rw [if_neg h3, if_neg (by omega)]
theorem RevUp.done {xs ys : List Nat} {k : Nat} (h : RevUp xs ys k) (hk : xs.length ≤ 2 * k + 1) : ys = xs.reverse := by
 refine ext_getD (by simp [h.1]) (fun i hi => ?_)
 rw [h.1] at hi
 rw [h.2 i hi, getD_reverse hi]
 by_cases h3 : i < k ∨ xs.length - k ≤ i
 ·rw [if_pos h3]
 ·rw [if_neg h3]; congr 2; omega
end Go.Proofs.YtcpfanpcdkoiaaaGreat
namespace Go.Proofs.YtcpfanpcdkoiaaaGreat


def dig (n : Nat) : List Nat := if n = 0 then [] else n % 10 :: dig (n / 10)
decreasing_by omega
theorem dig_zero : dig 0 = [] := by rw [dig]; simp
theorem dig_pos {n : Nat} (h : 0 < n) : dig n = n % 10 :: dig (n / 10) := by rw [dig, if_neg (by omega)]
def dval : List Nat → Nat
 | [] => 0
 | x :: xs => x + 10 * dval xs
theorem dval_append (xs ys : List Nat) : dval (xs ++ ys) = dval xs + 10 ^ xs.length * dval ys := by
 induction xs with
 | nil => simp [dval]
 | cons x xs ih => simp only [List.cons_append, dval, ih, List.length_cons, Nat.pow_succ]; rw [Nat.mul_add, Nat.mul_comm (10 ^ xs.length) 10, Nat.mul_assoc]; omega
theorem dig_dval (xs : List Nat) (h : ∀ x ∈ xs, x < 10) (ht : ∀ hn : xs ≠ [], xs.getLast hn ≠ 0) : dig (dval xs) = xs := by
 induction xs with
 | nil => exact dig_zero
 | cons x xs ih =>
  have hx := h x (by simp)
  have ih' := ih (fun y hy => h y (by simp [hy])) (fun hn => by have := ht (by simp); rwa [List.getLast_cons hn] at this)
  have hpos : 0 < dval (x :: xs) := by
   simp only [dval]
   by_cases hn : xs = []
   ·subst hn
    have := ht (by simp)
    simp at this
    omega
   ·have : dval xs ≠ 0 := by
     intro h0
     rw [h0, dig_zero] at ih'
     exact hn ih'.symm
    omega
  rw [dig_pos hpos]
  simp only [dval]
  rw [Nat.add_mul_mod_self_left, Nat.mod_eq_of_lt hx, Nat.add_mul_div_left _ _ (by omega), Nat.div_eq_of_lt hx, Nat.zero_add, ih']
def dec (n : Nat) : List Nat := if n = 0 then [48] else (dig n).reverse.map (48 + ·)
theorem dec_pos {n : Nat} (h : 0 < n) : dec n = (dig n).reverse.map (48 + ·) := by unfold dec; rw [if_neg (by omega)]
end Go.Proofs.YtcpfanpcdkoiaaaGreat
namespace Go.Proofs.YtcpfanpcdkoiaaaGreat


theorem val_set {zs : List Nat} {k : Nat} (v : Nat) (hk : k < zs.length) : val (zs.set k v) + 4294967296 ^ k * (zs[k]?.getD 0) = val zs + 4294967296 ^ k * v := by
 induction zs generalizing k with
 | nil => simp at hk
 | cons z zs ih =>
  cases k with
  | zero => simp [val]; omega
  | succ k =>
   have := @ih k (by simpa using hk)
   simp only [List.set_cons_succ, val, List.getElem?_cons_succ, Nat.pow_succ]
   rw [Nat.mul_comm (4294967296 ^ k) 4294967296, Nat.mul_assoc, Nat.mul_assoc]
   omega
theorem val_take_succ {xs : List Nat} {k : Nat} : val (xs.take (k + 1)) = val (xs.take k) + 4294967296 ^ k * (xs[k]?.getD 0) := by
 by_cases hk : k < xs.length
 ·rw [take_snoc' xs k hk, val_append, List.length_take, Nat.min_eq_left (by omega)]; simp [val]
 ·rw [List.take_of_length_le (by omega), List.take_of_length_le (by omega), List.getElem?_eq_none (by omega)]; simp
theorem set_lt {zs : List Nat} {k v B : Nat} (h : ∀ z ∈ zs, z < B) (hv : v < B) : ∀ z ∈ zs.set k v, z < B := by
 intro z hz
 rcases List.mem_or_eq_of_mem_set hz with h1 | h1
 ·exact h z h1
 ·exact h1 ▸ hv
/-! Comparing from the top. -/
theorem val_cons' (xs : List Nat) : val xs = xs[0]?.getD 0 + 4294967296 * val xs.tail := by
 cases xs <;> simp [val]
theorem getD_tail (xs : List Nat) (i : Nat) : xs.tail[i]?.getD 0 = xs[i + 1]?.getD 0 := by
 cases xs <;> simp
theorem val_ext {n : Nat} {xs ys : List Nat} (hx : xs.length ≤ n) (hy : ys.length ≤ n) (h : ∀ j : Nat, xs[j]?.getD 0 = ys[j]?.getD 0) : val xs = val ys := by
 induction n generalizing xs ys with
 | zero =>
  have h1 : xs = [] := List.eq_nil_of_length_eq_zero (by omega)
  have h2 : ys = [] := List.eq_nil_of_length_eq_zero (by omega)
  rw [h1, h2]
 | succ n ih =>
  rw [val_cons' xs, val_cons' ys, h 0, ih (xs := xs.tail) (ys := ys.tail) (by simp; omega) (by simp; omega) (fun j => by rw [getD_tail, getD_tail, h])]
theorem val_lt_of_top {k : Nat} {xs ys : List Nat} (hx : ∀ x ∈ xs, x < 4294967296) (hy : ∀ y ∈ ys, y < 4294967296) (h : ∀ j : Nat, k < j → xs[j]?.getD 0 = ys[j]?.getD 0) (hk : xs[k]?.getD 0 < ys[k]?.getD 0) : val xs < val ys := by
 induction k generalizing xs ys with
 | zero =>
  rw [val_cons' xs, val_cons' ys, val_ext (n := xs.length + ys.length) (xs := xs.tail) (ys := ys.tail) (by simp; omega) (by simp; omega) (fun j => by rw [getD_tail, getD_tail, h _ (by omega)])]
  omega
 | succ k ih =>
  have := ih (xs := xs.tail) (ys := ys.tail) (fun x h => hx x (List.mem_of_mem_tail h)) (fun x h => hy x (List.mem_of_mem_tail h)) (fun j hj => by rw [getD_tail, getD_tail, h _ (by omega)]) (by rw [getD_tail, getD_tail]; exact hk)
  have h1 := getD_lt (k := 0) hx (by decide)
  rw [val_cons' xs, val_cons' ys]
  omega
def cmpI (a b : Nat) : Int := if a < b then -1 else if b < a then 1 else 0
/-! Adding: c is carried into place k. -/
structure AddInv (xs ys : List Nat) (k c : Nat) (zs : List Nat) : Prop where
 len : zs.length = xs.length
 lt : ∀ z ∈ zs, z < 4294967296
 car : c ≤ 1
 eq : val zs + 4294967296 ^ k * c = val xs + val (ys.take k)
theorem AddInv.start {xs ys : List Nat} (h : ∀ x ∈ xs, x < 4294967296) : AddInv xs ys 0 0 xs := ⟨rfl, h, by omega, by simp [val]⟩
theorem AddInv.next {xs ys zs : List Nat} {k c : Nat} (h : AddInv xs ys k c zs) (hy : ∀ y ∈ ys, y < 4294967296) (hk : k < xs.length) :
  AddInv xs ys (k + 1) ((c + ys[k]?.getD 0 + zs[k]?.getD 0) / 4294967296) (zs.set k ((c + ys[k]?.getD 0 + zs[k]?.getD 0) % 4294967296)) := by
 have hz := getD_lt (k := k) h.lt (by decide)
 have hyk := getD_lt (k := k) hy (by decide)
 have hc := h.car
 refine ⟨by simp [h.len], set_lt h.lt (by omega), by omega, ?_⟩
 have h1 := val_set ((c + ys[k]?.getD 0 + zs[k]?.getD 0) % 4294967296) (show k < zs.length by rw [h.len]; exact hk)
 have h2 := h.eq
 rw [val_take_succ, Nat.pow_succ, Nat.mul_assoc]
 generalize zs[k]?.getD 0 = z at *
 generalize ys[k]?.getD 0 = y at *
 have h3 : 4294967296 ^ k * ((c + y + z) % 4294967296) + 4294967296 ^ k * (4294967296 * ((c + y + z) / 4294967296)) = 4294967296 ^ k * c + 4294967296 ^ k * y + 4294967296 ^ k * z := by
  rw [← Nat.mul_add, ← Nat.mul_add, ← Nat.mul_add, Nat.mod_add_div]
 generalize 4294967296 ^ k = P at *
 omega
theorem carry_zero {z P c s : Nat} (h1 : z + P * (4294967296 * c) = s) (h2 : s < P + P) : c = 0 := by
 rcases Nat.eq_zero_or_pos c with hc | hc
 ·exact hc
 ·exfalso
  have h3 : P * 2 ≤ P * (4294967296 * c) := Nat.mul_le_mul_left _ (by omega)
  generalize P * (4294967296 * c) = R at *
  omega
theorem AddInv.done {la lb zs : List Nat} {c : Nat} (h : AddInv (la ++ [0]) lb (la.length + 1) c zs) (ha : ∀ x ∈ la, x < 4294967296) (hb : ∀ x ∈ lb, x < 4294967296) (hl : lb.length ≤ la.length) : val zs = val la + val lb := by
 have h1 : val zs + 4294967296 ^ la.length * (4294967296 * c) = val la + val lb := by
  have := h.eq
  rw [val_snoc_zero, List.take_of_length_le (by omega), Nat.pow_succ, Nat.mul_assoc] at this
  exact this
 have h2 := val_lt la ha
 have h3 := Nat.lt_of_lt_of_le (val_lt lb hb) (Nat.pow_le_pow_right (by decide) hl : 4294967296 ^ lb.length ≤ 4294967296 ^ la.length)
 have h5 : c = 0 := carry_zero h1 (Nat.add_lt_add h2 h3)
 rw [h5] at h1
 simpa using h1
theorem AddInv.broke {la lb zs : List Nat} {k : Nat} (h : AddInv (la ++ [0]) lb k 0 zs) (hk : lb.length ≤ k) : val zs = val la + val lb := by
 have h1 := h.eq
 rw [val_snoc_zero, List.take_of_length_le hk] at h1
 omega
/-! Taking away: c is borrowed from place k. -/
structure SubInv (xs ys : List Nat) (k c : Nat) (zs : List Nat) : Prop where
 len : zs.length = xs.length
 lt : ∀ z ∈ zs, z < 4294967296
 car : c ≤ 1
 eq : val zs + val (ys.take k) = val xs + 4294967296 ^ k * c
theorem SubInv.start {xs ys : List Nat} (h : ∀ x ∈ xs, x < 4294967296) : SubInv xs ys 0 0 xs := ⟨rfl, h, by omega, by simp [val]⟩
def subC (z t : Nat) : Nat := if z < t then 1 else 0
def subV (z t : Nat) : Nat := if z < t then 4294967296 + z - t else z - t
theorem SubInv.next {xs ys zs : List Nat} {k c : Nat} (h : SubInv xs ys k c zs) (hy : ∀ y ∈ ys, y < 4294967296) (hk : k < xs.length) :
  SubInv xs ys (k + 1) (subC (zs[k]?.getD 0) (c + ys[k]?.getD 0)) (zs.set k (subV (zs[k]?.getD 0) (c + ys[k]?.getD 0))) := by
 have hz := getD_lt (k := k) h.lt (by decide)
 have hyk := getD_lt (k := k) hy (by decide)
 have hc := h.car
 have hv : subV (zs[k]?.getD 0) (c + ys[k]?.getD 0) < 4294967296 := by unfold subV; split <;> omega
 refine ⟨by simp [h.len], set_lt h.lt hv, by unfold subC; split <;> omega, ?_⟩
 have h1 := val_set (subV (zs[k]?.getD 0) (c + ys[k]?.getD 0)) (show k < zs.length by rw [h.len]; exact hk)
 have h2 := h.eq
 rw [val_take_succ, Nat.pow_succ, Nat.mul_assoc]
 generalize zs[k]?.getD 0 = z at *
 generalize ys[k]?.getD 0 = y at *
 have h3 : 4294967296 ^ k * subV z (c + y) + 4294967296 ^ k * c + 4294967296 ^ k * y = 4294967296 ^ k * z + 4294967296 ^ k * (4294967296 * subC z (c + y)) := by
  rw [← Nat.mul_add, ← Nat.mul_add, ← Nat.mul_add]
  congr 1
  unfold subV subC
  split <;> omega
 generalize 4294967296 ^ k = P at *
 omega
theorem SubInv.done {la lb zs : List Nat} {k c : Nat} (h : SubInv la lb k c zs) (hk : lb.length ≤ k) (hk2 : la.length ≤ k ∨ c = 0) (hle : val lb ≤ val la) : val zs = val la - val lb := by
 have h1 := h.eq
 have h2 := val_lt zs h.lt
 rw [List.take_of_length_le hk] at h1
 rw [h.len] at h2
 have hc := h.car
 have h4 : la.length ≤ k → 4294967296 ^ la.length ≤ 4294967296 ^ k := fun h => Nat.pow_le_pow_right (by decide) h
 generalize 4294967296 ^ la.length = P at *
 generalize 4294967296 ^ k = Q at *
 have h5 : c = 0 := by
  rcases hk2 with hk2 | hk2
  ·rcases Nat.eq_zero_or_pos c with hc | hc
   ·exact hc
   ·exfalso
    have h6 := h4 hk2
    have : Q * 1 ≤ Q * c := Nat.mul_le_mul_left _ hc
    generalize Q * c = R at *
    omega
  ·exact hk2
 subst h5
 omega
/-! Multiplying: the row of x, at place i, up to place j; c is carried. -/
structure MulIn (zs0 ys : List Nat) (i x j c : Nat) (zs : List Nat) : Prop where
 len : zs.length = zs0.length
 lt : ∀ z ∈ zs, z < 4294967296
 car : c < 4294967296
 top : ∀ t, i + j ≤ t → zs[t]?.getD 0 = zs0[t]?.getD 0
 eq : val zs + 4294967296 ^ (i + j) * c = val zs0 + 4294967296 ^ i * (x * val (ys.take j))
theorem MulIn.start {zs0 ys : List Nat} {i x : Nat} (h : ∀ z ∈ zs0, z < 4294967296) : MulIn zs0 ys i x 0 0 zs0 := ⟨rfl, h, by omega, fun _ _ => rfl, by simp [val]⟩
theorem mul_bound {c x y z : Nat} (hc : c < 4294967296) (hx : x < 4294967296) (hy : y < 4294967296) (hz : z < 4294967296) : c + (x * y + z) < 18446744073709551616 := by
 have : x * y ≤ 4294967295 * 4294967295 := Nat.mul_le_mul (by omega) (by omega)
 omega
theorem MulIn.next {zs0 ys zs : List Nat} {i x j c : Nat} (h : MulIn zs0 ys i x j c zs) (hx : x < 4294967296) (hy : ∀ y ∈ ys, y < 4294967296) (hk : i + j < zs0.length) :
  MulIn zs0 ys i x (j + 1) ((c + (x * ys[j]?.getD 0 + zs[i + j]?.getD 0)) / 4294967296) (zs.set (i + j) ((c + (x * ys[j]?.getD 0 + zs[i + j]?.getD 0)) % 4294967296)) := by
 have hz := getD_lt (k := i + j) h.lt (by decide)
 have hyk := getD_lt (k := j) hy (by decide)
 have hb := mul_bound h.car hx hyk hz
 refine ⟨by simp [h.len], set_lt h.lt (by omega), by omega, fun t ht => ?_, ?_⟩
 ·rw [List.getElem?_set_ne (by omega)]; exact h.top t (by omega)
 have h1 := val_set ((c + (x * ys[j]?.getD 0 + zs[i + j]?.getD 0)) % 4294967296) (show i + j < zs.length by rw [h.len]; exact hk)
 have h2 := h.eq
 have ej : i + (j + 1) = (i + j) + 1 := by omega
 rw [val_take_succ, ej, Nat.pow_succ, Nat.mul_assoc, Nat.mul_add, Nat.mul_add]
 have hxy : 4294967296 ^ i * (x * (4294967296 ^ j * ys[j]?.getD 0)) = 4294967296 ^ (i + j) * (x * ys[j]?.getD 0) := by
  rw [Nat.pow_add, Nat.mul_left_comm x, Nat.mul_assoc]
 rw [hxy]
 generalize x * ys[j]?.getD 0 = p at *
 generalize zs[i + j]?.getD 0 = z at *
 have h3 : 4294967296 ^ (i + j) * ((c + (p + z)) % 4294967296) + 4294967296 ^ (i + j) * (4294967296 * ((c + (p + z)) / 4294967296)) = 4294967296 ^ (i + j) * c + 4294967296 ^ (i + j) * p + 4294967296 ^ (i + j) * z := by
  rw [← Nat.mul_add, ← Nat.mul_add, ← Nat.mul_add, Nat.mod_add_div, Nat.add_assoc]
 generalize 4294967296 ^ (i + j) = P at *
 omega
structure MulOut (xs ys : List Nat) (i : Nat) (zs : List Nat) : Prop where
 len : zs.length = xs.length + ys.length
 lt : ∀ z ∈ zs, z < 4294967296
 top : ∀ t, i + ys.length ≤ t → zs[t]?.getD 0 = 0
 eq : val zs = val (xs.take i) * val ys
theorem val_replicate (n : Nat) : val (List.replicate n 0) = 0 := by
 induction n with
 | zero => rfl
 | succ n ih => simp [List.replicate_succ, val, ih]
theorem MulOut.start (xs ys : List Nat) : MulOut xs ys 0 (List.replicate (xs.length + ys.length) 0) :=
 ⟨by simp, by intro z hz; rw [List.eq_of_mem_replicate hz]; decide, fun t _ => by rw [List.getElem?_replicate]; split <;> rfl, by rw [val_replicate]; simp [val]⟩
theorem MulOut.next {xs ys zs0 zs : List Nat} {i c : Nat} (h0 : MulOut xs ys i zs0) (h : MulIn zs0 ys i (xs[i]?.getD 0) ys.length c zs) (hi : i < xs.length) :
  MulOut xs ys (i + 1) (zs.set (i + ys.length) c) := by
 have hk : i + ys.length < zs.length := by rw [h.len, h0.len]; omega
 refine ⟨by simp [h.len, h0.len], set_lt h.lt h.car, fun t ht => ?_, ?_⟩
 ·rw [List.getElem?_set_ne (by omega), h.top t (by omega), h0.top t (by omega)]
 ·have h1 := val_set c hk
  have h2 := h.eq
  rw [h.top _ (Nat.le_refl _), h0.top _ (Nat.le_refl _)] at h1
  rw [List.take_length, h0.eq] at h2
  rw [val_take_succ, Nat.add_mul, Nat.mul_assoc]
  generalize 4294967296 ^ (i + ys.length) = P at *
  generalize 4294967296 ^ i = Q at *
  omega
end Go.Proofs.YtcpfanpcdkoiaaaGreat
namespace Go.Proofs.YtcpfanpcdkoiaaaGreat


def isDig (c : UInt8) : Bool := decide (48 ≤ c.toNat) && decide (c.toNat ≤ 57)
def numOk (l : List UInt8) : Bool := l.all isDig && (l == [48] || (!l.isEmpty && l.headD 0 != 48))
def dnum (l : List UInt8) : Nat := l.foldl (fun a c => a * 10 + (c.toNat - 48)) 0
theorem dnum_snoc (l : List UInt8) (c : UInt8) : dnum (l ++ [c]) = dnum l * 10 + (c.toNat - 48) := by simp [dnum]
theorem isDig_iff {c : UInt8} : isDig c = true ↔ 48 ≤ c.toNat ∧ c.toNat ≤ 57 := by simp [isDig]
theorem dnum_lt (l : List UInt8) (h : l.all isDig = true) : dnum l < 10 ^ l.length := by
 generalize hn : l.length = n
 induction n generalizing l with
 | zero =>
  have : l = [] := List.eq_nil_of_length_eq_zero hn
  subst this; simp [dnum]
 | succ n ih =>
  have hne : l ≠ [] := by rintro rfl; simp at hn
  have e : l = l.dropLast ++ [l.getLast hne] := (List.dropLast_concat_getLast hne).symm
  have h1 : l.dropLast.all isDig = true := by
   rw [List.all_eq_true] at h ⊢; exact fun x hx => h x (List.dropLast_subset _ hx)
  have h2 : isDig (l.getLast hne) = true := by rw [List.all_eq_true] at h; exact h _ (List.getLast_mem hne)
  have := ih l.dropLast h1 (by simp [hn])
  rw [isDig_iff] at h2
  rw [e, dnum_snoc, Nat.pow_succ]
  omega
end Go.Proofs.YtcpfanpcdkoiaaaGreat
namespace Go.Proofs.YtcpfanpcdkoiaaaGreat


def blen (n : Nat) : Nat := if n = 0 then 0 else blen (n / 2) + 1
decreasing_by omega
theorem blen_zero : blen 0 = 0 := by rw [blen]; rfl
theorem blen_pos {n : Nat} (h : 0 < n) : blen n = blen (n / 2) + 1 := by rw [blen, if_neg (by omega)]
theorem lt_two_blen (n : Nat) : n < 2 ^ blen n := by
 induction n using Nat.strongRecOn with
 | _ n ih =>
  by_cases h : n = 0
  ·subst h; rw [blen_zero]; decide
  ·rw [blen_pos (by omega), Nat.pow_succ]
   have := ih (n / 2) (by omega)
   omega
theorem two_blen_le {n : Nat} (h : 0 < n) : 2 ^ (blen n - 1) ≤ n := by
 induction n using Nat.strongRecOn with
 | _ n ih =>
  rw [blen_pos h, Nat.add_sub_cancel]
  by_cases h2 : n / 2 = 0
  ·rw [h2, blen_zero]; simp; omega
  ·have := ih (n / 2) (by omega) (by omega)
   have e : blen (n / 2) = blen (n / 2) - 1 + 1 := by rw [blen_pos (n := n / 2) (by omega)]; rfl
   rw [e, Nat.pow_succ]
   omega
theorem blen_le {n k : Nat} (h : n < 2 ^ k) : blen n ≤ k := by
 rcases Nat.eq_zero_or_pos n with rfl | hp
 ·rw [blen_zero]; omega
 ·have := two_blen_le hp
  have h2 : 2 ^ (blen n - 1) < 2 ^ k := by omega
  have := (Nat.pow_lt_pow_iff_right (by decide : 1 < 2)).1 h2
  omega
theorem bitLen_blen (x : Nat) (h : x < 18446744073709551616) : Lib.bitLen x = blen x := by
 induction x using Nat.strongRecOn with
 | _ x ih =>
  by_cases h0 : x = 0
  ·subst h0; rw [blen_zero]; rfl
  ·rw [Lib.bitLen_half x h0 (by simpa using h), blen_pos (by omega), ih (x / 2) (by omega) (by omega)]
   omega
/-! Shifting down. -/
def downL (s : Nat) : List Nat → List Nat
 | [] => []
 | x :: xs => (x + 4294967296 * (xs[0]?.getD 0)) / 2 ^ s % 4294967296 :: downL s xs
theorem downL_lt (s : Nat) (xs : List Nat) : ∀ x ∈ downL s xs, x < 4294967296 := by
 induction xs with
 | nil => simp [downL]
 | cons x xs ih =>
  intro y hy
  rcases List.mem_cons.1 hy with rfl | hy
  ·exact Nat.mod_lt _ (by decide)
  ·exact ih y hy
theorem downL_length (s : Nat) (xs : List Nat) : (downL s xs).length = xs.length := by
 induction xs with
 | nil => rfl
 | cons x xs ih => simp [downL, ih]
theorem downL_val (s : Nat) (hs : s ≤ 32) (xs : List Nat) (hx : ∀ x ∈ xs, x < 4294967296) : val (downL s xs) = val xs / 2 ^ s := by
 induction xs with
 | nil => simp [downL, val]
 | cons x xs ih =>
  have hx0 := hx x (by simp)
  simp only [downL, val]
  rw [ih (fun y hy => hx y (by simp [hy]))]
  have e1 : (x + 4294967296 * val xs) / 2 ^ s / 4294967296 = val xs / 2 ^ s := by
   rw [Nat.div_div_eq_div_mul, Nat.mul_comm (2 ^ s), ← Nat.div_div_eq_div_mul, Nat.add_mul_div_left _ _ (by decide), Nat.div_eq_of_lt hx0, Nat.zero_add]
  have e2 : (x + 4294967296 * (xs[0]?.getD 0)) / 2 ^ s % 4294967296 = (x + 4294967296 * val xs) / 2 ^ s % 4294967296 := by
   have h3 : x + 4294967296 * val xs = (x + 4294967296 * (xs[0]?.getD 0)) + 2 ^ s * (4294967296 * (2 ^ (32 - s) * val xs.tail)) := by
    rw [val_cons' xs]
    have : 2 ^ s * (4294967296 * (2 ^ (32 - s) * val xs.tail)) = 4294967296 * (4294967296 * val xs.tail) := by
     rw [← Nat.mul_assoc, Nat.mul_comm (2 ^ s), Nat.mul_assoc, ← Nat.mul_assoc (2 ^ s), ← Nat.pow_add, show s + (32 - s) = 32 by omega]
    rw [this]; omega
   rw [h3, Nat.add_mul_div_left _ _ (Nat.pow_pos (by decide)), Nat.add_mul_mod_self_left]
  rw [e2, ← e1]
  exact Nat.mod_add_div _ _
theorem downL_snoc_get (s : Nat) (xs : List Nat) (k : Nat) (hk : k < xs.length) : (downL s xs).take (k + 1) = (downL s xs).take k ++ [(xs[k]?.getD 0 + 4294967296 * (xs[k + 1]?.getD 0)) / 2 ^ s % 4294967296] := by
 induction xs generalizing k with
 | nil => simp at hk
 | cons x xs ih =>
  cases k with
  | zero => simp [downL]
  | succ k => simp only [downL, List.take_succ_cons, ih k (by simpa using hk), List.cons_append, List.getElem?_cons_succ]
theorem val_drop (xs : List Nat) (k : Nat) (hx : ∀ x ∈ xs, x < 4294967296) : val (xs.drop k) = val xs / 4294967296 ^ k := by
 induction k generalizing xs with
 | zero => simp
 | succ k ih =>
  cases xs with
  | nil => simp [val]
  | cons x xs =>
   have hx0 := hx x (by simp)
   rw [List.drop_succ_cons, ih xs (fun y hy => hx y (by simp [hy])), val, Nat.pow_succ, Nat.mul_comm (4294967296 ^ k) 4294967296, ← Nat.div_div_eq_div_mul, Nat.add_mul_div_left _ _ (by decide), Nat.div_eq_of_lt hx0, Nat.zero_add]
/-! Shifting up: what is carried. -/
structure UpInv (s : Nat) (xs : List Nat) (k c : Nat) (zs : List Nat) : Prop where
 len : zs.length = k
 lt : ∀ z ∈ zs, z < 4294967296
 car : c < 2 ^ s
 eq : val zs + 4294967296 ^ k * c = val (xs.take k) * 2 ^ s
theorem UpInv.start (s : Nat) (xs : List Nat) : UpInv s xs 0 0 [] := ⟨rfl, by simp, Nat.pow_pos (by decide), by simp [val]⟩
theorem up_bound {s c x : Nat} (hs : s < 32) (hc : c < 2 ^ s) (hx : x < 4294967296) : c + x * 2 ^ s < 18446744073709551616 ∧ (c + x * 2 ^ s) / 4294967296 < 2 ^ s := by
 have h1 : 2 ^ s ≤ 2147483648 := by
  have : 2 ^ s ≤ 2 ^ 31 := Nat.pow_le_pow_right (by decide) (by omega)
  simpa using this
 have h2 : c + x * 2 ^ s < 4294967296 * 2 ^ s := by
  have : (x + 1) * 2 ^ s ≤ 4294967296 * 2 ^ s := Nat.mul_le_mul_right _ hx
  rw [Nat.add_mul] at this
  omega
 generalize 2 ^ s = p at *
 constructor
 ·generalize x * p = q at *; omega
 ·exact Nat.div_lt_of_lt_mul h2
theorem UpInv.next {s : Nat} {xs zs : List Nat} {k c : Nat} (h : UpInv s xs k c zs) (hs : s < 32) (hx : ∀ x ∈ xs, x < 4294967296) :
  UpInv s xs (k + 1) ((c + xs[k]?.getD 0 * 2 ^ s) / 4294967296) (zs ++ [(c + xs[k]?.getD 0 * 2 ^ s) % 4294967296]) := by
 have hxk := getD_lt (k := k) hx (by decide)
 have hb := up_bound hs h.car hxk
 refine ⟨by simp [h.len], ?_, hb.2, ?_⟩
 ·intro z hz
  rcases List.mem_append.1 hz with h1 | h1
  ·exact h.lt z h1
  ·simp at h1; omega
 ·have h2 := h.eq
  rw [val_append, h.len, val_take_succ, Nat.add_mul, ← h2, Nat.pow_succ, Nat.mul_assoc, Nat.mul_assoc]
  have h3 : 4294967296 ^ k * ((c + xs[k]?.getD 0 * 2 ^ s) % 4294967296) + 4294967296 ^ k * (4294967296 * ((c + xs[k]?.getD 0 * 2 ^ s) / 4294967296)) = 4294967296 ^ k * c + 4294967296 ^ k * (xs[k]?.getD 0 * 2 ^ s) := by
   rw [← Nat.mul_add, ← Nat.mul_add, Nat.mod_add_div]
  simp only [val, Nat.mul_zero, Nat.add_zero]
  rw [Nat.add_assoc, h3, Nat.add_assoc]
theorem UpInv.done {s : Nat} {xs zs : List Nat} {c : Nat} (h : UpInv s xs xs.length c zs) (q : Nat) : val (List.replicate q 0 ++ (zs ++ [c])) = val xs * 2 ^ (32 * q + s) := by
 have h2 := h.eq
 rw [List.take_length] at h2
 rw [val_append, val_append, val_replicate, List.length_replicate, h.len]
 simp only [val, Nat.mul_zero, Nat.add_zero, Nat.zero_add]
 rw [h2, Nat.pow_add, Nat.pow_mul, Nat.mul_left_comm]
end Go.Proofs.YtcpfanpcdkoiaaaGreat
namespace Go.Proofs.YtcpfanpcdkoiaaaGreat

/-! A digit of a quotient, guessed by the highest limbs. -/
theorem digit_top {P Q V V' U X lv lu : Nat} (hP : 0 < P) (hV : V = lv + P * V') (hU : U = lu + P * X) (hu : lu < P) (hQ : Q * V ≤ U) : Q * V' ≤ X := by
 have h1 : P * (Q * V') ≤ Q * V := by
  rw [hV, Nat.mul_add, Nat.mul_left_comm]
  exact Nat.le_add_left _ _
 have h2 : P * (Q * V') < P * (X + 1) := by
  rw [Nat.mul_add, Nat.mul_one]; omega
 have := Nat.lt_of_mul_lt_mul_left h2
 omega
theorem digit_low {P q V V' U X lv lu : Nat} (hV : V = lv + P * V') (hU : U = lu + P * X) (hv : lv < P) (hq : q * V' ≤ X) (hqV : q ≤ V' + 1) (h0 : 0 < q) : (q - 1) * V ≤ U := by
 obtain ⟨m, rfl⟩ : ∃ m, q = m + 1 := ⟨q - 1, by omega⟩
 rw [Nat.add_sub_cancel]
 have h1 : m * V ≤ P * (m * V' + m) := by
  rw [hV, Nat.mul_add, Nat.mul_add, Nat.mul_left_comm m P V', Nat.mul_comm P m]
  have := Nat.mul_le_mul_left m (Nat.le_of_lt hv)
  omega
 have h2 : m * V' + m ≤ X := by
  have e : (m + 1) * V' = m * V' + V' := by rw [Nat.add_mul, Nat.one_mul]
  rw [e] at hq
  omega
 have h3 := Nat.mul_le_mul_left P h2
 omega
theorem val_top2 {vs : List Nat} {n : Nat} (hl : vs.length = n + 2) : val vs = val (vs.take n) + 4294967296 ^ n * (vs[n]?.getD 0 + 4294967296 * (vs[n + 1]?.getD 0)) := by
 have h1 := val_take_succ (xs := vs) (k := n + 1)
 rw [show n + 1 + 1 = n + 2 by rfl, List.take_of_length_le (by omega), val_take_succ, Nat.pow_succ, Nat.mul_assoc] at h1
 rw [h1, Nat.mul_add, Nat.add_assoc]
theorem val_top3 {us : List Nat} {n : Nat} (hl : us.length = n + 3) : val us = val (us.take n) + 4294967296 ^ n * (us[n]?.getD 0 + 4294967296 * (us[n + 1]?.getD 0 + 4294967296 * (us[n + 2]?.getD 0))) := by
 have h1 := val_take_succ (xs := us) (k := n + 2)
 rw [show n + 2 + 1 = n + 3 by rfl, List.take_of_length_le (by omega), show n + 2 = n + 1 + 1 by rfl, val_take_succ, val_take_succ] at h1
 rw [h1, show n + 2 = n + 1 + 1 by rfl]
 generalize us[n]?.getD 0 = a
 generalize us[n + 1]?.getD 0 = b
 generalize us[n + 1 + 1]?.getD 0 = c
 simp only [Nat.pow_succ, Nat.mul_add, Nat.mul_assoc, Nat.add_assoc]
theorem val_take_lt {xs : List Nat} {k : Nat} (h : ∀ x ∈ xs, x < 4294967296) (hk : k ≤ xs.length) : val (xs.take k) < 4294967296 ^ k := by
 have := val_lt (xs.take k) (fun x hx => h x (List.mem_of_mem_take hx))
 rwa [List.length_take, Nat.min_eq_left hk] at this
structure GuessIn (us vs : List Nat) (n : Nat) : Prop where
 ul : us.length = n + 3
 vl : vs.length = n + 2
 ult : ∀ x ∈ us, x < 4294967296
 vlt : ∀ x ∈ vs, x < 4294967296
 top : 2147483648 ≤ vs[n + 1]?.getD 0
 less : val us < 4294967296 * val vs
def gTwo (us : List Nat) (n : Nat) : Nat := us[n + 1]?.getD 0 + 4294967296 * (us[n + 2]?.getD 0)
theorem GuessIn.forbid {us vs : List Nat} {n q r : Nat} (h : GuessIn us vs n) (ht : gTwo us n = q * (vs[n + 1]?.getD 0) + r) (hc : r * 4294967296 + us[n]?.getD 0 < q * (vs[n]?.getD 0)) : val us / val vs < q := by
 rcases Nat.lt_or_ge (val us / val vs) q with h1 | h1
 ·exact h1
 ·exfalso
  have h2 := digit_top (P := 4294967296 ^ n) (Nat.pow_pos (by decide)) (val_top2 h.vl) (val_top3 h.ul) (val_take_lt h.ult (by rw [h.ul]; omega)) (Q := q) (Nat.le_trans (Nat.mul_le_mul_right _ h1) (Nat.div_mul_le_self _ _))
  unfold gTwo at ht
  rw [ht, Nat.mul_add, Nat.mul_add] at h2
  rw [Nat.mul_left_comm q 4294967296] at h2
  omega
theorem GuessIn.allow {us vs : List Nat} {n q r : Nat} (h : GuessIn us vs n) (ht : gTwo us n = q * (vs[n + 1]?.getD 0) + r) (hc : q * (vs[n]?.getD 0) ≤ r * 4294967296 + us[n]?.getD 0) (hq : q < 4294967296) : q ≤ val us / val vs + 1 := by
 rcases Nat.eq_zero_or_pos q with h0 | h0
 ·rw [h0]; exact Nat.zero_le _
 ·have htop := h.top
  have h1 : q * (vs[n]?.getD 0 + 4294967296 * (vs[n + 1]?.getD 0)) ≤ us[n]?.getD 0 + 4294967296 * (us[n + 1]?.getD 0 + 4294967296 * (us[n + 2]?.getD 0)) := by
   unfold gTwo at ht
   rw [ht, Nat.mul_add, Nat.mul_add, Nat.mul_left_comm q 4294967296]
   omega
  have h2 := digit_low (P := 4294967296 ^ n) (val_top2 h.vl) (val_top3 h.ul) (val_take_lt h.vlt (by rw [h.vl]; omega)) h1 (by omega) h0
  have hV : 0 < val vs := by
   rw [val_top2 h.vl]
   have : 0 < 4294967296 ^ n * (vs[n]?.getD 0 + 4294967296 * (vs[n + 1]?.getD 0)) := Nat.mul_pos (Nat.pow_pos (by decide)) (by omega)
   omega
  have := (Nat.le_div_iff_mul_le hV).2 h2
  omega
theorem GuessIn.pos {us vs : List Nat} {n : Nat} (h : GuessIn us vs n) : 0 < val vs := by
 have htop := h.top
 rw [val_top2 h.vl]
 have : 0 < 4294967296 ^ n * (vs[n]?.getD 0 + 4294967296 * (vs[n + 1]?.getD 0)) := Nat.mul_pos (Nat.pow_pos (by decide)) (by omega)
 omega
theorem GuessIn.lt {us vs : List Nat} {n : Nat} (h : GuessIn us vs n) : val us / val vs < 4294967296 := by
 rw [Nat.div_lt_iff_lt_mul h.pos]
 exact h.less
theorem GuessIn.first {us vs : List Nat} {n : Nat} (h : GuessIn us vs n) : val us / val vs ≤ gTwo us n / (vs[n + 1]?.getD 0) := by
 have htop := h.top
 have h2 := digit_top (P := 4294967296 ^ n) (Nat.pow_pos (by decide)) (val_top2 h.vl) (val_top3 h.ul) (val_take_lt h.ult (by rw [h.ul]; omega)) (Q := val us / val vs) (Nat.div_mul_le_self _ _)
 rw [Nat.le_div_iff_mul_le (by omega)]
 unfold gTwo
 generalize val us / val vs = Q at *
 rw [Nat.mul_add, Nat.mul_left_comm Q 4294967296] at h2
 have hu := getD_lt (k := n) h.ult (by decide)
 generalize us[n + 1]?.getD 0 + 4294967296 * (us[n + 2]?.getD 0) = T at *
 omega
theorem GuessIn.two {us vs : List Nat} {n : Nat} (h : GuessIn us vs n) : us[n + 2]?.getD 0 ≤ vs[n + 1]?.getD 0 := by
 rcases Nat.lt_or_ge (vs[n + 1]?.getD 0) (us[n + 2]?.getD 0) with h1 | h1
 ·exfalso
  have hl := h.less
  rw [val_top2 h.vl, val_top3 h.ul] at hl
  have hv := val_take_lt h.vlt (show n ≤ vs.length by rw [h.vl]; omega)
  have hv2 := getD_lt (k := n) h.vlt (by decide)
  have e : 4294967296 * (val (vs.take n) + 4294967296 ^ n * (vs[n]?.getD 0 + 4294967296 * (vs[n + 1]?.getD 0))) < 4294967296 ^ n * (4294967296 * (4294967296 * (us[n + 2]?.getD 0))) := by
   have h3 : val (vs.take n) + 4294967296 ^ n * (vs[n]?.getD 0 + 4294967296 * (vs[n + 1]?.getD 0)) < 4294967296 ^ n * (4294967296 * (us[n + 2]?.getD 0)) := by
    have h4 : 4294967296 ^ n * (1 + (vs[n]?.getD 0 + 4294967296 * (vs[n + 1]?.getD 0))) ≤ 4294967296 ^ n * (4294967296 * (us[n + 2]?.getD 0)) := Nat.mul_le_mul_left _ (by omega)
    rw [Nat.mul_add, Nat.mul_one] at h4
    omega
   rw [Nat.mul_left_comm (4294967296 ^ n) 4294967296]
   exact Nat.mul_lt_mul_of_pos_left h3 (by decide)
  have h5 : 4294967296 ^ n * (4294967296 * (4294967296 * (us[n + 2]?.getD 0))) ≤ 4294967296 ^ n * (us[n]?.getD 0 + 4294967296 * (us[n + 1]?.getD 0 + 4294967296 * (us[n + 2]?.getD 0))) := Nat.mul_le_mul_left _ (by omega)
  omega
 ·exact h1
/-! A digit's multiple taken away. -/
def msV (z t b : Nat) : Nat := (z + 8589934592 - t % 4294967296 - b) % 4294967296
def msB (z t b : Nat) : Nat := if z < t % 4294967296 + b then 1 else 0
theorem ms_eq {z t b : Nat} (hz : z < 4294967296) (hb : b ≤ 1) : msV z t b + t % 4294967296 + b = z + 4294967296 * msB z t b := by
 unfold msV msB
 split <;> omega
structure MsInv (xs ys : List Nat) (q k c b : Nat) (zs : List Nat) : Prop where
 len : zs.length = xs.length
 lt : ∀ z ∈ zs, z < 4294967296
 car : c ≤ q
 bor : b ≤ 1
 fin : ys.length < k → c = 0
 eq : val zs + q * val (ys.take k) = val xs + 4294967296 ^ k * (c + b)
theorem MsInv.start {xs ys : List Nat} {q : Nat} (h : ∀ x ∈ xs, x < 4294967296) : MsInv xs ys q 0 0 0 xs := ⟨rfl, h, by omega, by omega, fun _ => rfl, by simp [val]⟩
theorem MsInv.next {xs ys zs : List Nat} {q k c b : Nat} (h : MsInv xs ys q k c b zs) (hy : ∀ y ∈ ys, y < 4294967296) (hk : k < xs.length) (hq : q < 4294967296) :
  MsInv xs ys q (k + 1) ((c + q * (ys[k]?.getD 0)) / 4294967296) (msB (zs[k]?.getD 0) (c + q * (ys[k]?.getD 0)) b) (zs.set k (msV (zs[k]?.getD 0) (c + q * (ys[k]?.getD 0)) b)) := by
 have hz := getD_lt (k := k) h.lt (by decide)
 have hyk := getD_lt (k := k) hy (by decide)
 have hc := h.car
 have hb := h.bor
 have hqy : q * (ys[k]?.getD 0) ≤ q * 4294967295 := Nat.mul_le_mul_left _ (by omega)
 refine ⟨by simp [h.len], set_lt h.lt (Nat.mod_lt _ (by decide)), by omega, by unfold msB; split <;> omega, ?_, ?_⟩
 ·intro hlt
  have : ys[k]?.getD 0 = 0 := by rw [List.getElem?_eq_none (by omega)]; rfl
  rw [this]; omega
 ·have h1 := val_set (msV (zs[k]?.getD 0) (c + q * (ys[k]?.getD 0)) b) (show k < zs.length by rw [h.len]; exact hk)
  have h2 := h.eq
  have h4 := ms_eq (t := c + q * (ys[k]?.getD 0)) hz hb
  rw [val_take_succ, Nat.pow_succ, Nat.mul_assoc, Nat.mul_add, Nat.mul_left_comm q]
  generalize zs[k]?.getD 0 = z at *
  generalize q * (ys[k]?.getD 0) = y at *
  generalize msV z (c + y) b = m at *
  generalize msB z (c + y) b = b' at *
  have h5 : 4294967296 ^ k * (m + (c + y) % 4294967296 + b) = 4294967296 ^ k * (z + 4294967296 * b') := by rw [h4]
  have h3 : 4294967296 ^ k * ((c + y) % 4294967296) + 4294967296 ^ k * (4294967296 * ((c + y) / 4294967296)) = 4294967296 ^ k * c + 4294967296 ^ k * y := by
   rw [← Nat.mul_add, ← Nat.mul_add, Nat.mod_add_div]
  rw [Nat.mul_add, Nat.mul_add, Nat.mul_add] at h5
  rw [Nat.mul_add] at h2
  rw [Nat.mul_add 4294967296, Nat.mul_add]
  generalize 4294967296 ^ k = P at *
  omega
theorem MsInv.right {xs ys zs : List Nat} {q c : Nat} (h : MsInv xs ys q xs.length c 0 zs) (hl : ys.length < xs.length) (hq : val xs / val ys ≤ q) (hp : 0 < val ys) : q = val xs / val ys ∧ val zs = val xs % val ys := by
 have h1 := h.eq
 rw [h.fin hl, List.take_of_length_le (by omega)] at h1
 have h2 : q * val ys ≤ val xs := by omega
 have h3 : q = val xs / val ys := Nat.le_antisymm ((Nat.le_div_iff_mul_le hp).2 h2) hq
 refine ⟨h3, ?_⟩
 have h4 := Nat.div_add_mod (val xs) (val ys)
 rw [← h3, Nat.mul_comm] at h4
 omega
theorem MsInv.more {xs ys zs ws : List Nat} {q c k : Nat} (h : MsInv xs ys q xs.length c 1 zs) (ha : AddInv zs ys xs.length k ws) (hl : ys.length < xs.length) (hq : q ≤ val xs / val ys + 1) (hp : 0 < val ys) (hy : ∀ y ∈ ys, y < 4294967296) :
  q = val xs / val ys + 1 ∧ val ws = val xs % val ys := by
 have h1 := h.eq
 rw [h.fin hl, List.take_of_length_le (by omega)] at h1
 have hz := val_lt zs h.lt
 rw [h.len] at hz
 have h2 : val xs < q * val ys := by omega
 have h3 : q = val xs / val ys + 1 := by
  have : val xs / val ys < q := (Nat.div_lt_iff_lt_mul hp).2 h2
  omega
 refine ⟨h3, ?_⟩
 have h4 := Nat.div_add_mod (val xs) (val ys)
 have h5 : q * val ys = val ys * (val xs / val ys) + val ys := by rw [h3, Nat.mul_comm, Nat.mul_add, Nat.mul_one]
 have h6 := ha.eq
 rw [List.take_of_length_le (by omega)] at h6
 have h7 := Nat.mod_lt (val xs) hp
 have h8 : val ys < 4294967296 ^ xs.length := Nat.lt_of_lt_of_le (val_lt ys hy) (Nat.pow_le_pow_right (by decide) (by omega))
 have hw := val_lt ws ha.lt
 rw [ha.len, h.len] at hw
 have hcar := ha.car
 rcases (by omega : k = 0 ∨ k = 1) with rfl | rfl
 ·omega
 ·omega
end Go.Proofs.YtcpfanpcdkoiaaaGreat
namespace Go.Proofs.YtcpfanpcdkoiaaaGreat

theorem lt_limbs_length {n k : Nat} (h : 4294967296 ^ k ≤ n) : k < (limbs n).length := by
 have h1 := val_lt (limbs n) (limbs_lt n)
 rw [val_limbs] at h1
 have h2 : 4294967296 ^ k < 4294967296 ^ (limbs n).length := Nat.lt_of_le_of_lt h h1
 exact (Nat.pow_lt_pow_iff_right (by decide)).1 h2
theorem val_top1 {xs : List Nat} {n : Nat} (hl : xs.length = n + 1) : val xs = val (xs.take n) + 4294967296 ^ n * (xs[n]?.getD 0) := by
 have h1 := val_take_succ (xs := xs) (k := n)
 rwa [List.take_of_length_le (by omega)] at h1
structure Normed (b s n1 : Nat) : Prop where
 len : (limbs (b * 2 ^ s)).length = n1 + 1
 top : 2147483648 ≤ (limbs (b * 2 ^ s))[n1]?.getD 0
 big : 4294967296 ^ n1 * 2147483648 ≤ b * 2 ^ s
theorem normed {b n1 : Nat} (hl : (limbs b).length = n1 + 1) (ht : 0 < (limbs b)[n1]?.getD 0) : Normed b (32 - blen ((limbs b)[n1]?.getD 0)) n1 ∧ blen ((limbs b)[n1]?.getD 0) ≤ 32 ∧ 0 < blen ((limbs b)[n1]?.getD 0) := by
 have hb := val_top1 hl
 rw [val_limbs] at hb
 have hlow := val_take_lt (limbs_lt b) (show n1 ≤ (limbs b).length by omega)
 have hT := getD_lt (k := n1) (limbs_lt b) (by decide)
 generalize (limbs b)[n1]?.getD 0 = T at *
 have h32 : blen T ≤ 32 := blen_le (by rw [show (2 : Nat) ^ 32 = 4294967296 by decide]; exact hT)
 have hpos : 0 < blen T := by rw [blen_pos ht]; exact Nat.succ_pos _
 have h1 := lt_two_blen T
 have h2 := two_blen_le ht
 generalize hs : 32 - blen T = s
 have hup : 2 ^ blen T * 2 ^ s = 4294967296 := by
  rw [← Nat.pow_add, show blen T + s = 32 by omega]
 have hlo : 2 ^ (blen T - 1) * 2 ^ s = 2147483648 := by
  rw [← Nat.pow_add, show blen T - 1 + s = 31 by omega]
 have hbig : 4294967296 ^ n1 * 2147483648 ≤ b * 2 ^ s := by
  rw [hb, Nat.add_mul, Nat.mul_assoc]
  have : 2147483648 ≤ T * 2 ^ s := by rw [← hlo]; exact Nat.mul_le_mul_right _ h2
  have := Nat.mul_le_mul_left (4294967296 ^ n1) this
  omega
 have hlt : b * 2 ^ s < 4294967296 ^ (n1 + 1) := by
  have h3 : b < 4294967296 ^ n1 * 2 ^ blen T := by
   have : 4294967296 ^ n1 * (T + 1) ≤ 4294967296 ^ n1 * 2 ^ blen T := Nat.mul_le_mul_left _ h1
   rw [Nat.mul_add, Nat.mul_one] at this
   omega
  have h4 := Nat.mul_lt_mul_of_pos_right h3 (Nat.two_pow_pos s)
  rwa [Nat.mul_assoc, hup, ← Nat.pow_succ] at h4
 have hlen : (limbs (b * 2 ^ s)).length = n1 + 1 := by
  have a1 := limbs_length_le hlt
  have a2 := lt_limbs_length (n := b * 2 ^ s) (k := n1) (Nat.le_trans (Nat.le_mul_of_pos_right _ (by decide)) hbig)
  omega
 refine ⟨⟨hlen, ?_, hbig⟩, h32, hpos⟩
 have h5 := val_top1 hlen
 rw [val_limbs] at h5
 have h6 := val_take_lt (limbs_lt (b * 2 ^ s)) (show n1 ≤ (limbs (b * 2 ^ s)).length by omega)
 rcases Nat.lt_or_ge ((limbs (b * 2 ^ s))[n1]?.getD 0) 2147483648 with h7 | h7
 ·exfalso
  have h8 : 4294967296 ^ n1 * ((limbs (b * 2 ^ s))[n1]?.getD 0 + 1) ≤ 4294967296 ^ n1 * 2147483648 := Nat.mul_le_mul_left _ h7
  rw [Nat.mul_add, Nat.mul_one] at h8
  omega
 ·exact h7
structure LongInv (V N n : Nat) (j : Nat) (us qs : List Nat) : Prop where
 eq : N = val us + V * val qs
 less : val (us.drop j) < V
 ult : ∀ x ∈ us, x < 4294967296
 qlt : ∀ x ∈ qs, x < 4294967296
 zero : ∀ i, i < j → qs[i]?.getD 0 = 0
theorem val_part (us : List Nat) (j : Nat) (h : j ≤ us.length) : val us = val (us.take j) + 4294967296 ^ j * val (us.drop j) := by
 have := val_append (us.take j) (us.drop j)
 rwa [List.take_append_drop, List.length_take, Nat.min_eq_left h] at this
theorem LongInv.start {V N n1 s a L : Nat} {us : List Nat} (hN : val us = N) (hult : ∀ x ∈ us, x < 4294967296) (hL : us.length = L) (hn : n1 + 1 ≤ L) (hV : 4294967296 ^ n1 * 2147483648 ≤ V) (hs : s ≤ 31) (ha : a < 4294967296 ^ (L - 1)) (hNa : N = a * 2 ^ s) :
  LongInv V N (n1 + 1) (L - (n1 + 1)) us (List.replicate (L - (n1 + 1)) 0) := by
 refine ⟨by rw [val_replicate]; omega, ?_, hult, fun x hx => by rw [(List.mem_replicate.1 hx).2]; decide, fun i hi => by simp [hi]⟩
 have h1 := val_part us (L - (n1 + 1)) (by omega)
 have h2 : 4294967296 ^ (L - (n1 + 1)) * val (us.drop (L - (n1 + 1))) ≤ N := by omega
 have h3 : N < 4294967296 ^ (L - (n1 + 1)) * (4294967296 ^ n1 * 2147483648) := by
  rw [← Nat.mul_assoc, ← Nat.pow_add, show L - (n1 + 1) + n1 = L - 1 by omega, hNa]
  have h4 : (2 : Nat) ^ s ≤ 2147483648 := by
   have := Nat.pow_le_pow_right (n := 2) (by decide) hs
   rwa [show (2 : Nat) ^ 31 = 2147483648 by decide] at this
  exact Nat.lt_of_lt_of_le (Nat.mul_lt_mul_of_pos_right ha (Nat.two_pow_pos s)) (Nat.mul_le_mul_left _ h4)
 have h5 := Nat.lt_of_mul_lt_mul_left (Nat.lt_of_le_of_lt h2 h3)
 omega
theorem LongInv.guess {V N n1 n2 j : Nat} {us qs vs : List Nat} (h : LongInv V N (n1 + 1) (j + 1) us qs) (hn : n1 = n2 + 1) (hV : val vs = V) (hvl : vs.length = n1 + 1) (hvlt : ∀ x ∈ vs, x < 4294967296) (htop : 2147483648 ≤ vs[n1]?.getD 0) (hL : j + (n1 + 1) < us.length) :
  GuessIn ((us.drop j).take (n1 + 2)) vs n2 ∧ val (us.drop (j + (n1 + 2))) = 0 := by
 subst hn
 have hlen : ((us.drop j).take (n2 + 1 + 2)).length = n2 + 3 := by simp; omega
 have hz : val (us.drop (j + (n2 + 1 + 2))) = 0 := by
  have h1 := val_part (us.drop (j + 1)) (n2 + 2) (by simp; omega)
  rw [List.drop_drop] at h1
  have h2 := val_lt vs hvlt
  rw [hvl, hV] at h2
  have h3 := h.less
  rw [show j + 1 + (n2 + 2) = j + (n2 + 1 + 2) by omega] at h1
  rcases Nat.eq_zero_or_pos (val (us.drop (j + (n2 + 1 + 2)))) with h4 | h4
  ·exact h4
  ·exfalso
   have h5 : 4294967296 ^ (n2 + 2) * 1 ≤ 4294967296 ^ (n2 + 2) * val (us.drop (j + (n2 + 1 + 2))) := Nat.mul_le_mul_left _ h4
   rw [show n2 + 1 + 1 = n2 + 2 by rfl] at h2
   omega
 refine ⟨⟨hlen, by rw [hvl], fun x hx => h.ult x (List.mem_of_mem_drop (List.mem_of_mem_take hx)), hvlt, htop, ?_⟩, hz⟩
 have h1 := val_part (us.drop j) (n2 + 3) (by simp; omega)
 rw [List.drop_drop, show j + (n2 + 3) = j + (n2 + 1 + 2) by omega, hz, Nat.mul_zero, Nat.add_zero] at h1
 have h2 := val_part (us.drop j) 1 (by simp; omega)
 rw [List.drop_drop, Nat.pow_one] at h2
 have h3 := val_take_lt (k := 1) (xs := us.drop j) (fun x hx => h.ult x (List.mem_of_mem_drop hx)) (by simp; omega)
 rw [Nat.pow_one] at h3
 have h4 := h.less
 rw [show n2 + 1 + 2 = n2 + 3 by rfl, ← h1, h2, hV]
 omega
theorem LongInv.next {V N n1 j : Nat} {us qs ws : List Nat} (h : LongInv V N (n1 + 1) (j + 1) us qs) (hV : 0 < V) (hL : j + (n1 + 1) < us.length) (hj : j < qs.length) (hz : val (us.drop (j + (n1 + 2))) = 0)
  (hwl : ws.length = n1 + 2) (hwlt : ∀ x ∈ ws, x < 4294967296) (hw : val ws = val ((us.drop j).take (n1 + 2)) % V) (hQ : val ((us.drop j).take (n1 + 2)) / V < 4294967296) :
  LongInv V N (n1 + 1) j (us.take j ++ ws ++ us.drop (j + (n1 + 2))) (qs.set j (val ((us.drop j).take (n1 + 2)) / V)) := by
 have hjl : j ≤ us.length := by omega
 have e1 : val us = val (us.take j) + 4294967296 ^ j * val ((us.drop j).take (n1 + 2)) := by
  have h1 := val_part us j hjl
  have h2 := val_part (us.drop j) (n1 + 2) (by simp; omega)
  rw [List.drop_drop, hz, Nat.mul_zero, Nat.add_zero] at h2
  rw [h2] at h1
  exact h1
 have hU := Nat.div_add_mod (val ((us.drop j).take (n1 + 2))) V
 rw [← hw] at hU
 generalize hQe : val ((us.drop j).take (n1 + 2)) / V = Q at *
 generalize val ((us.drop j).take (n1 + 2)) = U at *
 have hl1 : (us.take j).length = j := by rw [List.length_take, Nat.min_eq_left hjl]
 refine ⟨?_, ?_, ?_, set_lt h.qlt hQ, ?_⟩
 ·have h3 := val_set Q hj
  rw [h.zero j (by omega), Nat.mul_zero, Nat.add_zero] at h3
  rw [val_append, val_append, hz, Nat.mul_zero, Nat.add_zero, hl1, h3, h.eq, e1, ← hU]
  simp only [Nat.mul_add, Nat.mul_left_comm V]
  omega
 ·rw [List.append_assoc, List.drop_append_of_le_length (by omega), List.drop_of_length_le (by omega), List.nil_append, val_append, hz, Nat.mul_zero, Nat.add_zero, hw]
  exact Nat.mod_lt _ hV
 ·intro x hx
  simp only [List.mem_append] at hx
  rcases hx with (hx | hx) | hx
  ·exact h.ult x (List.mem_of_mem_take hx)
  ·exact hwlt x hx
  ·exact h.ult x (List.mem_of_mem_drop hx)
 ·intro i hi
  rw [List.getElem?_set_ne (by omega)]
  exact h.zero i (by omega)
theorem LongInv.done {V N n : Nat} {us qs : List Nat} (h : LongInv V N n 0 us qs) : val qs = N / V ∧ val us = N % V := by
 have h1 := h.eq
 have h2 := h.less
 rw [List.drop_zero] at h2
 have hV : 0 < V := by omega
 refine ⟨?_, ?_⟩
 ·rw [h1, Nat.add_mul_div_left _ _ hV, Nat.div_eq_of_lt h2, Nat.zero_add]
 ·rw [h1, Nat.add_mul_mod_self_left, Nat.mod_eq_of_lt h2]
end Go.Proofs.YtcpfanpcdkoiaaaGreat
namespace Go.Proofs.YtcpfanpcdkoiaaaGreat


def rval : List Nat → Nat
 | [] => 0
 | x :: xs => x + 10000 * rval xs
def rlimbs (n : Nat) : List Nat := if n = 0 then [] else n % 10000 :: rlimbs (n / 10000)
decreasing_by omega
theorem rlimbs_zero : rlimbs 0 = [] := by rw [rlimbs]; simp
theorem rlimbs_pos {n : Nat} (h : 0 < n) : rlimbs n = n % 10000 :: rlimbs (n / 10000) := by
 rw [rlimbs, if_neg (by omega)]
theorem rval_rlimbs (n : Nat) : rval (rlimbs n) = n := by
 induction n using Nat.strongRecOn with
 | _ n ih =>
  by_cases h : n = 0
  ·subst h; rw [rlimbs_zero]; rfl
  ·rw [rlimbs_pos (by omega), rval, ih _ (by omega)]; omega
theorem rlimbs_lt (n : Nat) : ∀ x ∈ rlimbs n, x < 10000 := by
 induction n using Nat.strongRecOn with
 | _ n ih =>
  by_cases h : n = 0
  ·subst h; rw [rlimbs_zero]; simp
  ·rw [rlimbs_pos (by omega)]
   intro x hx
   rcases List.mem_cons.1 hx with rfl | hx
   ·omega
   ·exact ih _ (by omega) x hx
theorem rlimbs_eq_nil {n : Nat} : rlimbs n = [] ↔ n = 0 := by
 constructor
 ·intro h; rw [← rval_rlimbs n, h]; rfl
 ·rintro rfl; exact rlimbs_zero
theorem rlimbs_getLast (n : Nat) (h : rlimbs n ≠ []) : (rlimbs n).getLast h ≠ 0 := by
 induction n using Nat.strongRecOn with
 | _ n ih =>
  by_cases h0 : n = 0
  ·subst h0; exact absurd rlimbs_zero h
  ·have e := rlimbs_pos (show 0 < n by omega)
   by_cases hq : n / 10000 = 0
   ·have : rlimbs n = [n % 10000] := by rw [e, hq, rlimbs_zero]
    simp only [this, List.getLast_singleton]; omega
   ·have hne : rlimbs (n / 10000) ≠ [] := by rw [Ne, rlimbs_eq_nil]; exact hq
    have := ih (n / 10000) (by omega) hne
    simp only [e]
    rw [List.getLast_cons hne]
    exact this
theorem rval_append (xs ys : List Nat) : rval (xs ++ ys) = rval xs + 10000 ^ xs.length * rval ys := by
 induction xs with
 | nil => simp [rval]
 | cons x xs ih => simp only [List.cons_append, rval, ih, List.length_cons, Nat.pow_succ]; rw [Nat.mul_add, Nat.mul_comm (10000 ^ xs.length) 10000, Nat.mul_assoc]; omega
theorem rval_lt (xs : List Nat) (h : ∀ x ∈ xs, x < 10000) : rval xs < 10000 ^ xs.length := by
 induction xs with
 | nil => simp [rval]
 | cons x xs ih =>
  have h1 := h x (by simp)
  have h2 := ih (fun y hy => h y (by simp [hy]))
  simp only [rval, List.length_cons, Nat.pow_succ]
  omega
theorem rlimbs_rval (xs : List Nat) (h : ∀ x ∈ xs, x < 10000) (ht : ∀ hn : xs ≠ [], xs.getLast hn ≠ 0) : rlimbs (rval xs) = xs := by
 induction xs with
 | nil => exact rlimbs_zero
 | cons x xs ih =>
  have hx := h x (by simp)
  have ih' := ih (fun y hy => h y (by simp [hy])) (fun hn => by have := ht (by simp); rwa [List.getLast_cons hn] at this)
  have hpos : 0 < rval (x :: xs) := by
   simp only [rval]
   by_cases hn : xs = []
   ·subst hn
    have := ht (by simp)
    simp at this
    omega
   ·have : rval xs ≠ 0 := by
     intro h0
     rw [h0, rlimbs_zero] at ih'
     exact hn ih'.symm
    omega
  rw [rlimbs_pos hpos]
  simp only [rval]
  rw [Nat.add_mul_mod_self_left, Nat.mod_eq_of_lt hx, Nat.add_mul_div_left _ _ (by omega), Nat.div_eq_of_lt hx, Nat.zero_add, ih']
theorem rval_snoc_zero (xs : List Nat) : rval (xs ++ [0]) = rval xs := by rw [rval_append]; simp [rval]
theorem rval_take_of_zero (xs : List Nat) (k : Nat) (h : ∀ i, k ≤ i → i < xs.length → xs[i]? = some 0) : rval (xs.take k) = rval xs := by
 induction xs generalizing k with
 | nil => simp
 | cons x xs ih =>
  cases k with
  | zero =>
   have h0 := h 0 (Nat.le_refl _) (by simp)
   simp at h0
   have := ih 0 (fun i _ hi => by have := h (i + 1) (by omega) (by simp; omega); simpa using this)
   simp only [List.take_zero, rval] at this ⊢
   omega
  | succ k =>
   have := ih k (fun i h1 hi => by have := h (i + 1) (by omega) (by simp; omega); simpa using this)
   simp only [List.take_succ_cons, rval, this]
theorem rlimbs_take (xs : List Nat) (k : Nat) (hk : k ≤ xs.length) (h : ∀ x ∈ xs, x < 10000) (hz : ∀ i, k ≤ i → i < xs.length → xs[i]? = some 0)
  (ht : k = 0 ∨ xs[k - 1]? ≠ some 0) : rlimbs (rval xs) = xs.take k := by
 rw [← rval_take_of_zero xs k hz]
 refine rlimbs_rval _ (fun x hx => h x (List.mem_of_mem_take hx)) (fun hn h0 => ?_)
 have hk0 : k ≠ 0 := by rintro rfl; simp at hn
 rcases ht with rfl | ht
 ·exact hk0 rfl
 ·apply ht
  rw [List.getLast_eq_getElem] at h0
  simp only [List.length_take, Nat.min_eq_left hk, List.getElem_take] at h0
  rw [List.getElem?_eq_getElem (by omega), h0]
theorem rval_rlimbs_length_le (xs : List Nat) (h : ∀ x ∈ xs, x < 10000) : (rlimbs (rval xs)).length ≤ xs.length := by
 have hlt := rval_lt xs h
 generalize hv : rval xs = v at *
 generalize xs.length = m at *
 clear h hv
 induction m generalizing v with
 | zero =>
  have : v = 0 := by simp at hlt; exact hlt
  subst this; rw [rlimbs_zero]; simp
 | succ m ih =>
  by_cases h0 : v = 0
  ·subst h0; rw [rlimbs_zero]; simp
  ·rw [rlimbs_pos (by omega), List.length_cons]
   have := ih (v / 10000) (by rw [Nat.pow_succ] at hlt; exact Nat.div_lt_of_lt_mul (by rw [Nat.mul_comm]; exact hlt))
   omega
theorem rlimbs_length_le {n k : Nat} (h : n < 10000 ^ k) : (rlimbs n).length ≤ k := by
 induction k generalizing n with
 | zero =>
  have : n = 0 := by simp at h; exact h
  subst this; rw [rlimbs_zero]; simp
 | succ k ih =>
  by_cases h0 : n = 0
  ·subst h0; rw [rlimbs_zero]; simp
  ·rw [rlimbs_pos (by omega), List.length_cons]
   have := @ih (n / 10000) (by rw [Nat.pow_succ] at h; exact Nat.div_lt_of_lt_mul (by rw [Nat.mul_comm]; exact h))
   omega
theorem lt_pow_rlimbs (n : Nat) : n < 10000 ^ (rlimbs n).length := by
 have := rval_lt (rlimbs n) (rlimbs_lt n)
 rwa [rval_rlimbs] at this
theorem rlimbs_length_mono {a b : Nat} (h : a ≤ b) : (rlimbs a).length ≤ (rlimbs b).length :=
 rlimbs_length_le (Nat.lt_of_le_of_lt h (lt_pow_rlimbs b))
theorem rlimbs_prefix (xs : List Nat) (h : ∀ x ∈ xs, x < 10000) : ∃ k, k ≤ xs.length ∧ rlimbs (rval xs) = xs.take k := by
 generalize hn : xs.length = n
 induction n generalizing xs with
 | zero =>
  have : xs = [] := List.eq_nil_of_length_eq_zero hn
  subst this
  exact ⟨0, Nat.le_refl _, rlimbs_zero⟩
 | succ n ih =>
  have hne : xs ≠ [] := by rintro rfl; simp at hn
  by_cases h0 : xs.getLast hne = 0
  ·have e : xs = xs.dropLast ++ [0] := by rw [← h0]; exact (List.dropLast_concat_getLast hne).symm
   obtain ⟨k, hk, hk2⟩ := ih xs.dropLast (fun x hx => h x (List.dropLast_subset _ hx)) (by simp [hn])
   refine ⟨k, by omega, ?_⟩
   have e2 : rval xs = rval xs.dropLast := by rw [e, rval_snoc_zero]; simp
   rw [e2, hk2]
   have : xs.dropLast = xs.take n := by rw [List.dropLast_eq_take, hn]; rfl
   rw [this, List.take_take, Nat.min_eq_left hk]
  ·exact ⟨n + 1, Nat.le_refl _, by rw [rlimbs_rval xs h (fun _ => h0), ← hn, List.take_length]⟩
end Go.Proofs.YtcpfanpcdkoiaaaGreat
namespace Go.Proofs.YtcpfanpcdkoiaaaGreat


theorem rval_set {zs : List Nat} {k : Nat} (v : Nat) (hk : k < zs.length) : rval (zs.set k v) + 10000 ^ k * (zs[k]?.getD 0) = rval zs + 10000 ^ k * v := by
 induction zs generalizing k with
 | nil => simp at hk
 | cons z zs ih =>
  cases k with
  | zero => simp [rval]; omega
  | succ k =>
   have := @ih k (by simpa using hk)
   simp only [List.set_cons_succ, rval, List.getElem?_cons_succ, Nat.pow_succ]
   rw [Nat.mul_comm (10000 ^ k) 10000, Nat.mul_assoc, Nat.mul_assoc]
   omega
theorem rval_take_succ {xs : List Nat} {k : Nat} : rval (xs.take (k + 1)) = rval (xs.take k) + 10000 ^ k * (xs[k]?.getD 0) := by
 by_cases hk : k < xs.length
 ·rw [take_snoc' xs k hk, rval_append, List.length_take, Nat.min_eq_left (by omega)]; simp [rval]
 ·rw [List.take_of_length_le (by omega), List.take_of_length_le (by omega), List.getElem?_eq_none (by omega)]; simp
theorem rval_cons' (xs : List Nat) : rval xs = xs[0]?.getD 0 + 10000 * rval xs.tail := by
 cases xs <;> simp [rval]
theorem rval_lt_of_top {k : Nat} {xs ys : List Nat} (hx : ∀ x ∈ xs, x < 10000) (hy : ∀ y ∈ ys, y < 10000) (hl : xs.length = ys.length) (h : ∀ j : Nat, k < j → xs[j]?.getD 0 = ys[j]?.getD 0) (hk : xs[k]?.getD 0 < ys[k]?.getD 0) : rval xs < rval ys := by
 induction k generalizing xs ys with
 | zero =>
  have : xs.tail = ys.tail := ext_getD (by simp [hl]) (fun i _ => by rw [getD_tail, getD_tail, h _ (by omega)])
  rw [rval_cons' xs, rval_cons' ys, this]
  omega
 | succ k ih =>
  have := ih (xs := xs.tail) (ys := ys.tail) (fun x h => hx x (List.mem_of_mem_tail h)) (fun x h => hy x (List.mem_of_mem_tail h)) (by simp [hl]) (fun j hj => by rw [getD_tail, getD_tail, h _ (by omega)]) (by rw [getD_tail, getD_tail]; exact hk)
  have h1 := getD_lt (k := 0) hx (by decide)
  rw [rval_cons' xs, rval_cons' ys]
  omega
theorem rlimbs_lt_len {a b : Nat} (h : (rlimbs a).length < (rlimbs b).length) : a < b := by
 rcases Nat.lt_or_ge a b with h1 | h1
 ·exact h1
 ·have := rlimbs_length_mono h1; omega
theorem rlimbs_small {x : Nat} (h0 : 0 < x) (h : x < 10000) : rlimbs x = [x] := by
 rw [rlimbs_pos h0, Nat.mod_eq_of_lt h, Nat.div_eq_of_lt h, rlimbs_zero]
/-! Adding: k places are done, c is carried. -/
structure RAdd (xs ys : List Nat) (k c : Nat) (zs : List Nat) : Prop where
 len : zs.length = k
 lt : ∀ z ∈ zs, z < 10000
 car : c ≤ 1
 eq : rval zs + 10000 ^ k * c = rval (xs.take k) + rval (ys.take k)
theorem RAdd.start (xs ys : List Nat) : RAdd xs ys 0 0 [] := ⟨rfl, by simp, by omega, by simp [rval]⟩
theorem lt_snoc {zs : List Nat} {v B : Nat} (h : ∀ z ∈ zs, z < B) (hv : v < B) : ∀ z ∈ zs ++ [v], z < B := by
 intro z hz
 rcases List.mem_append.1 hz with h1 | h1
 ·exact h z h1
 ·simp at h1; omega
theorem RAdd.next {xs ys zs : List Nat} {k c : Nat} (h : RAdd xs ys k c zs) (hx : ∀ x ∈ xs, x < 10000) (hy : ∀ y ∈ ys, y < 10000) :
  RAdd xs ys (k + 1) ((c + xs[k]?.getD 0 + ys[k]?.getD 0) / 10000) (zs ++ [(c + xs[k]?.getD 0 + ys[k]?.getD 0) % 10000]) := by
 have h1 := getD_lt (k := k) hx (by decide)
 have h2 := getD_lt (k := k) hy (by decide)
 have hc := h.car
 refine ⟨by simp [h.len], lt_snoc h.lt (Nat.mod_lt _ (by decide)), by omega, ?_⟩
 have he := h.eq
 rw [rval_append, h.len, rval_take_succ, rval_take_succ, Nat.pow_succ, Nat.mul_assoc]
 simp only [rval, Nat.mul_zero, Nat.add_zero]
 generalize xs[k]?.getD 0 = x at *
 generalize ys[k]?.getD 0 = y at *
 have h3 : 10000 ^ k * ((c + x + y) % 10000) + 10000 ^ k * (10000 * ((c + x + y) / 10000)) = 10000 ^ k * c + 10000 ^ k * x + 10000 ^ k * y := by
  rw [← Nat.mul_add, ← Nat.mul_add, ← Nat.mul_add, Nat.mod_add_div]
 generalize 10000 ^ k = P at *
 omega
theorem RAdd.done {xs ys zs : List Nat} {k : Nat} (h : RAdd xs ys k 0 zs) (h1 : xs.length ≤ k) (h2 : ys.length ≤ k) : rval zs = rval xs + rval ys := by
 have := h.eq
 rw [List.take_of_length_le h1, List.take_of_length_le h2] at this
 omega
/-! Taking away: k places are done, c is borrowed. -/
structure RSub (xs ys : List Nat) (k c : Nat) (zs : List Nat) : Prop where
 len : zs.length = k
 lt : ∀ z ∈ zs, z < 10000
 car : c ≤ 1
 eq : rval zs + rval (ys.take k) = rval (xs.take k) + 10000 ^ k * c
theorem RSub.start (xs ys : List Nat) : RSub xs ys 0 0 [] := ⟨rfl, by simp, by omega, by simp [rval]⟩
theorem RSub.next {xs ys zs : List Nat} {k c v b : Nat} (h : RSub xs ys k c zs) (hx : ∀ x ∈ xs, x < 10000) (hy : ∀ y ∈ ys, y < 10000) (hv : v < 10000) (hb : b ≤ 1)
  (hd : v + c + ys[k]?.getD 0 = xs[k]?.getD 0 + 10000 * b) : RSub xs ys (k + 1) b (zs ++ [v]) := by
 refine ⟨by simp [h.len], lt_snoc h.lt hv, hb, ?_⟩
 have he := h.eq
 rw [rval_append, h.len, rval_take_succ, rval_take_succ, Nat.pow_succ, Nat.mul_assoc]
 simp only [rval, Nat.mul_zero, Nat.add_zero]
 generalize xs[k]?.getD 0 = x at *
 generalize ys[k]?.getD 0 = y at *
 have h3 : 10000 ^ k * v + 10000 ^ k * c + 10000 ^ k * y = 10000 ^ k * x + 10000 ^ k * (10000 * b) := by
  rw [← Nat.mul_add, ← Nat.mul_add, ← Nat.mul_add, hd]
 generalize 10000 ^ k = P at *
 omega
theorem RSub.done {xs ys zs : List Nat} {k c : Nat} (h : RSub xs ys k c zs) (h1 : xs.length = k) (h2 : ys.length ≤ k) (hle : rval ys ≤ rval xs) : rval zs = rval xs - rval ys := by
 have he := h.eq
 have hl := rval_lt zs h.lt
 rw [h.len] at hl
 rw [List.take_of_length_le (l := xs) (by omega), List.take_of_length_le (l := ys) h2] at he
 have hc := h.car
 rcases Nat.eq_zero_or_pos c with h0 | h0
 ·subst h0; omega
 ·obtain rfl : c = 1 := by omega
  omega
/-! Multiplying: row i up to place j, c carried. -/
structure RMul (xs ys : List Nat) (i j c : Nat) (zs : List Nat) : Prop where
 len : zs.length = xs.length + ys.length + 1
 lt : ∀ z ∈ zs, z < 10000
 car : c < 10000
 eq : rval zs + 10000 ^ (i + j) * c = rval (xs.take i) * rval ys + 10000 ^ i * (xs[i]?.getD 0 * rval (ys.take j))
theorem rval_replicate (k : Nat) : rval (List.replicate k 0) = 0 := by
 induction k with
 | zero => rfl
 | succ k ih => simp [List.replicate_succ, rval, ih]
theorem RMul.start (xs ys : List Nat) : RMul xs ys 0 0 0 (List.replicate (xs.length + ys.length + 1) 0) :=
 ⟨by simp, fun z hz => by rw [List.eq_of_mem_replicate hz]; decide, by decide, by simp [rval, rval_replicate]⟩
theorem RMul.next {xs ys zs : List Nat} {i j c : Nat} (h : RMul xs ys i j c zs) (hx : ∀ x ∈ xs, x < 10000) (hy : ∀ y ∈ ys, y < 10000) (hk : i + j < zs.length) :
  RMul xs ys i (j + 1) ((zs[i + j]?.getD 0 + c + xs[i]?.getD 0 * ys[j]?.getD 0) / 10000) (zs.set (i + j) ((zs[i + j]?.getD 0 + c + xs[i]?.getD 0 * ys[j]?.getD 0) % 10000)) := by
 have h1 := getD_lt (k := i) hx (by decide)
 have h2 := getD_lt (k := j) hy (by decide)
 have h3 := getD_lt (k := i + j) h.lt (by decide)
 have hc := h.car
 have hb : zs[i + j]?.getD 0 + c + xs[i]?.getD 0 * ys[j]?.getD 0 < 100000000 := by
  have : xs[i]?.getD 0 * ys[j]?.getD 0 ≤ 9999 * 9999 := Nat.mul_le_mul (by omega) (by omega)
  omega
 refine ⟨by simp [h.len], set_lt h.lt (Nat.mod_lt _ (by decide)), by omega, ?_⟩
 have hs := rval_set ((zs[i + j]?.getD 0 + c + xs[i]?.getD 0 * ys[j]?.getD 0) % 10000) hk
 have he := h.eq
 rw [rval_take_succ, ← Nat.add_assoc, Nat.pow_succ, Nat.mul_assoc, Nat.mul_add, Nat.mul_add]
 have e1 : 10000 ^ i * (xs[i]?.getD 0 * (10000 ^ j * ys[j]?.getD 0)) = 10000 ^ (i + j) * (xs[i]?.getD 0 * ys[j]?.getD 0) := by
  rw [Nat.pow_add, Nat.mul_left_comm (xs[i]?.getD 0), Nat.mul_assoc]
 rw [e1]
 generalize zs[i + j]?.getD 0 = z at *
 generalize xs[i]?.getD 0 * ys[j]?.getD 0 = p at *
 have h4 : 10000 ^ (i + j) * ((z + c + p) % 10000) + 10000 ^ (i + j) * (10000 * ((z + c + p) / 10000)) = 10000 ^ (i + j) * z + 10000 ^ (i + j) * c + 10000 ^ (i + j) * p := by
  rw [← Nat.mul_add, ← Nat.mul_add, ← Nat.mul_add, Nat.mod_add_div]
 generalize 10000 ^ (i + j) = P at *
 omega
theorem RMul.inside {xs ys zs : List Nat} {i j c : Nat} (h : RMul xs ys i j c zs) (hx : ∀ x ∈ xs, x < 10000) (hy : ∀ y ∈ ys, y < 10000) (hi : i < xs.length) (hw : j < ys.length ∨ 0 < c) : j ≤ ys.length := by
 rcases hw with hw | hw
 ·omega
 ·apply Nat.le_of_not_lt
  intro hj
  have he := h.eq
  rw [List.take_of_length_le (l := ys) (by omega)] at he
  have e1 : rval (xs.take i) * rval ys + 10000 ^ i * (xs[i]?.getD 0 * rval ys) = rval (xs.take (i + 1)) * rval ys := by
   rw [rval_take_succ, Nat.add_mul, Nat.mul_assoc]
  rw [e1] at he
  have h1 := rval_lt (xs.take (i + 1)) (fun x hx' => hx x (List.mem_of_mem_take hx'))
  have h2 := rval_lt ys hy
  rw [List.length_take, Nat.min_eq_left (by omega)] at h1
  have h3 : rval (xs.take (i + 1)) * rval ys < 10000 ^ (i + 1) * 10000 ^ ys.length := by
   rcases Nat.eq_zero_or_pos (rval ys) with h0 | h0
   ·rw [h0, Nat.mul_zero]; exact Nat.mul_pos (Nat.pow_pos (by decide)) (Nat.pow_pos (by decide))
   ·exact Nat.lt_of_lt_of_le (Nat.mul_lt_mul_of_pos_right h1 h0) (Nat.mul_le_mul_left _ (Nat.le_of_lt h2))
  rw [← Nat.pow_add] at h3
  have h4 : (10000 : Nat) ^ (i + 1 + ys.length) ≤ 10000 ^ (i + j) := Nat.pow_le_pow_right (by decide) (by omega)
  have h5 : 10000 ^ (i + j) * 1 ≤ 10000 ^ (i + j) * c := Nat.mul_le_mul_left _ hw
  omega
theorem RMul.row {xs ys zs : List Nat} {i j : Nat} (h : RMul xs ys i j 0 zs) (hj : ys.length ≤ j) : RMul xs ys (i + 1) 0 0 zs := by
 refine ⟨h.len, h.lt, by decide, ?_⟩
 have he := h.eq
 rw [List.take_of_length_le hj] at he
 rw [rval_take_succ, Nat.add_mul, Nat.mul_assoc]
 simp [rval] at he ⊢
 omega
theorem RMul.done {xs ys zs : List Nat} {i : Nat} (h : RMul xs ys i 0 0 zs) (hi : xs.length ≤ i) : rval zs = rval xs * rval ys := by
 have he := h.eq
 rw [List.take_of_length_le hi, List.getElem?_eq_none hi] at he
 simpa using he
/-! Dividing: the places from k on are done. -/
structure RDiv (xs : List Nat) (b : Nat) (k : Nat) (qs : List Nat) (r : Nat) : Prop where
 len : qs.length = xs.length
 lt : ∀ q ∈ qs, q < 10000
 rest : r < b
 low : ∀ i, i < k → qs[i]?.getD 0 = 0
 eq : rval qs * b + 10000 ^ k * r = 10000 ^ k * rval (xs.drop k)
theorem RDiv.start (xs : List Nat) {b : Nat} (hb : 0 < b) : RDiv xs b xs.length (List.replicate xs.length 0) 0 :=
 ⟨by simp, fun z hz => by rw [List.eq_of_mem_replicate hz]; decide, hb, fun i hi => by simp [hi], by simp [rval, rval_replicate]⟩
theorem rval_drop {xs : List Nat} {k : Nat} (hk : k < xs.length) : rval (xs.drop k) = xs[k]?.getD 0 + 10000 * rval (xs.drop (k + 1)) := by
 rw [List.drop_eq_getElem_cons hk, rval, List.getElem?_eq_getElem hk]; rfl
theorem RDiv.next {xs qs : List Nat} {b k r : Nat} (h : RDiv xs b (k + 1) qs r) (hx : ∀ x ∈ xs, x < 10000) (hk : k < xs.length) :
  (xs[k]?.getD 0 + 10000 * r) / b < 10000 ∧ RDiv xs b k (qs.set k ((xs[k]?.getD 0 + 10000 * r) / b)) ((xs[k]?.getD 0 + 10000 * r) % b) := by
 have h1 := getD_lt (k := k) hx (by decide)
 have hr := h.rest
 have hd : (xs[k]?.getD 0 + 10000 * r) / b < 10000 := Nat.div_lt_of_lt_mul (by
  have : 10000 * (r + 1) ≤ 10000 * b := Nat.mul_le_mul_left _ hr
  rw [Nat.mul_comm b]; omega)
 refine ⟨hd, ⟨by simp [h.len], set_lt h.lt hd, Nat.mod_lt _ (by omega), fun i hi => ?_, ?_⟩⟩
 ·rw [getD_set (by rw [h.len]; exact hk), if_neg (by omega)]; exact h.low i (by omega)
 ·have hs := rval_set ((xs[k]?.getD 0 + 10000 * r) / b) (show k < qs.length by rw [h.len]; exact hk)
  rw [h.low k (by omega)] at hs
  have he := h.eq
  rw [rval_drop hk]
  have hs2 : rval (qs.set k ((xs[k]?.getD 0 + 10000 * r) / b)) = rval qs + 10000 ^ k * ((xs[k]?.getD 0 + 10000 * r) / b) := by omega
  rw [hs2, Nat.add_mul, Nat.mul_assoc, Nat.add_assoc, ← Nat.mul_add, Nat.div_add_mod', Nat.mul_add, Nat.mul_add]
  rw [Nat.pow_succ, Nat.mul_assoc, Nat.mul_assoc] at he
  omega
theorem RDiv.done {xs qs : List Nat} {b r : Nat} (h : RDiv xs b 0 qs r) (hb : 0 < b) : rval qs = rval xs / b ∧ r = rval xs % b := by
 have he := h.eq
 simp only [Nat.pow_zero, Nat.one_mul, List.drop_zero] at he
 have hr := h.rest
 rw [← he]
 constructor
 ·rw [Nat.add_comm, Nat.add_mul_div_right _ _ hb, Nat.div_eq_of_lt hr, Nat.zero_add]
 ·rw [Nat.add_comm, Nat.add_mul_mod_self_right, Nat.mod_eq_of_lt hr]
/-! Texts. -/
structure RTxt (n : Nat) (ds : List Nat) (q : Nat) : Prop where
 lt : ∀ d ∈ ds, d < 10
 eq : n = dval ds + 10 ^ ds.length * q
theorem RTxt.start (n : Nat) : RTxt n [] n := ⟨by simp, by simp [dval]⟩
theorem RTxt.next {n q : Nat} {ds : List Nat} (h : RTxt n ds q) : RTxt n (ds ++ [q % 10]) (q / 10) := by
 refine ⟨lt_snoc h.lt (Nat.mod_lt _ (by decide)), ?_⟩
 have he := h.eq
 rw [dval_append, List.length_append]
 simp only [dval, List.length_cons, List.length_nil, Nat.mul_zero, Nat.add_zero, Nat.zero_add]
 rw [Nat.pow_succ, Nat.mul_assoc, Nat.add_assoc, ← Nat.mul_add, Nat.mod_add_div]
 exact he
theorem RTxt.done {n : Nat} {ds : List Nat} (h : RTxt n ds 0) (hn : 0 < n) (ht : ∀ hd : ds ≠ [], ds.getLast hd ≠ 0) : ds.reverse.map (48 + ·) = dec n := by
 have he := h.eq
 rw [Nat.mul_zero, Nat.add_zero] at he
 rw [dec_pos hn, he, dig_dval ds h.lt ht]
end Go.Proofs.YtcpfanpcdkoiaaaGreat
