/-
  Plain facts on lists of limbs: multiplying by, and dividing by, a small number, in place.
-/
import Derived.Test.YtegneoaoodddoaaDoorMathA
namespace Go.Proofs.YtegneoaoodddoaaDoor
set_option linter.unusedVariables false
set_option linter.unusedSimpArgs false

def mulL : List Nat → Nat → Nat → List Nat
  | [], _, _ => []
  | x :: xs, m, c => (c + x * m) % 4294967296 :: mulL xs m ((c + x * m) / 4294967296)
def mulC : List Nat → Nat → Nat → Nat
  | [], _, c => c
  | x :: xs, m, c => mulC xs m ((c + x * m) / 4294967296)

theorem mulL_length (xs : List Nat) (m c : Nat) : (mulL xs m c).length = xs.length := by
  induction xs generalizing c with
  | nil => rfl
  | cons x xs ih => simp [mulL, ih]
theorem mulL_snoc (xs : List Nat) (x m c : Nat) : mulL (xs ++ [x]) m c = mulL xs m c ++ [(mulC xs m c + x * m) % 4294967296] := by
  induction xs generalizing c with
  | nil => rfl
  | cons y xs ih => simp [mulL, mulC, ih]
theorem mulC_snoc (xs : List Nat) (x m c : Nat) : mulC (xs ++ [x]) m c = (mulC xs m c + x * m) / 4294967296 := by
  induction xs generalizing c with
  | nil => rfl
  | cons y xs ih => simp [mulC, ih]
theorem mulL_lt (xs : List Nat) (m c : Nat) : ∀ x ∈ mulL xs m c, x < 4294967296 := by
  induction xs generalizing c with
  | nil => simp [mulL]
  | cons y xs ih =>
    intro x hx
    rcases List.mem_cons.1 hx with rfl | hx
    · omega
    · exact ih _ x hx
theorem mul_val (xs : List Nat) (m c : Nat) : val (mulL xs m c) + 4294967296 ^ xs.length * mulC xs m c = val xs * m + c := by
  induction xs generalizing c with
  | nil => simp [mulL, mulC, val]
  | cons x xs ih =>
    have := ih ((c + x * m) / 4294967296)
    simp only [mulL, mulC, val, List.length_cons, Nat.pow_succ]
    rw [Nat.mul_comm (4294967296 ^ xs.length) 4294967296, Nat.mul_assoc]
    rw [Nat.add_mul, Nat.mul_assoc]
    generalize val (mulL xs m ((c + x * m) / 4294967296)) = a at *
    generalize 4294967296 ^ xs.length * mulC xs m ((c + x * m) / 4294967296) = b at *
    generalize val xs * m = d at *
    omega
theorem small_mul {x m c : Nat} (hx : x < 4294967296) (hm : m < 4294967296) (hc : c < 4294967296) : c + x * m < 18446744073709551616 ∧ (c + x * m) / 4294967296 < 4294967296 := by
  have h : x * m ≤ 4294967295 * 4294967295 := Nat.mul_le_mul (by omega) (by omega)
  constructor <;> omega
theorem mulC_lt (xs : List Nat) (m c : Nat) (hx : ∀ x ∈ xs, x < 4294967296) (hm : m < 4294967296) (hc : c < 4294967296) : mulC xs m c < 4294967296 := by
  induction xs generalizing c with
  | nil => exact hc
  | cons x xs ih => exact ih _ (fun y hy => hx y (by simp [hy])) (small_mul (hx x (by simp)) hm hc).2

/-- Dividing from the top: the quotient's limbs (the lowest first), and what is left. -/
def divL : List Nat → Nat → List Nat × Nat
  | [], _ => ([], 0)
  | x :: xs, m => (((divL xs m).2 * 4294967296 + x) / m :: (divL xs m).1, ((divL xs m).2 * 4294967296 + x) % m)

theorem divL_length (xs : List Nat) (m : Nat) : (divL xs m).1.length = xs.length := by
  induction xs with
  | nil => rfl
  | cons x xs ih => simp [divL, ih]
theorem divL_rest (xs : List Nat) (m : Nat) (hm : 0 < m) : (divL xs m).2 < m := by
  cases xs with
  | nil => exact hm
  | cons x xs => exact Nat.mod_lt _ hm
theorem divL_val (xs : List Nat) (m : Nat) (hm : 0 < m) : val (divL xs m).1 * m + (divL xs m).2 = val xs := by
  induction xs with
  | nil => simp [divL, val]
  | cons x xs ih =>
    simp only [divL, val]
    have h2 := Nat.div_add_mod ((divL xs m).2 * 4294967296 + x) m
    rw [Nat.mul_comm] at h2
    rw [Nat.add_mul, Nat.mul_assoc]
    generalize ((divL xs m).2 * 4294967296 + x) / m * m = a at *
    generalize ((divL xs m).2 * 4294967296 + x) % m = b at *
    generalize val (divL xs m).1 * m = d at *
    omega
theorem small_div {r x m : Nat} (hr : r < m) (hx : x < 4294967296) (hm : m ≤ 4294967296) : r * 4294967296 + x < 18446744073709551616 ∧ (r * 4294967296 + x) / m < 4294967296 := by
  constructor
  · omega
  · apply Nat.div_lt_of_lt_mul
    have : (r + 1) * 4294967296 ≤ m * 4294967296 := Nat.mul_le_mul_right _ hr
    omega
theorem divL_lt (xs : List Nat) (m : Nat) (hx : ∀ x ∈ xs, x < 4294967296) (hm : 0 < m) (hm2 : m ≤ 4294967296) : ∀ x ∈ (divL xs m).1, x < 4294967296 := by
  induction xs with
  | nil => simp [divL]
  | cons y xs ih =>
    intro x h
    rcases List.mem_cons.1 h with rfl | h
    · exact (small_div (divL_rest xs m hm) (hx y (by simp)) hm2).2
    · exact ih (fun z hz => hx z (by simp [hz])) x h
theorem divL_eq (xs : List Nat) (m : Nat) (hm : 0 < m) : val (divL xs m).1 = val xs / m ∧ (divL xs m).2 = val xs % m := by
  have h := divL_val xs m hm
  have h2 := divL_rest xs m hm
  constructor
  · rw [← h, Nat.mul_comm, Nat.mul_add_div hm, Nat.div_eq_of_lt h2, Nat.add_zero]
  · rw [← h, Nat.mul_comm, Nat.mul_add_mod, Nat.mod_eq_of_lt h2]

/-- What stands in a list in which the first k are done. -/
theorem set_done {f : List Nat → List Nat} {xs : List Nat} {k y : Nat} (hk : k < xs.length) (hf : (f (xs.take k)).length = k) (hs : f (xs.take (k + 1)) = f (xs.take k) ++ [y]) :
    (f (xs.take k) ++ xs.drop k).set k y = f (xs.take (k + 1)) ++ xs.drop (k + 1) := by
  rw [List.set_append_right _ _ (by omega), hf, Nat.sub_self, hs, List.append_assoc]
  congr 1
  rw [List.drop_eq_getElem_cons hk]
  rfl
theorem take_snoc' (xs : List Nat) (k : Nat) (hk : k < xs.length) : xs.take (k + 1) = xs.take k ++ [xs[k]?.getD 0] := by
  rw [List.take_add_one, List.getElem?_eq_getElem hk]; rfl
theorem get_done {ys xs : List Nat} {k : Nat} (hk : k < xs.length) (hy : ys.length = k) : (ys ++ xs.drop k)[k]?.getD 0 = xs[k]?.getD 0 := by
  rw [List.getElem?_append_right (by omega), hy, Nat.sub_self, List.getElem?_drop, Nat.add_zero]
/-- .. in which the last ones are done, from the top. -/
theorem set_done_top {xs ds : List Nat} {k y : Nat} (hk : k < xs.length) : (xs.take (k + 1) ++ ds).set k y = xs.take k ++ (y :: ds) := by
  rw [take_snoc' xs k hk, List.append_assoc, List.set_append_right _ _ (by simp; omega)]
  congr 1
  have : k - (xs.take k).length = 0 := by simp; omega
  rw [this]; rfl
theorem getD_lt {xs : List Nat} {B k : Nat} (h : ∀ x ∈ xs, x < B) (hB : 0 < B) : xs[k]?.getD 0 < B := by
  by_cases hk : k < xs.length
  · rw [List.getElem?_eq_getElem hk]; exact h _ (List.getElem_mem _)
  · rw [List.getElem?_eq_none (by omega)]; exact hB

theorem ext_getD {xs ys : List Nat} (hl : xs.length = ys.length) (h : ∀ i, i < xs.length → xs[i]?.getD 0 = ys[i]?.getD 0) : xs = ys := by
  apply List.ext_getElem hl
  intro i h1 h2
  have := h i h1
  rw [List.getElem?_eq_getElem h1, List.getElem?_eq_getElem h2] at this
  exact this
theorem getD_set {xs : List Nat} {k y i : Nat} (hk : k < xs.length) : (xs.set k y)[i]?.getD 0 = if i = k then y else xs[i]?.getD 0 := by
  rw [List.getElem?_set]
  by_cases h : k = i
  · subst h; simp [hk]
  · rw [if_neg h, if_neg (fun e => h e.symm)]
theorem getD_reverse {xs : List Nat} {i : Nat} (hi : i < xs.length) : xs.reverse[i]?.getD 0 = xs[xs.length - 1 - i]?.getD 0 := by
  rw [List.getElem?_reverse hi]

/-- A list of which the outer k pairs are exchanged. -/
def RevUp (xs ys : List Nat) (k : Nat) : Prop := ys.length = xs.length ∧ ∀ i, i < xs.length → ys[i]?.getD 0 = if i < k ∨ xs.length - k ≤ i then xs[xs.length - 1 - i]?.getD 0 else xs[i]?.getD 0
theorem RevUp.start (xs : List Nat) : RevUp xs xs 0 := ⟨rfl, fun i hi => by rw [if_neg (by omega)]⟩
theorem RevUp.next {xs ys : List Nat} {k : Nat} (h : RevUp xs ys k) (hk : 2 * k + 1 < xs.length) :
    RevUp xs ((ys.set k (ys[xs.length - 1 - k]?.getD 0)).set (xs.length - 1 - k) (ys[k]?.getD 0)) (k + 1) := by
  refine ⟨by simp [h.1], fun i hi => ?_⟩
  rw [getD_set (by simp [h.1]; omega), getD_set (by rw [h.1]; omega)]
  by_cases h1 : i = xs.length - 1 - k
  · rw [if_pos h1, h.2 k (by omega), if_neg (by omega), if_pos (by omega), h1]
    congr 2; omega
  · rw [if_neg h1]
    by_cases h2 : i = k
    · rw [if_pos h2, h.2 _ (by omega), if_neg (by omega), if_pos (by omega), h2]
    · rw [if_neg h2, h.2 i hi]
      by_cases h3 : i < k ∨ xs.length - k ≤ i
      · rw [if_pos h3, if_pos (by omega)]
      · rw [if_neg h3, if_neg (by omega)]
theorem RevUp.done {xs ys : List Nat} {k : Nat} (h : RevUp xs ys k) (hk : xs.length ≤ 2 * k + 1) : ys = xs.reverse := by
  refine ext_getD (by simp [h.1]) (fun i hi => ?_)
  rw [h.1] at hi
  rw [h.2 i hi, getD_reverse hi]
  by_cases h3 : i < k ∨ xs.length - k ≤ i
  · rw [if_pos h3]
  · rw [if_neg h3]; congr 2; omega

end Go.Proofs.YtegneoaoodddoaaDoor
