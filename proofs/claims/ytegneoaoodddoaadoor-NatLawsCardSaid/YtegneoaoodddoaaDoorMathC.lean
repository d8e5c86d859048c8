/-
  Plain facts on decimal digits.
-/
import Derived.Test.YtegneoaoodddoaaDoorMathB
namespace Go.Proofs.YtegneoaoodddoaaDoor
set_option linter.unusedVariables false
set_option linter.unusedSimpArgs false

/-- The decimal digits of a number, the lowest first; none of 0. -/
def dig (n : Nat) : List Nat := if n = 0 then [] else n % 10 :: dig (n / 10)
decreasing_by omega
theorem dig_zero : dig 0 = [] := by rw [dig]; simp
theorem dig_pos {n : Nat} (h : 0 < n) : dig n = n % 10 :: dig (n / 10) := by rw [dig, if_neg (by omega)]

def dval : List Nat → Nat
  | [] => 0
  | x :: xs => x + 10 * dval xs

theorem dval_append (xs ys : List Nat) : dval (xs ++ ys) = dval xs + 10 ^ xs.length * dval ys := by
  induction xs with
  | nil => simp [dval]
  | cons x xs ih => simp only [List.cons_append, dval, ih, List.length_cons, Nat.pow_succ]; rw [Nat.mul_add, Nat.mul_comm (10 ^ xs.length) 10, Nat.mul_assoc]; omega

theorem dval_dig (n : Nat) : dval (dig n) = n := by
  induction n using Nat.strongRecOn with
  | _ n ih =>
    by_cases h : n = 0
    · subst h; rw [dig_zero]; rfl
    · rw [dig_pos (by omega), dval, ih _ (by omega)]; omega

theorem dig_lt (n : Nat) : ∀ x ∈ dig n, x < 10 := by
  induction n using Nat.strongRecOn with
  | _ n ih =>
    by_cases h : n = 0
    · subst h; rw [dig_zero]; simp
    · rw [dig_pos (by omega)]
      intro x hx
      rcases List.mem_cons.1 hx with rfl | hx
      · omega
      · exact ih _ (by omega) x hx

theorem dig_eq_nil {n : Nat} : dig n = [] ↔ n = 0 := by
  constructor
  · intro h; rw [← dval_dig n, h]; rfl
  · rintro rfl; exact dig_zero

theorem dig_getLast (n : Nat) (h : dig n ≠ []) : (dig n).getLast h ≠ 0 := by
  induction n using Nat.strongRecOn with
  | _ n ih =>
    by_cases h0 : n = 0
    · subst h0; exact absurd dig_zero h
    · have e := dig_pos (show 0 < n by omega)
      by_cases hq : n / 10 = 0
      · have : dig n = [n % 10] := by rw [e, hq, dig_zero]
        simp only [this, List.getLast_singleton]; omega
      · have hne : dig (n / 10) ≠ [] := by rw [Ne, dig_eq_nil]; exact hq
        have := ih (n / 10) (by omega) hne
        simp only [e]
        rw [List.getLast_cons hne]
        exact this

theorem dig_dval (xs : List Nat) (h : ∀ x ∈ xs, x < 10) (ht : ∀ hn : xs ≠ [], xs.getLast hn ≠ 0) : dig (dval xs) = xs := by
  induction xs with
  | nil => exact dig_zero
  | cons x xs ih =>
    have hx := h x (by simp)
    have ih' := ih (fun y hy => h y (by simp [hy])) (fun hn => by have := ht (by simp); rwa [List.getLast_cons hn] at this)
    have hpos : 0 < dval (x :: xs) := by
      simp only [dval]
      by_cases hn : xs = []
      · subst hn
        have := ht (by simp)
        simp at this
        omega
      · have : dval xs ≠ 0 := by
          intro h0
          rw [h0, dig_zero] at ih'
          exact hn ih'.symm
        omega
    rw [dig_pos hpos]
    simp only [dval]
    rw [Nat.add_mul_mod_self_left, Nat.mod_eq_of_lt hx, Nat.add_mul_div_left _ _ (by omega), Nat.div_eq_of_lt hx, Nat.zero_add, ih']

/-- Digits are the number's own, and noughts behind them. -/
theorem dig_strip (xs : List Nat) (h : ∀ x ∈ xs, x < 10) : ∃ k, xs = dig (dval xs) ++ List.replicate k 0 := by
  generalize hn : xs.length = n
  induction n generalizing xs with
  | zero =>
    have : xs = [] := List.eq_nil_of_length_eq_zero hn
    subst this
    exact ⟨0, by simp [dval, dig_zero]⟩
  | succ n ih =>
    have hne : xs ≠ [] := by rintro rfl; simp at hn
    by_cases h0 : xs.getLast hne = 0
    · have e : xs = xs.dropLast ++ [0] := by rw [← h0]; exact (List.dropLast_concat_getLast hne).symm
      obtain ⟨k, hk⟩ := ih xs.dropLast (fun x hx => h x (List.dropLast_subset _ hx)) (by simp [hn])
      refine ⟨k + 1, ?_⟩
      have e2 : dval xs = dval xs.dropLast := by rw [e, dval_append]; simp [dval]
      rw [e2, List.replicate_succ', ← List.append_assoc, ← hk]
      exact e
    · exact ⟨0, by simp [dig_dval xs h (fun _ => h0)]⟩

/-- The text of a number: the codes of its digits, the highest first. -/
def dec (n : Nat) : List Nat := if n = 0 then [48] else (dig n).reverse.map (48 + ·)

theorem dec_zero : dec 0 = [48] := rfl
theorem dec_pos {n : Nat} (h : 0 < n) : dec n = (dig n).reverse.map (48 + ·) := by unfold dec; rw [if_neg (by omega)]

theorem dropWhile_replicate (k : Nat) (ys : List Nat) (h : ∀ hn : ys ≠ [], ys.head hn ≠ 48) : (List.replicate k 48 ++ ys).dropWhile (· == 48) = ys := by
  induction k with
  | zero =>
    cases ys with
    | nil => rfl
    | cons y ys =>
      have := h (by simp)
      simp at this
      simp [List.dropWhile, this]
  | succ k ih => simpa [List.replicate_succ, List.dropWhile] using ih

/-- Digits of a number above 0, with noughts ahead of them: struck, they are its text. -/
theorem dec_strip (xs : List Nat) (h : ∀ x ∈ xs, x < 10) (hp : 0 < dval xs) : ((xs.reverse.map (48 + ·)).dropWhile (· == 48)) = dec (dval xs) := by
  obtain ⟨k, e⟩ := dig_strip xs h
  rw [dec_pos hp]
  generalize hd : dval xs = n at *
  rw [e, List.reverse_append, List.reverse_replicate, List.map_append, List.map_replicate]
  refine dropWhile_replicate k _ (fun hn => ?_)
  have hne : dig n ≠ [] := by rw [Ne, dig_eq_nil]; omega
  have := dig_getLast n hne
  rw [List.head_map, List.head_reverse]
  omega

/-- k digits of r, the lowest first. -/
def digsK : Nat → Nat → List Nat
  | 0, _ => []
  | k + 1, r => digsK k r ++ [r / 10 ^ k % 10]
theorem digsK_length (k r : Nat) : (digsK k r).length = k := by
  induction k with
  | zero => rfl
  | succ k ih => simp [digsK, ih]
theorem digsK_lt (k r : Nat) : ∀ x ∈ digsK k r, x < 10 := by
  induction k with
  | zero => simp [digsK]
  | succ k ih =>
    intro x hx
    rcases List.mem_append.1 hx with h | h
    · exact ih x h
    · simp at h; omega
theorem digsK_val (k r : Nat) : dval (digsK k r) = r % 10 ^ k := by
  induction k with
  | zero => simp [digsK, dval, Nat.mod_one]
  | succ k ih =>
    rw [digsK, dval_append, ih, digsK_length]
    simp only [dval]
    rw [Nat.pow_succ, Nat.mod_mul]; simp

theorem pow_le_bound {ds : List Nat} {n q L : Nat} (h : n = dval ds + 10 ^ ds.length * q) (hq : 0 < q) (hn : n < 4294967296 ^ L) : ds.length ≤ 32 * L := by
  have h1 : 10 ^ ds.length ≤ n := by rw [h]; exact Nat.le_trans (Nat.le_mul_of_pos_right _ hq) (Nat.le_add_left _ _)
  have h2 : 2 ^ ds.length ≤ 10 ^ ds.length := Nat.pow_le_pow_left (by decide) _
  have h3 : 4294967296 ^ L = 2 ^ (32 * L) := by rw [Nat.pow_mul]
  rw [h3] at hn
  have h4 : 2 ^ ds.length < 2 ^ (32 * L) := by omega
  exact Nat.le_of_lt ((Nat.pow_lt_pow_iff_right (by decide)).1 h4)

theorem dval_step {ds : List Nat} {n q : Nat} (h : n = dval ds + 10 ^ ds.length * q) : n = dval (ds ++ digsK 9 (q % 1000000000)) + 10 ^ (ds ++ digsK 9 (q % 1000000000)).length * (q / 1000000000) := by
  rw [dval_append, digsK_val, List.length_append, digsK_length, Nat.pow_add, h]
  have e : (10 : Nat) ^ 9 = 1000000000 := by decide
  rw [e, Nat.mod_mod, Nat.mul_assoc, Nat.add_assoc, ← Nat.mul_add]
  congr 2
  exact (Nat.mod_add_div q 1000000000).symm

theorem dec_of_digits {ds : List Nat} {n : Nat} (h : n = dval ds + 10 ^ ds.length * 0) (hl : ∀ x ∈ ds, x < 10) (hn : 0 < n) : ((ds.reverse.map (48 + ·)).dropWhile (· == 48)) = dec n := by
  have e : dval ds = n := by omega
  rw [← e]
  exact dec_strip ds hl (by omega)

end Go.Proofs.YtegneoaoodddoaaDoor
