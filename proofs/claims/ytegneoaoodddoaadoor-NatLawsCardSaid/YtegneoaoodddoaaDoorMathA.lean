/-
  Plain facts on numbers as lists of digits of base 2^32, the lowest first. No program is in sight here.
-/
import Derived.WalkKit
namespace Go.Proofs.YtegneoaoodddoaaDoor
set_option linter.unusedVariables false
set_option linter.unusedSimpArgs false

/-- The number of a list of limbs, the lowest first. -/
def val : List Nat → Nat
  | [] => 0
  | x :: xs => x + 4294967296 * val xs

/-- The limbs of a number: none are 0 at the top. -/
def limbs (n : Nat) : List Nat := if n = 0 then [] else n % 4294967296 :: limbs (n / 4294967296)
decreasing_by omega

theorem limbs_zero : limbs 0 = [] := by rw [limbs]; simp
theorem limbs_pos {n : Nat} (h : 0 < n) : limbs n = n % 4294967296 :: limbs (n / 4294967296) := by
  rw [limbs, if_neg (by omega)]

theorem val_limbs (n : Nat) : val (limbs n) = n := by
  induction n using Nat.strongRecOn with
  | _ n ih =>
    by_cases h : n = 0
    · subst h; rw [limbs_zero]; rfl
    · rw [limbs_pos (by omega), val, ih _ (by omega)]; omega

theorem limbs_lt (n : Nat) : ∀ x ∈ limbs n, x < 4294967296 := by
  induction n using Nat.strongRecOn with
  | _ n ih =>
    by_cases h : n = 0
    · subst h; rw [limbs_zero]; simp
    · rw [limbs_pos (by omega)]
      intro x hx
      rcases List.mem_cons.1 hx with rfl | hx
      · omega
      · exact ih _ (by omega) x hx

theorem limbs_eq_nil {n : Nat} : limbs n = [] ↔ n = 0 := by
  constructor
  · intro h; rw [← val_limbs n, h]; rfl
  · rintro rfl; exact limbs_zero

theorem limbs_getLast (n : Nat) (h : limbs n ≠ []) : (limbs n).getLast h ≠ 0 := by
  induction n using Nat.strongRecOn with
  | _ n ih =>
    by_cases h0 : n = 0
    · subst h0; exact absurd limbs_zero h
    · have e := limbs_pos (show 0 < n by omega)
      by_cases hq : n / 4294967296 = 0
      · have : limbs n = [n % 4294967296] := by rw [e, hq, limbs_zero]
        simp only [this, List.getLast_singleton]; omega
      · have hne : limbs (n / 4294967296) ≠ [] := by rw [Ne, limbs_eq_nil]; exact hq
        have := ih (n / 4294967296) (by omega) hne
        simp only [e]
        rw [List.getLast_cons hne]
        exact this

theorem val_append (xs ys : List Nat) : val (xs ++ ys) = val xs + 4294967296 ^ xs.length * val ys := by
  induction xs with
  | nil => simp [val]
  | cons x xs ih => simp only [List.cons_append, val, ih, List.length_cons, Nat.pow_succ]; rw [Nat.mul_add, Nat.mul_comm (4294967296 ^ xs.length) 4294967296, Nat.mul_assoc]; omega

theorem val_lt (xs : List Nat) (h : ∀ x ∈ xs, x < 4294967296) : val xs < 4294967296 ^ xs.length := by
  induction xs with
  | nil => simp [val]
  | cons x xs ih =>
    have h1 := h x (by simp)
    have h2 := ih (fun y hy => h y (by simp [hy]))
    simp only [val, List.length_cons, Nat.pow_succ]
    omega

/-- A list whose top is not 0 is the list of its number. -/
theorem limbs_val (xs : List Nat) (h : ∀ x ∈ xs, x < 4294967296) (ht : ∀ hn : xs ≠ [], xs.getLast hn ≠ 0) : limbs (val xs) = xs := by
  induction xs with
  | nil => exact limbs_zero
  | cons x xs ih =>
    have hx := h x (by simp)
    have ih' := ih (fun y hy => h y (by simp [hy])) (fun hn => by have := ht (by simp); rwa [List.getLast_cons hn] at this)
    have hpos : 0 < val (x :: xs) := by
      simp only [val]
      by_cases hn : xs = []
      · subst hn
        have := ht (by simp)
        simp at this
        omega
      · have : val xs ≠ 0 := by
          intro h0
          rw [h0, limbs_zero] at ih'
          exact hn ih'.symm
        omega
    rw [limbs_pos hpos]
    simp only [val]
    rw [Nat.add_mul_mod_self_left, Nat.mod_eq_of_lt hx, Nat.add_mul_div_left _ _ (by omega), Nat.div_eq_of_lt hx, Nat.zero_add, ih']

theorem val_snoc_zero (xs : List Nat) : val (xs ++ [0]) = val xs := by rw [val_append]; simp [val]

theorem val_take_of_zero (xs : List Nat) (k : Nat) (h : ∀ i, k ≤ i → i < xs.length → xs[i]? = some 0) : val (xs.take k) = val xs := by
  induction xs generalizing k with
  | nil => simp
  | cons x xs ih =>
    cases k with
    | zero =>
      have h0 := h 0 (Nat.le_refl _) (by simp)
      simp at h0
      have := ih 0 (fun i _ hi => by have := h (i + 1) (by omega) (by simp; omega); simpa using this)
      simp only [List.take_zero, val] at this ⊢
      omega
    | succ k =>
      have := ih k (fun i h1 hi => by have := h (i + 1) (by omega) (by simp; omega); simpa using this)
      simp only [List.take_succ_cons, val, this]

/-- What is behind k is nought, and k's own place is not: the limbs are the first k. -/
theorem limbs_take (xs : List Nat) (k : Nat) (hk : k ≤ xs.length) (h : ∀ x ∈ xs, x < 4294967296) (hz : ∀ i, k ≤ i → i < xs.length → xs[i]? = some 0)
    (ht : k = 0 ∨ xs[k - 1]? ≠ some 0) : limbs (val xs) = xs.take k := by
  rw [← val_take_of_zero xs k hz]
  refine limbs_val _ (fun x hx => h x (List.mem_of_mem_take hx)) (fun hn h0 => ?_)
  have hk0 : k ≠ 0 := by rintro rfl; simp at hn
  rcases ht with rfl | ht
  · exact hk0 rfl
  · apply ht
    rw [List.getLast_eq_getElem] at h0
    simp only [List.length_take, Nat.min_eq_left hk, List.getElem_take] at h0
    rw [List.getElem?_eq_getElem (by omega), h0]

theorem val_limbs_length_le (xs : List Nat) (h : ∀ x ∈ xs, x < 4294967296) : (limbs (val xs)).length ≤ xs.length := by
  have hlt := val_lt xs h
  generalize hv : val xs = v at *
  generalize xs.length = m at *
  clear h hv
  induction m generalizing v with
  | zero =>
    have : v = 0 := by simp at hlt; exact hlt
    subst this; rw [limbs_zero]; simp
  | succ m ih =>
    by_cases h0 : v = 0
    · subst h0; rw [limbs_zero]; simp
    · rw [limbs_pos (by omega), List.length_cons]
      have := ih (v / 4294967296) (by rw [Nat.pow_succ] at hlt; exact Nat.div_lt_of_lt_mul (by rw [Nat.mul_comm]; exact hlt))
      omega

theorem limbs_length_le {n k : Nat} (h : n < 4294967296 ^ k) : (limbs n).length ≤ k := by
  induction k generalizing n with
  | zero =>
    have : n = 0 := by simp at h; exact h
    subst this; rw [limbs_zero]; simp
  | succ k ih =>
    by_cases h0 : n = 0
    · subst h0; rw [limbs_zero]; simp
    · rw [limbs_pos (by omega), List.length_cons]
      have := @ih (n / 4294967296) (by rw [Nat.pow_succ] at h; exact Nat.div_lt_of_lt_mul (by rw [Nat.mul_comm]; exact h))
      omega

theorem lt_pow_limbs (n : Nat) : n < 4294967296 ^ (limbs n).length := by
  have := val_lt (limbs n) (limbs_lt n)
  rwa [val_limbs] at this

theorem limbs_length_mono {a b : Nat} (h : a ≤ b) : (limbs a).length ≤ (limbs b).length :=
  limbs_length_le (Nat.lt_of_le_of_lt h (lt_pow_limbs b))

/-- The low 32 bits. -/
theorem and_low (x : Int) : bits .and .u64 x 4294967295 = x % 4294967296 := by
  obtain ⟨a, ha⟩ := Int.eq_ofNat_of_zero_le (Int.emod_nonneg x (show (18446744073709551616 : Int) ≠ 0 by decide))
  have hlt : a < 18446744073709551616 := by omega
  have e : BitVec.ofInt 64 x = BitVec.ofInt 64 (a : Int) := by
    apply BitVec.eq_of_toInt_eq
    simp only [BitVec.toInt_ofInt, Int.bmod_def]
    omega
  have e1 : bits .and .u64 x 4294967295 = bits .and .u64 (a : Int) 4294967295 := by
    simp only [bits, IntKind.bits] at *
    rw [e]
  have e2 : bits .and .u64 (a : Int) 4294967295 = (a : Int) % 4294967296 := bits_mask .u64 64 (by decide) (fun n h0 h1 => by rw [IntKind.wrap_u64]; omega) 32 (by decide) a (by omega) (by omega)
  rw [e1, e2]
  omega

theorem or_join (x y : Int) (hx : 0 ≤ x) (hx1 : x < 4294967296) (hy : 0 ≤ y) (hy1 : y < 4294967296) : bits .or .u64 (x * 4294967296) y = x * 4294967296 + y :=
  bits_join .u64 64 (by decide) (fun n h0 h1 => by rw [IntKind.wrap_u64]; omega) 32 _ _ (by omega) (by omega) (by omega) hy (by omega) (by omega)

/-- The limbs of a list's number are its first ones. -/
theorem limbs_prefix (xs : List Nat) (h : ∀ x ∈ xs, x < 4294967296) : ∃ k, k ≤ xs.length ∧ limbs (val xs) = xs.take k := by
  generalize hn : xs.length = n
  induction n generalizing xs with
  | zero =>
    have : xs = [] := List.eq_nil_of_length_eq_zero hn
    subst this
    exact ⟨0, Nat.le_refl _, limbs_zero⟩
  | succ n ih =>
    have hne : xs ≠ [] := by rintro rfl; simp at hn
    by_cases h0 : xs.getLast hne = 0
    · have e : xs = xs.dropLast ++ [0] := by rw [← h0]; exact (List.dropLast_concat_getLast hne).symm
      obtain ⟨k, hk, hk2⟩ := ih xs.dropLast (fun x hx => h x (List.dropLast_subset _ hx)) (by simp [hn])
      refine ⟨k, by omega, ?_⟩
      have e2 : val xs = val xs.dropLast := by rw [e, val_snoc_zero]; simp
      rw [e2, hk2]
      have : xs.dropLast = xs.take n := by rw [List.dropLast_eq_take, hn]; rfl
      rw [this, List.take_take, Nat.min_eq_left hk]
    · exact ⟨n + 1, Nat.le_refl _, by rw [limbs_val xs h (fun _ => h0), ← hn, List.take_length]⟩

end Go.Proofs.YtegneoaoodddoaaDoor
