/-
  Plain facts on binary digits and shifts.
-/
import Derived.Test.YtegneoaoodddoaaDoorMathD
import Derived.Shelf.Small.Bits
namespace Go.Proofs.YtegneoaoodddoaaDoor
set_option linter.unusedVariables false
set_option linter.unusedSimpArgs false

/-- How many binary digits a number has. -/
def blen (n : Nat) : Nat := if n = 0 then 0 else blen (n / 2) + 1
decreasing_by omega
theorem blen_zero : blen 0 = 0 := by rw [blen]; rfl
theorem blen_pos {n : Nat} (h : 0 < n) : blen n = blen (n / 2) + 1 := by rw [blen, if_neg (by omega)]

theorem lt_two_blen (n : Nat) : n < 2 ^ blen n := by
  induction n using Nat.strongRecOn with
  | _ n ih =>
    by_cases h : n = 0
    · subst h; rw [blen_zero]; decide
    · rw [blen_pos (by omega), Nat.pow_succ]
      have := ih (n / 2) (by omega)
      omega
theorem two_blen_le {n : Nat} (h : 0 < n) : 2 ^ (blen n - 1) ≤ n := by
  induction n using Nat.strongRecOn with
  | _ n ih =>
    rw [blen_pos h, Nat.add_sub_cancel]
    by_cases h2 : n / 2 = 0
    · rw [h2, blen_zero]; simp; omega
    · have := ih (n / 2) (by omega) (by omega)
      have e : blen (n / 2) = blen (n / 2) - 1 + 1 := by rw [blen_pos (n := n / 2) (by omega)]; rfl
      rw [e, Nat.pow_succ]
      omega
theorem blen_le {n k : Nat} (h : n < 2 ^ k) : blen n ≤ k := by
  rcases Nat.eq_zero_or_pos n with rfl | hp
  · rw [blen_zero]; omega
  · have := two_blen_le hp
    have h2 : 2 ^ (blen n - 1) < 2 ^ k := by omega
    have := (Nat.pow_lt_pow_iff_right (by decide : 1 < 2)).1 h2
    omega
theorem blen_le_iff {n k : Nat} : blen n ≤ k ↔ n < 2 ^ k :=
  ⟨fun h => Nat.lt_of_lt_of_le (lt_two_blen n) (Nat.pow_le_pow_right (by decide) h), blen_le⟩
theorem blen_unique {n k : Nat} (h1 : 2 ^ k ≤ n) (h2 : n < 2 ^ (k + 1)) : blen n = k + 1 := by
  have := blen_le h2
  have h3 : ¬ blen n ≤ k := by rw [blen_le_iff]; omega
  omega

theorem bitLen_blen (x : Nat) (h : x < 18446744073709551616) : Lib.bitLen x = blen x := by
  induction x using Nat.strongRecOn with
  | _ x ih =>
    by_cases h0 : x = 0
    · subst h0; rw [blen_zero]; rfl
    · rw [Lib.bitLen_half x h0 (by simpa using h), blen_pos (by omega), ih (x / 2) (by omega) (by omega)]
      omega

/-- The binary digits of a number: those of its top limb, and 32 of each other. -/
theorem blen_limbs {n m : Nat} (h : (limbs n).length = m + 1) : blen n = 32 * m + blen ((limbs n)[m]?.getD 0) := by
  have hne : limbs n ≠ [] := by intro h0; rw [h0] at h; simp at h
  have hlast := limbs_getLast n hne
  rw [List.getLast_eq_getElem] at hlast
  have ht : (limbs n)[m]?.getD 0 ≠ 0 := by
    rw [List.getElem?_eq_getElem (by omega)]
    simpa [h] using hlast
  have hsum : n = val ((limbs n).take m) + 4294967296 ^ m * ((limbs n)[m]?.getD 0) := by
    have := @val_take_succ (limbs n) m
    rw [List.take_of_length_le (by omega), val_limbs] at this
    exact this
  have hlow : val ((limbs n).take m) < 4294967296 ^ m := by
    have := val_lt ((limbs n).take m) (fun x hx => limbs_lt n x (List.mem_of_mem_take hx))
    rwa [List.length_take, Nat.min_eq_left (by omega)] at this
  generalize (limbs n)[m]?.getD 0 = t at *
  generalize val ((limbs n).take m) = low at *
  have e32 : (4294967296 : Nat) ^ m = 2 ^ (32 * m) := by rw [Nat.pow_mul]
  rw [e32] at hsum hlow
  have hp : 0 < t := by omega
  have h1 := two_blen_le hp
  have h2 := lt_two_blen t
  have hb : blen t = blen t - 1 + 1 := by rw [blen_pos hp]; rfl
  have := blen_unique (n := n) (k := 32 * m + (blen t - 1)) (by
    rw [hsum, Nat.pow_add]
    exact Nat.le_trans (Nat.mul_le_mul_left _ h1) (Nat.le_add_left _ _)) (by
    rw [show 32 * m + (blen t - 1) + 1 = 32 * m + blen t by omega, hsum, Nat.pow_add]
    calc low + 2 ^ (32 * m) * t < 2 ^ (32 * m) + 2 ^ (32 * m) * t := Nat.add_lt_add_right hlow _
      _ = 2 ^ (32 * m) * (t + 1) := by rw [Nat.mul_add]; omega
      _ ≤ 2 ^ (32 * m) * 2 ^ blen t := Nat.mul_le_mul_left _ h2)
  omega

theorem limbs_length_eq {n : Nat} (h : 0 < n) : ∃ m, (limbs n).length = m + 1 := by
  cases hl : limbs n with
  | nil => rw [limbs_eq_nil] at hl; omega
  | cons x xs => exact ⟨xs.length, rfl⟩

theorem lt_64_iff {n : Nat} : n < 18446744073709551616 ↔ (limbs n).length ≤ 2 := by
  constructor
  · intro h; exact limbs_length_le (by simpa using h)
  · intro h
    have := Nat.lt_of_lt_of_le (lt_pow_limbs n) (Nat.pow_le_pow_right (by decide) h : 4294967296 ^ (limbs n).length ≤ 4294967296 ^ 2)
    simpa using this

/-! Shifting down. -/
def downL (s : Nat) : List Nat → List Nat
  | [] => []
  | x :: xs => (x + 4294967296 * (xs[0]?.getD 0)) / 2 ^ s % 4294967296 :: downL s xs
theorem downL_lt (s : Nat) (xs : List Nat) : ∀ x ∈ downL s xs, x < 4294967296 := by
  induction xs with
  | nil => simp [downL]
  | cons x xs ih =>
    intro y hy
    rcases List.mem_cons.1 hy with rfl | hy
    · exact Nat.mod_lt _ (by decide)
    · exact ih y hy
theorem downL_length (s : Nat) (xs : List Nat) : (downL s xs).length = xs.length := by
  induction xs with
  | nil => rfl
  | cons x xs ih => simp [downL, ih]
theorem downL_val (s : Nat) (hs : s ≤ 32) (xs : List Nat) (hx : ∀ x ∈ xs, x < 4294967296) : val (downL s xs) = val xs / 2 ^ s := by
  induction xs with
  | nil => simp [downL, val]
  | cons x xs ih =>
    have hx0 := hx x (by simp)
    simp only [downL, val]
    rw [ih (fun y hy => hx y (by simp [hy]))]
    have e1 : (x + 4294967296 * val xs) / 2 ^ s / 4294967296 = val xs / 2 ^ s := by
      rw [Nat.div_div_eq_div_mul, Nat.mul_comm (2 ^ s), ← Nat.div_div_eq_div_mul, Nat.add_mul_div_left _ _ (by decide), Nat.div_eq_of_lt hx0, Nat.zero_add]
    have e2 : (x + 4294967296 * (xs[0]?.getD 0)) / 2 ^ s % 4294967296 = (x + 4294967296 * val xs) / 2 ^ s % 4294967296 := by
      have h3 : x + 4294967296 * val xs = (x + 4294967296 * (xs[0]?.getD 0)) + 2 ^ s * (4294967296 * (2 ^ (32 - s) * val xs.tail)) := by
        rw [val_cons' xs]
        have : 2 ^ s * (4294967296 * (2 ^ (32 - s) * val xs.tail)) = 4294967296 * (4294967296 * val xs.tail) := by
          rw [← Nat.mul_assoc, Nat.mul_comm (2 ^ s), Nat.mul_assoc, ← Nat.mul_assoc (2 ^ s), ← Nat.pow_add, show s + (32 - s) = 32 by omega]
        rw [this]; omega
      rw [h3, Nat.add_mul_div_left _ _ (Nat.pow_pos (by decide)), Nat.add_mul_mod_self_left]
    rw [e2, ← e1]
    exact Nat.mod_add_div _ _
theorem downL_snoc_get (s : Nat) (xs : List Nat) (k : Nat) (hk : k < xs.length) : (downL s xs).take (k + 1) = (downL s xs).take k ++ [(xs[k]?.getD 0 + 4294967296 * (xs[k + 1]?.getD 0)) / 2 ^ s % 4294967296] := by
  induction xs generalizing k with
  | nil => simp at hk
  | cons x xs ih =>
    cases k with
    | zero => simp [downL]
    | succ k => simp only [downL, List.take_succ_cons, ih k (by simpa using hk), List.cons_append, List.getElem?_cons_succ]
theorem val_drop (xs : List Nat) (k : Nat) (hx : ∀ x ∈ xs, x < 4294967296) : val (xs.drop k) = val xs / 4294967296 ^ k := by
  induction k generalizing xs with
  | zero => simp
  | succ k ih =>
    cases xs with
    | nil => simp [val]
    | cons x xs =>
      have hx0 := hx x (by simp)
      rw [List.drop_succ_cons, ih xs (fun y hy => hx y (by simp [hy])), val, Nat.pow_succ, Nat.mul_comm (4294967296 ^ k) 4294967296, ← Nat.div_div_eq_div_mul, Nat.add_mul_div_left _ _ (by decide), Nat.div_eq_of_lt hx0, Nat.zero_add]

/-! Shifting up: what is carried. -/
structure UpInv (s : Nat) (xs : List Nat) (k c : Nat) (zs : List Nat) : Prop where
  len : zs.length = k
  lt : ∀ z ∈ zs, z < 4294967296
  car : c < 2 ^ s
  eq : val zs + 4294967296 ^ k * c = val (xs.take k) * 2 ^ s
theorem UpInv.start (s : Nat) (xs : List Nat) : UpInv s xs 0 0 [] := ⟨rfl, by simp, Nat.pow_pos (by decide), by simp [val]⟩
theorem up_bound {s c x : Nat} (hs : s < 32) (hc : c < 2 ^ s) (hx : x < 4294967296) : c + x * 2 ^ s < 18446744073709551616 ∧ (c + x * 2 ^ s) / 4294967296 < 2 ^ s := by
  have h1 : 2 ^ s ≤ 2147483648 := by
    have : 2 ^ s ≤ 2 ^ 31 := Nat.pow_le_pow_right (by decide) (by omega)
    simpa using this
  have h2 : c + x * 2 ^ s < 4294967296 * 2 ^ s := by
    have : (x + 1) * 2 ^ s ≤ 4294967296 * 2 ^ s := Nat.mul_le_mul_right _ hx
    rw [Nat.add_mul] at this
    omega
  generalize 2 ^ s = p at *
  constructor
  · generalize x * p = q at *; omega
  · exact Nat.div_lt_of_lt_mul h2
theorem UpInv.next {s : Nat} {xs zs : List Nat} {k c : Nat} (h : UpInv s xs k c zs) (hs : s < 32) (hx : ∀ x ∈ xs, x < 4294967296) :
    UpInv s xs (k + 1) ((c + xs[k]?.getD 0 * 2 ^ s) / 4294967296) (zs ++ [(c + xs[k]?.getD 0 * 2 ^ s) % 4294967296]) := by
  have hxk := getD_lt (k := k) hx (by decide)
  have hb := up_bound hs h.car hxk
  refine ⟨by simp [h.len], ?_, hb.2, ?_⟩
  · intro z hz
    rcases List.mem_append.1 hz with h1 | h1
    · exact h.lt z h1
    · simp at h1; omega
  · have h2 := h.eq
    rw [val_append, h.len, val_take_succ, Nat.add_mul, ← h2, Nat.pow_succ, Nat.mul_assoc, Nat.mul_assoc]
    have h3 : 4294967296 ^ k * ((c + xs[k]?.getD 0 * 2 ^ s) % 4294967296) + 4294967296 ^ k * (4294967296 * ((c + xs[k]?.getD 0 * 2 ^ s) / 4294967296)) = 4294967296 ^ k * c + 4294967296 ^ k * (xs[k]?.getD 0 * 2 ^ s) := by
      rw [← Nat.mul_add, ← Nat.mul_add, Nat.mod_add_div]
    simp only [val, Nat.mul_zero, Nat.add_zero]
    rw [Nat.add_assoc, h3, Nat.add_assoc]
theorem UpInv.done {s : Nat} {xs zs : List Nat} {c : Nat} (h : UpInv s xs xs.length c zs) (q : Nat) : val (List.replicate q 0 ++ (zs ++ [c])) = val xs * 2 ^ (32 * q + s) := by
  have h2 := h.eq
  rw [List.take_length] at h2
  rw [val_append, val_append, val_replicate, List.length_replicate, h.len]
  simp only [val, Nat.mul_zero, Nat.add_zero, Nat.zero_add]
  rw [h2, Nat.pow_add, Nat.pow_mul, Nat.mul_left_comm]

end Go.Proofs.YtegneoaoodddoaaDoor
