/-
  Plain facts on limbs: comparing, adding, taking away, multiplying, place by place.
-/
import Derived.Test.YtegneoaoodddoaaDoorMathB
namespace Go.Proofs.YtegneoaoodddoaaDoor
set_option linter.unusedVariables false
set_option linter.unusedSimpArgs false

theorem val_set {zs : List Nat} {k : Nat} (v : Nat) (hk : k < zs.length) : val (zs.set k v) + 4294967296 ^ k * (zs[k]?.getD 0) = val zs + 4294967296 ^ k * v := by
  induction zs generalizing k with
  | nil => simp at hk
  | cons z zs ih =>
    cases k with
    | zero => simp [val]; omega
    | succ k =>
      have := @ih k (by simpa using hk)
      simp only [List.set_cons_succ, val, List.getElem?_cons_succ, Nat.pow_succ]
      rw [Nat.mul_comm (4294967296 ^ k) 4294967296, Nat.mul_assoc, Nat.mul_assoc]
      omega

theorem val_take_succ {xs : List Nat} {k : Nat} : val (xs.take (k + 1)) = val (xs.take k) + 4294967296 ^ k * (xs[k]?.getD 0) := by
  by_cases hk : k < xs.length
  · rw [take_snoc' xs k hk, val_append, List.length_take, Nat.min_eq_left (by omega)]; simp [val]
  · rw [List.take_of_length_le (by omega), List.take_of_length_le (by omega), List.getElem?_eq_none (by omega)]; simp

theorem set_lt {zs : List Nat} {k v B : Nat} (h : ∀ z ∈ zs, z < B) (hv : v < B) : ∀ z ∈ zs.set k v, z < B := by
  intro z hz
  rcases List.mem_or_eq_of_mem_set hz with h1 | h1
  · exact h z h1
  · exact h1 ▸ hv

/-! Comparing from the top. -/
theorem val_cons' (xs : List Nat) : val xs = xs[0]?.getD 0 + 4294967296 * val xs.tail := by
  cases xs <;> simp [val]
theorem getD_tail (xs : List Nat) (i : Nat) : xs.tail[i]?.getD 0 = xs[i + 1]?.getD 0 := by
  cases xs <;> simp
theorem val_ext {n : Nat} {xs ys : List Nat} (hx : xs.length ≤ n) (hy : ys.length ≤ n) (h : ∀ j : Nat, xs[j]?.getD 0 = ys[j]?.getD 0) : val xs = val ys := by
  induction n generalizing xs ys with
  | zero =>
    have h1 : xs = [] := List.eq_nil_of_length_eq_zero (by omega)
    have h2 : ys = [] := List.eq_nil_of_length_eq_zero (by omega)
    rw [h1, h2]
  | succ n ih =>
    rw [val_cons' xs, val_cons' ys, h 0, ih (xs := xs.tail) (ys := ys.tail) (by simp; omega) (by simp; omega) (fun j => by rw [getD_tail, getD_tail, h])]
theorem val_lt_of_top {k : Nat} {xs ys : List Nat} (hx : ∀ x ∈ xs, x < 4294967296) (hy : ∀ y ∈ ys, y < 4294967296) (h : ∀ j : Nat, k < j → xs[j]?.getD 0 = ys[j]?.getD 0) (hk : xs[k]?.getD 0 < ys[k]?.getD 0) : val xs < val ys := by
  induction k generalizing xs ys with
  | zero =>
    rw [val_cons' xs, val_cons' ys, val_ext (n := xs.length + ys.length) (xs := xs.tail) (ys := ys.tail) (by simp; omega) (by simp; omega) (fun j => by rw [getD_tail, getD_tail, h _ (by omega)])]
    omega
  | succ k ih =>
    have := ih (xs := xs.tail) (ys := ys.tail) (fun x h => hx x (List.mem_of_mem_tail h)) (fun x h => hy x (List.mem_of_mem_tail h)) (fun j hj => by rw [getD_tail, getD_tail, h _ (by omega)]) (by rw [getD_tail, getD_tail]; exact hk)
    have h1 := getD_lt (k := 0) hx (by decide)
    rw [val_cons' xs, val_cons' ys]
    omega

def cmpI (a b : Nat) : Int := if a < b then -1 else if b < a then 1 else 0

/-! Adding: c is carried into place k. -/
structure AddInv (xs ys : List Nat) (k c : Nat) (zs : List Nat) : Prop where
  len : zs.length = xs.length
  lt : ∀ z ∈ zs, z < 4294967296
  car : c ≤ 1
  eq : val zs + 4294967296 ^ k * c = val xs + val (ys.take k)
theorem AddInv.start {xs ys : List Nat} (h : ∀ x ∈ xs, x < 4294967296) : AddInv xs ys 0 0 xs := ⟨rfl, h, by omega, by simp [val]⟩
theorem AddInv.next {xs ys zs : List Nat} {k c : Nat} (h : AddInv xs ys k c zs) (hy : ∀ y ∈ ys, y < 4294967296) (hk : k < xs.length) :
    AddInv xs ys (k + 1) ((c + ys[k]?.getD 0 + zs[k]?.getD 0) / 4294967296) (zs.set k ((c + ys[k]?.getD 0 + zs[k]?.getD 0) % 4294967296)) := by
  have hz := getD_lt (k := k) h.lt (by decide)
  have hyk := getD_lt (k := k) hy (by decide)
  have hc := h.car
  refine ⟨by simp [h.len], set_lt h.lt (by omega), by omega, ?_⟩
  have h1 := val_set ((c + ys[k]?.getD 0 + zs[k]?.getD 0) % 4294967296) (show k < zs.length by rw [h.len]; exact hk)
  have h2 := h.eq
  rw [val_take_succ, Nat.pow_succ, Nat.mul_assoc]
  generalize zs[k]?.getD 0 = z at *
  generalize ys[k]?.getD 0 = y at *
  have h3 : 4294967296 ^ k * ((c + y + z) % 4294967296) + 4294967296 ^ k * (4294967296 * ((c + y + z) / 4294967296)) = 4294967296 ^ k * c + 4294967296 ^ k * y + 4294967296 ^ k * z := by
    rw [← Nat.mul_add, ← Nat.mul_add, ← Nat.mul_add, Nat.mod_add_div]
  generalize 4294967296 ^ k = P at *
  omega
theorem carry_zero {z P c s : Nat} (h1 : z + P * (4294967296 * c) = s) (h2 : s < P + P) : c = 0 := by
  rcases Nat.eq_zero_or_pos c with hc | hc
  · exact hc
  · exfalso
    have h3 : P * 2 ≤ P * (4294967296 * c) := Nat.mul_le_mul_left _ (by omega)
    generalize P * (4294967296 * c) = R at *
    omega
theorem AddInv.done {la lb zs : List Nat} {c : Nat} (h : AddInv (la ++ [0]) lb (la.length + 1) c zs) (ha : ∀ x ∈ la, x < 4294967296) (hb : ∀ x ∈ lb, x < 4294967296) (hl : lb.length ≤ la.length) : val zs = val la + val lb := by
  have h1 : val zs + 4294967296 ^ la.length * (4294967296 * c) = val la + val lb := by
    have := h.eq
    rw [val_snoc_zero, List.take_of_length_le (by omega), Nat.pow_succ, Nat.mul_assoc] at this
    exact this
  have h2 := val_lt la ha
  have h3 := Nat.lt_of_lt_of_le (val_lt lb hb) (Nat.pow_le_pow_right (by decide) hl : 4294967296 ^ lb.length ≤ 4294967296 ^ la.length)
  have h5 : c = 0 := carry_zero h1 (Nat.add_lt_add h2 h3)
  rw [h5] at h1
  simpa using h1
theorem AddInv.broke {la lb zs : List Nat} {k : Nat} (h : AddInv (la ++ [0]) lb k 0 zs) (hk : lb.length ≤ k) : val zs = val la + val lb := by
  have h1 := h.eq
  rw [val_snoc_zero, List.take_of_length_le hk] at h1
  omega

/-! Taking away: c is borrowed from place k. -/
structure SubInv (xs ys : List Nat) (k c : Nat) (zs : List Nat) : Prop where
  len : zs.length = xs.length
  lt : ∀ z ∈ zs, z < 4294967296
  car : c ≤ 1
  eq : val zs + val (ys.take k) = val xs + 4294967296 ^ k * c
theorem SubInv.start {xs ys : List Nat} (h : ∀ x ∈ xs, x < 4294967296) : SubInv xs ys 0 0 xs := ⟨rfl, h, by omega, by simp [val]⟩
def subC (z t : Nat) : Nat := if z < t then 1 else 0
def subV (z t : Nat) : Nat := if z < t then 4294967296 + z - t else z - t
theorem SubInv.next {xs ys zs : List Nat} {k c : Nat} (h : SubInv xs ys k c zs) (hy : ∀ y ∈ ys, y < 4294967296) (hk : k < xs.length) :
    SubInv xs ys (k + 1) (subC (zs[k]?.getD 0) (c + ys[k]?.getD 0)) (zs.set k (subV (zs[k]?.getD 0) (c + ys[k]?.getD 0))) := by
  have hz := getD_lt (k := k) h.lt (by decide)
  have hyk := getD_lt (k := k) hy (by decide)
  have hc := h.car
  have hv : subV (zs[k]?.getD 0) (c + ys[k]?.getD 0) < 4294967296 := by unfold subV; split <;> omega
  refine ⟨by simp [h.len], set_lt h.lt hv, by unfold subC; split <;> omega, ?_⟩
  have h1 := val_set (subV (zs[k]?.getD 0) (c + ys[k]?.getD 0)) (show k < zs.length by rw [h.len]; exact hk)
  have h2 := h.eq
  rw [val_take_succ, Nat.pow_succ, Nat.mul_assoc]
  generalize zs[k]?.getD 0 = z at *
  generalize ys[k]?.getD 0 = y at *
  have h3 : 4294967296 ^ k * subV z (c + y) + 4294967296 ^ k * c + 4294967296 ^ k * y = 4294967296 ^ k * z + 4294967296 ^ k * (4294967296 * subC z (c + y)) := by
    rw [← Nat.mul_add, ← Nat.mul_add, ← Nat.mul_add]
    congr 1
    unfold subV subC
    split <;> omega
  generalize 4294967296 ^ k = P at *
  omega
theorem SubInv.done {la lb zs : List Nat} {k c : Nat} (h : SubInv la lb k c zs) (hk : lb.length ≤ k) (hk2 : la.length ≤ k ∨ c = 0) (hle : val lb ≤ val la) : val zs = val la - val lb := by
  have h1 := h.eq
  have h2 := val_lt zs h.lt
  rw [List.take_of_length_le hk] at h1
  rw [h.len] at h2
  have hc := h.car
  have h4 : la.length ≤ k → 4294967296 ^ la.length ≤ 4294967296 ^ k := fun h => Nat.pow_le_pow_right (by decide) h
  generalize 4294967296 ^ la.length = P at *
  generalize 4294967296 ^ k = Q at *
  have h5 : c = 0 := by
    rcases hk2 with hk2 | hk2
    · rcases Nat.eq_zero_or_pos c with hc | hc
      · exact hc
      · exfalso
        have h6 := h4 hk2
        have : Q * 1 ≤ Q * c := Nat.mul_le_mul_left _ hc
        generalize Q * c = R at *
        omega
    · exact hk2
  subst h5
  omega

/-! Multiplying: the row of x, at place i, up to place j; c is carried. -/
structure MulIn (zs0 ys : List Nat) (i x j c : Nat) (zs : List Nat) : Prop where
  len : zs.length = zs0.length
  lt : ∀ z ∈ zs, z < 4294967296
  car : c < 4294967296
  top : ∀ t, i + j ≤ t → zs[t]?.getD 0 = zs0[t]?.getD 0
  eq : val zs + 4294967296 ^ (i + j) * c = val zs0 + 4294967296 ^ i * (x * val (ys.take j))
theorem MulIn.start {zs0 ys : List Nat} {i x : Nat} (h : ∀ z ∈ zs0, z < 4294967296) : MulIn zs0 ys i x 0 0 zs0 := ⟨rfl, h, by omega, fun _ _ => rfl, by simp [val]⟩
theorem mul_bound {c x y z : Nat} (hc : c < 4294967296) (hx : x < 4294967296) (hy : y < 4294967296) (hz : z < 4294967296) : c + (x * y + z) < 18446744073709551616 := by
  have : x * y ≤ 4294967295 * 4294967295 := Nat.mul_le_mul (by omega) (by omega)
  omega
theorem MulIn.next {zs0 ys zs : List Nat} {i x j c : Nat} (h : MulIn zs0 ys i x j c zs) (hx : x < 4294967296) (hy : ∀ y ∈ ys, y < 4294967296) (hk : i + j < zs0.length) :
    MulIn zs0 ys i x (j + 1) ((c + (x * ys[j]?.getD 0 + zs[i + j]?.getD 0)) / 4294967296) (zs.set (i + j) ((c + (x * ys[j]?.getD 0 + zs[i + j]?.getD 0)) % 4294967296)) := by
  have hz := getD_lt (k := i + j) h.lt (by decide)
  have hyk := getD_lt (k := j) hy (by decide)
  have hb := mul_bound h.car hx hyk hz
  refine ⟨by simp [h.len], set_lt h.lt (by omega), by omega, fun t ht => ?_, ?_⟩
  · rw [List.getElem?_set_ne (by omega)]; exact h.top t (by omega)
  have h1 := val_set ((c + (x * ys[j]?.getD 0 + zs[i + j]?.getD 0)) % 4294967296) (show i + j < zs.length by rw [h.len]; exact hk)
  have h2 := h.eq
  have ej : i + (j + 1) = (i + j) + 1 := by omega
  rw [val_take_succ, ej, Nat.pow_succ, Nat.mul_assoc, Nat.mul_add, Nat.mul_add]
  have hxy : 4294967296 ^ i * (x * (4294967296 ^ j * ys[j]?.getD 0)) = 4294967296 ^ (i + j) * (x * ys[j]?.getD 0) := by
    rw [Nat.pow_add, Nat.mul_left_comm x, Nat.mul_assoc]
  rw [hxy]
  generalize x * ys[j]?.getD 0 = p at *
  generalize zs[i + j]?.getD 0 = z at *
  have h3 : 4294967296 ^ (i + j) * ((c + (p + z)) % 4294967296) + 4294967296 ^ (i + j) * (4294967296 * ((c + (p + z)) / 4294967296)) = 4294967296 ^ (i + j) * c + 4294967296 ^ (i + j) * p + 4294967296 ^ (i + j) * z := by
    rw [← Nat.mul_add, ← Nat.mul_add, ← Nat.mul_add, Nat.mod_add_div, Nat.add_assoc]
  generalize 4294967296 ^ (i + j) = P at *
  omega
structure MulOut (xs ys : List Nat) (i : Nat) (zs : List Nat) : Prop where
  len : zs.length = xs.length + ys.length
  lt : ∀ z ∈ zs, z < 4294967296
  top : ∀ t, i + ys.length ≤ t → zs[t]?.getD 0 = 0
  eq : val zs = val (xs.take i) * val ys
theorem val_replicate (n : Nat) : val (List.replicate n 0) = 0 := by
  induction n with
  | zero => rfl
  | succ n ih => simp [List.replicate_succ, val, ih]
theorem MulOut.start (xs ys : List Nat) : MulOut xs ys 0 (List.replicate (xs.length + ys.length) 0) :=
  ⟨by simp, by intro z hz; rw [List.eq_of_mem_replicate hz]; decide, fun t _ => by rw [List.getElem?_replicate]; split <;> rfl, by rw [val_replicate]; simp [val]⟩
theorem MulOut.next {xs ys zs0 zs : List Nat} {i c : Nat} (h0 : MulOut xs ys i zs0) (h : MulIn zs0 ys i (xs[i]?.getD 0) ys.length c zs) (hi : i < xs.length) :
    MulOut xs ys (i + 1) (zs.set (i + ys.length) c) := by
  have hk : i + ys.length < zs.length := by rw [h.len, h0.len]; omega
  refine ⟨by simp [h.len, h0.len], set_lt h.lt h.car, fun t ht => ?_, ?_⟩
  · rw [List.getElem?_set_ne (by omega), h.top t (by omega), h0.top t (by omega)]
  · have h1 := val_set c hk
    have h2 := h.eq
    rw [h.top _ (Nat.le_refl _), h0.top _ (Nat.le_refl _)] at h1
    rw [List.take_length, h0.eq] at h2
    rw [val_take_succ, Nat.add_mul, Nat.mul_assoc]
    generalize 4294967296 ^ (i + ys.length) = P at *
    generalize 4294967296 ^ i = Q at *
    omega

end Go.Proofs.YtegneoaoodddoaaDoor
