/-
  Division by long numbers: the plain law of a digit (guess, step).
-/
import Derived.Test.YtegneoaoodddoaaDoorMathD
namespace Go.Proofs.YtegneoaoodddoaaDoor
set_option linter.unusedVariables false

/-! A digit of a quotient, guessed by the highest limbs. -/

theorem digit_top {P Q V V' U X lv lu : Nat} (hP : 0 < P) (hV : V = lv + P * V') (hU : U = lu + P * X) (hu : lu < P) (hQ : Q * V ≤ U) : Q * V' ≤ X := by
  have h1 : P * (Q * V') ≤ Q * V := by
    rw [hV, Nat.mul_add, Nat.mul_left_comm]
    exact Nat.le_add_left _ _
  have h2 : P * (Q * V') < P * (X + 1) := by
    rw [Nat.mul_add, Nat.mul_one]; omega
  have := Nat.lt_of_mul_lt_mul_left h2
  omega

theorem digit_low {P q V V' U X lv lu : Nat} (hV : V = lv + P * V') (hU : U = lu + P * X) (hv : lv < P) (hq : q * V' ≤ X) (hqV : q ≤ V' + 1) (h0 : 0 < q) : (q - 1) * V ≤ U := by
  obtain ⟨m, rfl⟩ : ∃ m, q = m + 1 := ⟨q - 1, by omega⟩
  rw [Nat.add_sub_cancel]
  have h1 : m * V ≤ P * (m * V' + m) := by
    rw [hV, Nat.mul_add, Nat.mul_add, Nat.mul_left_comm m P V', Nat.mul_comm P m]
    have := Nat.mul_le_mul_left m (Nat.le_of_lt hv)
    omega
  have h2 : m * V' + m ≤ X := by
    have e : (m + 1) * V' = m * V' + V' := by rw [Nat.add_mul, Nat.one_mul]
    rw [e] at hq
    omega
  have h3 := Nat.mul_le_mul_left P h2
  omega

/-- The highest two limbs, and three. -/
theorem val_top2 {vs : List Nat} {n : Nat} (hl : vs.length = n + 2) : val vs = val (vs.take n) + 4294967296 ^ n * (vs[n]?.getD 0 + 4294967296 * (vs[n + 1]?.getD 0)) := by
  have h1 := val_take_succ (xs := vs) (k := n + 1)
  rw [show n + 1 + 1 = n + 2 by rfl, List.take_of_length_le (by omega), val_take_succ, Nat.pow_succ, Nat.mul_assoc] at h1
  rw [h1, Nat.mul_add, Nat.add_assoc]
theorem val_top3 {us : List Nat} {n : Nat} (hl : us.length = n + 3) : val us = val (us.take n) + 4294967296 ^ n * (us[n]?.getD 0 + 4294967296 * (us[n + 1]?.getD 0 + 4294967296 * (us[n + 2]?.getD 0))) := by
  have h1 := val_take_succ (xs := us) (k := n + 2)
  rw [show n + 2 + 1 = n + 3 by rfl, List.take_of_length_le (by omega), show n + 2 = n + 1 + 1 by rfl, val_take_succ, val_take_succ] at h1
  rw [h1, show n + 2 = n + 1 + 1 by rfl]
  generalize us[n]?.getD 0 = a
  generalize us[n + 1]?.getD 0 = b
  generalize us[n + 1 + 1]?.getD 0 = c
  simp only [Nat.pow_succ, Nat.mul_add, Nat.mul_assoc, Nat.add_assoc]
theorem val_take_lt {xs : List Nat} {k : Nat} (h : ∀ x ∈ xs, x < 4294967296) (hk : k ≤ xs.length) : val (xs.take k) < 4294967296 ^ k := by
  have := val_lt (xs.take k) (fun x hx => h x (List.mem_of_mem_take hx))
  rwa [List.length_take, Nat.min_eq_left hk] at this

/-- What guess makes sure of. -/
structure GuessIn (us vs : List Nat) (n : Nat) : Prop where
  ul : us.length = n + 3
  vl : vs.length = n + 2
  ult : ∀ x ∈ us, x < 4294967296
  vlt : ∀ x ∈ vs, x < 4294967296
  top : 2147483648 ≤ vs[n + 1]?.getD 0
  less : val us < 4294967296 * val vs

def gTwo (us : List Nat) (n : Nat) : Nat := us[n + 1]?.getD 0 + 4294967296 * (us[n + 2]?.getD 0)


/-- The quotient is not above a guess that the two highest limbs do not forbid. -/
theorem GuessIn.forbid {us vs : List Nat} {n q r : Nat} (h : GuessIn us vs n) (ht : gTwo us n = q * (vs[n + 1]?.getD 0) + r) (hc : r * 4294967296 + us[n]?.getD 0 < q * (vs[n]?.getD 0)) : val us / val vs < q := by
  rcases Nat.lt_or_ge (val us / val vs) q with h1 | h1
  · exact h1
  · exfalso
    have h2 := digit_top (P := 4294967296 ^ n) (Nat.pow_pos (by decide)) (val_top2 h.vl) (val_top3 h.ul) (val_take_lt h.ult (by rw [h.ul]; omega)) (Q := q) (Nat.le_trans (Nat.mul_le_mul_right _ h1) (Nat.div_mul_le_self _ _))
    unfold gTwo at ht
    rw [ht, Nat.mul_add, Nat.mul_add] at h2
    rw [Nat.mul_left_comm q 4294967296] at h2
    omega

/-- A guess that they allow is at most one more. -/
theorem GuessIn.allow {us vs : List Nat} {n q r : Nat} (h : GuessIn us vs n) (ht : gTwo us n = q * (vs[n + 1]?.getD 0) + r) (hc : q * (vs[n]?.getD 0) ≤ r * 4294967296 + us[n]?.getD 0) (hq : q < 4294967296) : q ≤ val us / val vs + 1 := by
  rcases Nat.eq_zero_or_pos q with h0 | h0
  · rw [h0]; exact Nat.zero_le _
  · have htop := h.top
    have h1 : q * (vs[n]?.getD 0 + 4294967296 * (vs[n + 1]?.getD 0)) ≤ us[n]?.getD 0 + 4294967296 * (us[n + 1]?.getD 0 + 4294967296 * (us[n + 2]?.getD 0)) := by
      unfold gTwo at ht
      rw [ht, Nat.mul_add, Nat.mul_add, Nat.mul_left_comm q 4294967296]
      omega
    have h2 := digit_low (P := 4294967296 ^ n) (val_top2 h.vl) (val_top3 h.ul) (val_take_lt h.vlt (by rw [h.vl]; omega)) h1 (by omega) h0
    have hV : 0 < val vs := by
      rw [val_top2 h.vl]
      have : 0 < 4294967296 ^ n * (vs[n]?.getD 0 + 4294967296 * (vs[n + 1]?.getD 0)) := Nat.mul_pos (Nat.pow_pos (by decide)) (by omega)
      omega
    have := (Nat.le_div_iff_mul_le hV).2 h2
    omega

theorem GuessIn.pos {us vs : List Nat} {n : Nat} (h : GuessIn us vs n) : 0 < val vs := by
  have htop := h.top
  rw [val_top2 h.vl]
  have : 0 < 4294967296 ^ n * (vs[n]?.getD 0 + 4294967296 * (vs[n + 1]?.getD 0)) := Nat.mul_pos (Nat.pow_pos (by decide)) (by omega)
  omega
theorem GuessIn.lt {us vs : List Nat} {n : Nat} (h : GuessIn us vs n) : val us / val vs < 4294967296 := by
  rw [Nat.div_lt_iff_lt_mul h.pos]
  exact h.less
/-- The first guess is not below. -/
theorem GuessIn.first {us vs : List Nat} {n : Nat} (h : GuessIn us vs n) : val us / val vs ≤ gTwo us n / (vs[n + 1]?.getD 0) := by
  have htop := h.top
  have h2 := digit_top (P := 4294967296 ^ n) (Nat.pow_pos (by decide)) (val_top2 h.vl) (val_top3 h.ul) (val_take_lt h.ult (by rw [h.ul]; omega)) (Q := val us / val vs) (Nat.div_mul_le_self _ _)
  rw [Nat.le_div_iff_mul_le (by omega)]
  unfold gTwo
  generalize val us / val vs = Q at *
  rw [Nat.mul_add, Nat.mul_left_comm Q 4294967296] at h2
  have hu := getD_lt (k := n) h.ult (by decide)
  generalize us[n + 1]?.getD 0 + 4294967296 * (us[n + 2]?.getD 0) = T at *
  omega
/-- The highest limbs: the first guess is at most one above a limb. -/
theorem GuessIn.two {us vs : List Nat} {n : Nat} (h : GuessIn us vs n) : us[n + 2]?.getD 0 ≤ vs[n + 1]?.getD 0 := by
  rcases Nat.lt_or_ge (vs[n + 1]?.getD 0) (us[n + 2]?.getD 0) with h1 | h1
  · exfalso
    have hl := h.less
    rw [val_top2 h.vl, val_top3 h.ul] at hl
    have hv := val_take_lt h.vlt (show n ≤ vs.length by rw [h.vl]; omega)
    have hv2 := getD_lt (k := n) h.vlt (by decide)
    have e : 4294967296 * (val (vs.take n) + 4294967296 ^ n * (vs[n]?.getD 0 + 4294967296 * (vs[n + 1]?.getD 0))) < 4294967296 ^ n * (4294967296 * (4294967296 * (us[n + 2]?.getD 0))) := by
      have h3 : val (vs.take n) + 4294967296 ^ n * (vs[n]?.getD 0 + 4294967296 * (vs[n + 1]?.getD 0)) < 4294967296 ^ n * (4294967296 * (us[n + 2]?.getD 0)) := by
        have h4 : 4294967296 ^ n * (1 + (vs[n]?.getD 0 + 4294967296 * (vs[n + 1]?.getD 0))) ≤ 4294967296 ^ n * (4294967296 * (us[n + 2]?.getD 0)) := Nat.mul_le_mul_left _ (by omega)
        rw [Nat.mul_add, Nat.mul_one] at h4
        omega
      rw [Nat.mul_left_comm (4294967296 ^ n) 4294967296]
      exact Nat.mul_lt_mul_of_pos_left h3 (by decide)
    have h5 : 4294967296 ^ n * (4294967296 * (4294967296 * (us[n + 2]?.getD 0))) ≤ 4294967296 ^ n * (us[n]?.getD 0 + 4294967296 * (us[n + 1]?.getD 0 + 4294967296 * (us[n + 2]?.getD 0))) := Nat.mul_le_mul_left _ (by omega)
    omega
  · exact h1

/-! A digit's multiple taken away. -/
def msV (z t b : Nat) : Nat := (z + 8589934592 - t % 4294967296 - b) % 4294967296
def msB (z t b : Nat) : Nat := if z < t % 4294967296 + b then 1 else 0
theorem ms_eq {z t b : Nat} (hz : z < 4294967296) (hb : b ≤ 1) : msV z t b + t % 4294967296 + b = z + 4294967296 * msB z t b := by
  unfold msV msB
  split <;> omega

structure MsInv (xs ys : List Nat) (q k c b : Nat) (zs : List Nat) : Prop where
  len : zs.length = xs.length
  lt : ∀ z ∈ zs, z < 4294967296
  car : c ≤ q
  bor : b ≤ 1
  fin : ys.length < k → c = 0
  eq : val zs + q * val (ys.take k) = val xs + 4294967296 ^ k * (c + b)
theorem MsInv.start {xs ys : List Nat} {q : Nat} (h : ∀ x ∈ xs, x < 4294967296) : MsInv xs ys q 0 0 0 xs := ⟨rfl, h, by omega, by omega, fun _ => rfl, by simp [val]⟩
theorem MsInv.next {xs ys zs : List Nat} {q k c b : Nat} (h : MsInv xs ys q k c b zs) (hy : ∀ y ∈ ys, y < 4294967296) (hk : k < xs.length) (hq : q < 4294967296) :
    MsInv xs ys q (k + 1) ((c + q * (ys[k]?.getD 0)) / 4294967296) (msB (zs[k]?.getD 0) (c + q * (ys[k]?.getD 0)) b) (zs.set k (msV (zs[k]?.getD 0) (c + q * (ys[k]?.getD 0)) b)) := by
  have hz := getD_lt (k := k) h.lt (by decide)
  have hyk := getD_lt (k := k) hy (by decide)
  have hc := h.car
  have hb := h.bor
  have hqy : q * (ys[k]?.getD 0) ≤ q * 4294967295 := Nat.mul_le_mul_left _ (by omega)
  refine ⟨by simp [h.len], set_lt h.lt (Nat.mod_lt _ (by decide)), by omega, by unfold msB; split <;> omega, ?_, ?_⟩
  · intro hlt
    have : ys[k]?.getD 0 = 0 := by rw [List.getElem?_eq_none (by omega)]; rfl
    rw [this]; omega
  · have h1 := val_set (msV (zs[k]?.getD 0) (c + q * (ys[k]?.getD 0)) b) (show k < zs.length by rw [h.len]; exact hk)
    have h2 := h.eq
    have h4 := ms_eq (t := c + q * (ys[k]?.getD 0)) hz hb
    rw [val_take_succ, Nat.pow_succ, Nat.mul_assoc, Nat.mul_add, Nat.mul_left_comm q]
    generalize zs[k]?.getD 0 = z at *
    generalize q * (ys[k]?.getD 0) = y at *
    generalize msV z (c + y) b = m at *
    generalize msB z (c + y) b = b' at *
    have h5 : 4294967296 ^ k * (m + (c + y) % 4294967296 + b) = 4294967296 ^ k * (z + 4294967296 * b') := by rw [h4]
    have h3 : 4294967296 ^ k * ((c + y) % 4294967296) + 4294967296 ^ k * (4294967296 * ((c + y) / 4294967296)) = 4294967296 ^ k * c + 4294967296 ^ k * y := by
      rw [← Nat.mul_add, ← Nat.mul_add, Nat.mod_add_div]
    rw [Nat.mul_add, Nat.mul_add, Nat.mul_add] at h5
    rw [Nat.mul_add] at h2
    rw [Nat.mul_add 4294967296, Nat.mul_add]
    generalize 4294967296 ^ k = P at *
    omega

/-- No borrow: the guess was the digit. -/
theorem MsInv.right {xs ys zs : List Nat} {q c : Nat} (h : MsInv xs ys q xs.length c 0 zs) (hl : ys.length < xs.length) (hq : val xs / val ys ≤ q) (hp : 0 < val ys) : q = val xs / val ys ∧ val zs = val xs % val ys := by
  have h1 := h.eq
  rw [h.fin hl, List.take_of_length_le (by omega)] at h1
  have h2 : q * val ys ≤ val xs := by omega
  have h3 : q = val xs / val ys := Nat.le_antisymm ((Nat.le_div_iff_mul_le hp).2 h2) hq
  refine ⟨h3, ?_⟩
  have h4 := Nat.div_add_mod (val xs) (val ys)
  rw [← h3, Nat.mul_comm] at h4
  omega
/-- A borrow: the guess was one more; added back once. -/
theorem MsInv.more {xs ys zs ws : List Nat} {q c k : Nat} (h : MsInv xs ys q xs.length c 1 zs) (ha : AddInv zs ys xs.length k ws) (hl : ys.length < xs.length) (hq : q ≤ val xs / val ys + 1) (hp : 0 < val ys) (hy : ∀ y ∈ ys, y < 4294967296) :
    q = val xs / val ys + 1 ∧ val ws = val xs % val ys := by
  have h1 := h.eq
  rw [h.fin hl, List.take_of_length_le (by omega)] at h1
  have hz := val_lt zs h.lt
  rw [h.len] at hz
  have h2 : val xs < q * val ys := by omega
  have h3 : q = val xs / val ys + 1 := by
    have : val xs / val ys < q := (Nat.div_lt_iff_lt_mul hp).2 h2
    omega
  refine ⟨h3, ?_⟩
  have h4 := Nat.div_add_mod (val xs) (val ys)
  have h5 : q * val ys = val ys * (val xs / val ys) + val ys := by rw [h3, Nat.mul_comm, Nat.mul_add, Nat.mul_one]
  have h6 := ha.eq
  rw [List.take_of_length_le (by omega)] at h6
  have h7 := Nat.mod_lt (val xs) hp
  have h8 : val ys < 4294967296 ^ xs.length := Nat.lt_of_lt_of_le (val_lt ys hy) (Nat.pow_le_pow_right (by decide) (by omega))
  have hw := val_lt ws ha.lt
  rw [ha.len, h.len] at hw
  have hcar := ha.car
  rcases (by omega : k = 0 ∨ k = 1) with rfl | rfl
  · omega
  · omega
end Go.Proofs.YtegneoaoodddoaaDoor
