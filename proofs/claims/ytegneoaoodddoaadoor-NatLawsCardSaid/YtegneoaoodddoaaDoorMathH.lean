/-
  Division by long numbers: the plain law of the whole (long).
-/
import Derived.Test.YtegneoaoodddoaaDoorMathG
import Derived.Test.YtegneoaoodddoaaDoorMathF
namespace Go.Proofs.YtegneoaoodddoaaDoor
set_option linter.unusedVariables false

theorem lt_limbs_length {n k : Nat} (h : 4294967296 ^ k ≤ n) : k < (limbs n).length := by
  have h1 := val_lt (limbs n) (limbs_lt n)
  rw [val_limbs] at h1
  have h2 : 4294967296 ^ k < 4294967296 ^ (limbs n).length := Nat.lt_of_le_of_lt h h1
  exact (Nat.pow_lt_pow_iff_right (by decide)).1 h2

/-- A number by its highest limb. -/
theorem val_top1 {xs : List Nat} {n : Nat} (hl : xs.length = n + 1) : val xs = val (xs.take n) + 4294967296 ^ n * (xs[n]?.getD 0) := by
  have h1 := val_take_succ (xs := xs) (k := n)
  rwa [List.take_of_length_le (by omega)] at h1

/-- Shifted so that the highest bit of the highest limb is set. -/
structure Normed (b s n1 : Nat) : Prop where
  len : (limbs (b * 2 ^ s)).length = n1 + 1
  top : 2147483648 ≤ (limbs (b * 2 ^ s))[n1]?.getD 0
  big : 4294967296 ^ n1 * 2147483648 ≤ b * 2 ^ s

theorem normed {b n1 : Nat} (hl : (limbs b).length = n1 + 1) (ht : 0 < (limbs b)[n1]?.getD 0) : Normed b (32 - blen ((limbs b)[n1]?.getD 0)) n1 ∧ blen ((limbs b)[n1]?.getD 0) ≤ 32 ∧ 0 < blen ((limbs b)[n1]?.getD 0) := by
  have hb := val_top1 hl
  rw [val_limbs] at hb
  have hlow := val_take_lt (limbs_lt b) (show n1 ≤ (limbs b).length by omega)
  have hT := getD_lt (k := n1) (limbs_lt b) (by decide)
  generalize (limbs b)[n1]?.getD 0 = T at *
  have h32 : blen T ≤ 32 := blen_le (by rw [show (2 : Nat) ^ 32 = 4294967296 by decide]; exact hT)
  have hpos : 0 < blen T := by rw [blen_pos ht]; exact Nat.succ_pos _
  have h1 := lt_two_blen T
  have h2 := two_blen_le ht
  generalize hs : 32 - blen T = s
  have hup : 2 ^ blen T * 2 ^ s = 4294967296 := by
    rw [← Nat.pow_add, show blen T + s = 32 by omega]
  have hlo : 2 ^ (blen T - 1) * 2 ^ s = 2147483648 := by
    rw [← Nat.pow_add, show blen T - 1 + s = 31 by omega]
  have hbig : 4294967296 ^ n1 * 2147483648 ≤ b * 2 ^ s := by
    rw [hb, Nat.add_mul, Nat.mul_assoc]
    have : 2147483648 ≤ T * 2 ^ s := by rw [← hlo]; exact Nat.mul_le_mul_right _ h2
    have := Nat.mul_le_mul_left (4294967296 ^ n1) this
    omega
  have hlt : b * 2 ^ s < 4294967296 ^ (n1 + 1) := by
    have h3 : b < 4294967296 ^ n1 * 2 ^ blen T := by
      have : 4294967296 ^ n1 * (T + 1) ≤ 4294967296 ^ n1 * 2 ^ blen T := Nat.mul_le_mul_left _ h1
      rw [Nat.mul_add, Nat.mul_one] at this
      omega
    have h4 := Nat.mul_lt_mul_of_pos_right h3 (Nat.two_pow_pos s)
    rwa [Nat.mul_assoc, hup, ← Nat.pow_succ] at h4
  have hlen : (limbs (b * 2 ^ s)).length = n1 + 1 := by
    have a1 := limbs_length_le hlt
    have a2 := lt_limbs_length (n := b * 2 ^ s) (k := n1) (Nat.le_trans (Nat.le_mul_of_pos_right _ (by decide)) hbig)
    omega
  refine ⟨⟨hlen, ?_, hbig⟩, h32, hpos⟩
  have h5 := val_top1 hlen
  rw [val_limbs] at h5
  have h6 := val_take_lt (limbs_lt (b * 2 ^ s)) (show n1 ≤ (limbs (b * 2 ^ s)).length by omega)
  rcases Nat.lt_or_ge ((limbs (b * 2 ^ s))[n1]?.getD 0) 2147483648 with h7 | h7
  · exfalso
    have h8 : 4294967296 ^ n1 * ((limbs (b * 2 ^ s))[n1]?.getD 0 + 1) ≤ 4294967296 ^ n1 * 2147483648 := Nat.mul_le_mul_left _ h7
    rw [Nat.mul_add, Nat.mul_one] at h8
    omega
  · exact h7

/-- Between two digits: j digits are still to come. -/
structure LongInv (V N n : Nat) (j : Nat) (us qs : List Nat) : Prop where
  eq : N = val us + V * val qs
  less : val (us.drop j) < V
  ult : ∀ x ∈ us, x < 4294967296
  qlt : ∀ x ∈ qs, x < 4294967296
  zero : ∀ i, i < j → qs[i]?.getD 0 = 0

theorem val_part (us : List Nat) (j : Nat) (h : j ≤ us.length) : val us = val (us.take j) + 4294967296 ^ j * val (us.drop j) := by
  have := val_append (us.take j) (us.drop j)
  rwa [List.take_append_drop, List.length_take, Nat.min_eq_left h] at this

theorem LongInv.start {V N n1 s a L : Nat} {us : List Nat} (hN : val us = N) (hult : ∀ x ∈ us, x < 4294967296) (hL : us.length = L) (hn : n1 + 1 ≤ L) (hV : 4294967296 ^ n1 * 2147483648 ≤ V) (hs : s ≤ 31) (ha : a < 4294967296 ^ (L - 1)) (hNa : N = a * 2 ^ s) :
    LongInv V N (n1 + 1) (L - (n1 + 1)) us (List.replicate (L - (n1 + 1)) 0) := by
  refine ⟨by rw [val_replicate]; omega, ?_, hult, fun x hx => by rw [(List.mem_replicate.1 hx).2]; decide, fun i hi => by simp [hi]⟩
  have h1 := val_part us (L - (n1 + 1)) (by omega)
  have h2 : 4294967296 ^ (L - (n1 + 1)) * val (us.drop (L - (n1 + 1))) ≤ N := by omega
  have h3 : N < 4294967296 ^ (L - (n1 + 1)) * (4294967296 ^ n1 * 2147483648) := by
    rw [← Nat.mul_assoc, ← Nat.pow_add, show L - (n1 + 1) + n1 = L - 1 by omega, hNa]
    have h4 : (2 : Nat) ^ s ≤ 2147483648 := by
      have := Nat.pow_le_pow_right (n := 2) (by decide) hs
      rwa [show (2 : Nat) ^ 31 = 2147483648 by decide] at this
    exact Nat.lt_of_lt_of_le (Nat.mul_lt_mul_of_pos_right ha (Nat.two_pow_pos s)) (Nat.mul_le_mul_left _ h4)
  have h5 := Nat.lt_of_mul_lt_mul_left (Nat.lt_of_le_of_lt h2 h3)
  omega

/-- What step is given. -/
theorem LongInv.guess {V N n1 n2 j : Nat} {us qs vs : List Nat} (h : LongInv V N (n1 + 1) (j + 1) us qs) (hn : n1 = n2 + 1) (hV : val vs = V) (hvl : vs.length = n1 + 1) (hvlt : ∀ x ∈ vs, x < 4294967296) (htop : 2147483648 ≤ vs[n1]?.getD 0) (hL : j + (n1 + 1) < us.length) :
    GuessIn ((us.drop j).take (n1 + 2)) vs n2 ∧ val (us.drop (j + (n1 + 2))) = 0 := by
  subst hn
  have hlen : ((us.drop j).take (n2 + 1 + 2)).length = n2 + 3 := by simp; omega
  have hz : val (us.drop (j + (n2 + 1 + 2))) = 0 := by
    have h1 := val_part (us.drop (j + 1)) (n2 + 2) (by simp; omega)
    rw [List.drop_drop] at h1
    have h2 := val_lt vs hvlt
    rw [hvl, hV] at h2
    have h3 := h.less
    rw [show j + 1 + (n2 + 2) = j + (n2 + 1 + 2) by omega] at h1
    rcases Nat.eq_zero_or_pos (val (us.drop (j + (n2 + 1 + 2)))) with h4 | h4
    · exact h4
    · exfalso
      have h5 : 4294967296 ^ (n2 + 2) * 1 ≤ 4294967296 ^ (n2 + 2) * val (us.drop (j + (n2 + 1 + 2))) := Nat.mul_le_mul_left _ h4
      rw [show n2 + 1 + 1 = n2 + 2 by rfl] at h2
      omega
  refine ⟨⟨hlen, by rw [hvl], fun x hx => h.ult x (List.mem_of_mem_drop (List.mem_of_mem_take hx)), hvlt, htop, ?_⟩, hz⟩
  have h1 := val_part (us.drop j) (n2 + 3) (by simp; omega)
  rw [List.drop_drop, show j + (n2 + 3) = j + (n2 + 1 + 2) by omega, hz, Nat.mul_zero, Nat.add_zero] at h1
  have h2 := val_part (us.drop j) 1 (by simp; omega)
  rw [List.drop_drop, Nat.pow_one] at h2
  have h3 := val_take_lt (k := 1) (xs := us.drop j) (fun x hx => h.ult x (List.mem_of_mem_drop hx)) (by simp; omega)
  rw [Nat.pow_one] at h3
  have h4 := h.less
  rw [show n2 + 1 + 2 = n2 + 3 by rfl, ← h1, h2, hV]
  omega

/-- A digit more. -/
theorem LongInv.next {V N n1 j : Nat} {us qs ws : List Nat} (h : LongInv V N (n1 + 1) (j + 1) us qs) (hV : 0 < V) (hL : j + (n1 + 1) < us.length) (hj : j < qs.length) (hz : val (us.drop (j + (n1 + 2))) = 0)
    (hwl : ws.length = n1 + 2) (hwlt : ∀ x ∈ ws, x < 4294967296) (hw : val ws = val ((us.drop j).take (n1 + 2)) % V) (hQ : val ((us.drop j).take (n1 + 2)) / V < 4294967296) :
    LongInv V N (n1 + 1) j (us.take j ++ ws ++ us.drop (j + (n1 + 2))) (qs.set j (val ((us.drop j).take (n1 + 2)) / V)) := by
  have hjl : j ≤ us.length := by omega
  have e1 : val us = val (us.take j) + 4294967296 ^ j * val ((us.drop j).take (n1 + 2)) := by
    have h1 := val_part us j hjl
    have h2 := val_part (us.drop j) (n1 + 2) (by simp; omega)
    rw [List.drop_drop, hz, Nat.mul_zero, Nat.add_zero] at h2
    rw [h2] at h1
    exact h1
  have hU := Nat.div_add_mod (val ((us.drop j).take (n1 + 2))) V
  rw [← hw] at hU
  generalize hQe : val ((us.drop j).take (n1 + 2)) / V = Q at *
  generalize val ((us.drop j).take (n1 + 2)) = U at *
  have hl1 : (us.take j).length = j := by rw [List.length_take, Nat.min_eq_left hjl]
  refine ⟨?_, ?_, ?_, set_lt h.qlt hQ, ?_⟩
  · have h3 := val_set Q hj
    rw [h.zero j (by omega), Nat.mul_zero, Nat.add_zero] at h3
    rw [val_append, val_append, hz, Nat.mul_zero, Nat.add_zero, hl1, h3, h.eq, e1, ← hU]
    simp only [Nat.mul_add, Nat.mul_left_comm V]
    omega
  · rw [List.append_assoc, List.drop_append_of_le_length (by omega), List.drop_of_length_le (by omega), List.nil_append, val_append, hz, Nat.mul_zero, Nat.add_zero, hw]
    exact Nat.mod_lt _ hV
  · intro x hx
    simp only [List.mem_append] at hx
    rcases hx with (hx | hx) | hx
    · exact h.ult x (List.mem_of_mem_take hx)
    · exact hwlt x hx
    · exact h.ult x (List.mem_of_mem_drop hx)
  · intro i hi
    rw [List.getElem?_set_ne (by omega)]
    exact h.zero i (by omega)

theorem LongInv.done {V N n : Nat} {us qs : List Nat} (h : LongInv V N n 0 us qs) : val qs = N / V ∧ val us = N % V := by
  have h1 := h.eq
  have h2 := h.less
  rw [List.drop_zero] at h2
  have hV : 0 < V := by omega
  refine ⟨?_, ?_⟩
  · rw [h1, Nat.add_mul_div_left _ _ hV, Nat.div_eq_of_lt h2, Nat.zero_add]
  · rw [h1, Nat.add_mul_mod_self_left, Nat.mod_eq_of_lt h2]
end Go.Proofs.YtegneoaoodddoaaDoor
