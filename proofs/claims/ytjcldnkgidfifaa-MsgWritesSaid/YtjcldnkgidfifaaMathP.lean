/-
  Plain facts on protocol buffers: numbers of seven bits a byte, fields, messages. No program is in sight here.
-/
namespace Go.Proofs.Ytjcldnkgidfifaa
set_option linter.unusedVariables false
set_option linter.unusedSimpArgs false

/-- A number in bytes of seven bits, the lowest first. -/
def vbytes (n : Nat) : List UInt8 := if n < 128 then [UInt8.ofNat n] else UInt8.ofNat (n % 128 + 128) :: vbytes (n / 128)
decreasing_by omega
theorem vbytes_lt {n : Nat} (h : n < 128) : vbytes n = [UInt8.ofNat n] := by rw [vbytes, if_pos h]
theorem vbytes_ge {n : Nat} (h : 128 ≤ n) : vbytes n = UInt8.ofNat (n % 128 + 128) :: vbytes (n / 128) := by rw [vbytes, if_neg (by omega)]
theorem vbytes_pos (n : Nat) : 1 ≤ (vbytes n).length := by
  by_cases h : n < 128
  · rw [vbytes_lt h]; simp
  · rw [vbytes_ge (by omega)]; simp
theorem vbytes_len {n k : Nat} (h : n < 128 ^ k) (hk : 1 ≤ k) : (vbytes n).length ≤ k := by
  induction k generalizing n with
  | zero => omega
  | succ k ih =>
    by_cases h1 : n < 128
    · rw [vbytes_lt h1]; simp
    · rw [vbytes_ge (by omega)]
      have hk2 : 1 ≤ k := by
        rcases Nat.eq_zero_or_pos k with h2 | h2
        · subst h2; simp at h; omega
        · exact h2
      have := ih (n := n / 128) (by rw [Nat.div_lt_iff_lt_mul (by decide)]; rw [Nat.pow_succ] at h; exact h) hk2
      simp; omega
theorem vbytes_ten {n : Nat} (h : n < 18446744073709551616) : (vbytes n).length ≤ 10 := vbytes_len (k := 10) (Nat.lt_of_lt_of_le h (by decide)) (by decide)

/-- Reading a number: from the i-th byte on, acc is read already. -/
def getV : Nat → Nat → List UInt8 → Option (Nat × Nat)
  | _, _, [] => none
  | i, acc, c :: r => if 10 ≤ i then none else if i = 9 ∧ 1 < c.toNat then none else if c.toNat < 128 then some (acc + c.toNat % 128 * 128 ^ i, i + 1) else getV (i + 1) (acc + c.toNat % 128 * 128 ^ i) r
theorem getV_put : ∀ (n i acc : Nat) (r : List UInt8), i ≤ 9 → n < 2 ^ (64 - 7 * i) → getV i acc (vbytes n ++ r) = some (acc + n * 128 ^ i, i + (vbytes n).length) := by
  intro n
  induction n using Nat.strongRecOn with
  | _ n ih =>
    intro i acc r hi hn
    by_cases h1 : n < 128
    · rw [vbytes_lt h1]
      have hc : (UInt8.ofNat n).toNat = n := by simp; omega
      have h9 : ¬ (i = 9 ∧ 1 < n) := fun h => by
        obtain ⟨rfl, h2⟩ := h
        simp at hn; omega
      simp only [List.cons_append, List.nil_append, getV, hc]
      rw [if_neg (by omega), if_neg h9, if_pos h1, Nat.mod_eq_of_lt h1]
      rfl
    · rw [vbytes_ge (by omega)]
      have hc : (UInt8.ofNat (n % 128 + 128)).toNat = n % 128 + 128 := by simp; omega
      have hi8 : i ≤ 8 := by
        rcases Nat.lt_or_ge 8 i with h | h
        · have : i = 9 := by omega
          subst this; simp at hn; omega
        · exact h
      simp only [List.cons_append, getV, hc]
      rw [if_neg (by omega), if_neg (by omega), if_neg (by omega)]
      have e : 2 ^ (64 - 7 * i) = 2 ^ (64 - 7 * (i + 1)) * 128 := by
        rw [show 64 - 7 * i = 64 - 7 * (i + 1) + 7 by omega, Nat.pow_add]
      have h2 : n / 128 < 2 ^ (64 - 7 * (i + 1)) := by rw [Nat.div_lt_iff_lt_mul (by decide)]; rwa [e] at hn
      rw [ih (n / 128) (by omega) (i + 1) _ r (by omega) h2]
      have e2 : (n % 128 + 128) % 128 = n % 128 := by omega
      have e3 : n % 128 * 128 ^ i + n / 128 * 128 ^ (i + 1) = n * 128 ^ i := by
        rw [Nat.pow_succ, show n / 128 * (128 ^ i * 128) = 128 * (n / 128) * 128 ^ i by rw [Nat.mul_comm (128 ^ i) 128, ← Nat.mul_assoc, Nat.mul_comm (n / 128) 128], ← Nat.add_mul]
        congr 1; omega
      rw [e2, Nat.add_assoc, e3]
      simp; omega
theorem getV_lim : ∀ (l : List UInt8) (i acc v k : Nat), acc < 128 ^ i → getV i acc l = some (v, k) → v < 18446744073709551616 ∧ i < k ∧ k ≤ i + l.length ∧ k ≤ 10 := by
  intro l
  induction l with
  | nil => intro i acc v k _ h; simp [getV] at h
  | cons c r ih =>
    intro i acc v k ha h
    simp only [getV] at h
    by_cases h1 : 10 ≤ i
    · rw [if_pos h1] at h; cases h
    rw [if_neg h1] at h
    by_cases h2 : i = 9 ∧ 1 < c.toNat
    · rw [if_pos h2] at h; cases h
    rw [if_neg h2] at h
    have hp : 0 < 128 ^ i := Nat.pow_pos (by decide)
    have hm : c.toNat % 128 < 128 := Nat.mod_lt _ (by decide)
    have hstep : acc + c.toNat % 128 * 128 ^ i < 128 ^ (i + 1) := by
      have : c.toNat % 128 * 128 ^ i ≤ 127 * 128 ^ i := Nat.mul_le_mul_right _ (by omega)
      rw [Nat.pow_succ]; omega
    by_cases h3 : c.toNat < 128
    · rw [if_pos h3] at h
      simp only [Option.some.injEq, Prod.mk.injEq] at h
      obtain ⟨rfl, rfl⟩ := h
      refine ⟨?_, by omega, by simp, by omega⟩
      by_cases h9 : i = 9
      · subst h9
        have hc : c.toNat % 128 ≤ 1 := by omega
        have : c.toNat % 128 * 128 ^ 9 ≤ 1 * 128 ^ 9 := Nat.mul_le_mul_right _ hc
        have e : (128 : Nat) ^ 9 = 9223372036854775808 := by decide
        omega
      · have : 128 ^ (i + 1) ≤ 128 ^ 9 := Nat.pow_le_pow_right (by decide) (by omega)
        have e : (128 : Nat) ^ 9 = 9223372036854775808 := by decide
        omega
    · rw [if_neg h3] at h
      obtain ⟨a, b, d, f⟩ := ih _ _ _ _ hstep h
      exact ⟨a, by omega, by simp; omega, f⟩

/-- A number in so many bytes, the lowest first. -/
def littleB : Nat → Nat → List UInt8
  | 0, _ => []
  | k + 1, n => UInt8.ofNat (n % 256) :: littleB k (n / 256)
theorem littleB_len (k n : Nat) : (littleB k n).length = k := by
  induction k generalizing n with
  | zero => rfl
  | succ k ih => simp [littleB, ih]
def highB : List UInt8 → Nat
  | [] => 0
  | c :: r => c.toNat + 256 * highB r
theorem highB_little (k n : Nat) (h : n < 256 ^ k) : highB (littleB k n) = n := by
  induction k generalizing n with
  | zero => simp at h; subst h; rfl
  | succ k ih =>
    have hc : (UInt8.ofNat (n % 256)).toNat = n % 256 := by simp
    simp only [littleB, highB, hc]
    rw [ih (n / 256) (by rw [Nat.div_lt_iff_lt_mul (by decide)]; rw [Nat.pow_succ] at h; exact h)]
    omega
theorem highB_lim (l : List UInt8) : highB l < 256 ^ l.length := by
  induction l with
  | nil => decide
  | cons c r ih =>
    have hc := c.toNat_lt
    simp only [highB, List.length_cons, Nat.pow_succ]
    omega

/-- A field as it is read: its place, and that of its data. -/
structure Fld where
  num : Nat
  kind : Nat
  place : Nat
  val : Nat
  data : List UInt8
deriving Inhabited
/-- How a field is laid. -/
def encF (f : Fld) : List UInt8 :=
  vbytes (f.num * 8 + f.kind) ++ (if f.kind = 0 then vbytes f.val else if f.kind = 1 then littleB 8 f.val else if f.kind = 5 then littleB 4 f.val else vbytes f.data.length ++ f.data)
/-- May a field be laid? -/
def rightF (num kind : Int) (val : Nat) (data : List UInt8) : Bool :=
  decide (1 ≤ num) && (decide (num ≤ 536870911) && (if kind = 0 ∨ kind = 1 then data.isEmpty else if kind = 5 then data.isEmpty && decide (val < 4294967296) else if kind = 2 then decide (val = 0) && decide (data.length ≤ 60000) else false))
/-- The field at the front, and how many bytes it has. -/
def oneF (b : List UInt8) (place : Nat) : Option (Fld × Nat) :=
  match getV 0 0 b with
  | none => none
  | some (tag, k) =>
    if tag / 8 < 1 ∨ 536870911 < tag / 8 then none
    else if tag % 8 = 0 then (match getV 0 0 (b.drop k) with
      | none => none
      | some (v, n) => some (⟨tag / 8, 0, place, v, []⟩, k + n))
    else if tag % 8 = 1 then (if b.length - k < 8 then none else some (⟨tag / 8, 1, place, highB ((b.drop k).take 8), []⟩, k + 8))
    else if tag % 8 = 5 then (if b.length - k < 4 then none else some (⟨tag / 8, 5, place, highB ((b.drop k).take 4), []⟩, k + 4))
    else if tag % 8 = 2 then (match getV 0 0 (b.drop k) with
      | none => none
      | some (v, n) => if b.length - (k + n) < v then none else some (⟨tag / 8, 2, place, 0, (b.drop (k + n)).take v⟩, k + n + v))
    else none
theorem oneF_lim {b : List UInt8} {place k : Nat} {f : Fld} (h : oneF b place = some (f, k)) : 1 ≤ k ∧ k ≤ b.length ∧ f.val < 18446744073709551616 ∧ f.num ≤ 536870911 ∧ 1 ≤ f.num ∧ f.data.length ≤ b.length ∧ f.place = place ∧ f.kind ≤ 5 := by
  unfold oneF at h
  split at h
  · cases h
  · rename_i tag j hg
    have h1 := getV_lim b 0 0 tag j (by decide) hg
    split at h
    · cases h
    · rename_i hr
      split at h
      · split at h
        · cases h
        · rename_i v n hv
          have h2 := getV_lim _ 0 0 v n (by decide) hv
          rw [List.length_drop] at h2
          simp only [Option.some.injEq, Prod.mk.injEq] at h
          obtain ⟨rfl, rfl⟩ := h
          simp; omega
      · split at h
        · split at h
          · cases h
          · simp only [Option.some.injEq, Prod.mk.injEq] at h
            obtain ⟨rfl, rfl⟩ := h
            have h3 := highB_lim ((b.drop j).take 8)
            have h4 : ((b.drop j).take 8).length ≤ 8 := List.length_take_le _ _
            have h5 : 256 ^ ((b.drop j).take 8).length ≤ 256 ^ 8 := Nat.pow_le_pow_right (by decide) h4
            have h6 : (256 : Nat) ^ 8 = 18446744073709551616 := by decide
            simp only []
            refine ⟨by omega, by omega, by omega, by omega, by omega, by simp, trivial, by omega⟩
        · split at h
          · split at h
            · cases h
            · simp only [Option.some.injEq, Prod.mk.injEq] at h
              obtain ⟨rfl, rfl⟩ := h
              have h3 := highB_lim ((b.drop j).take 4)
              have h4 : ((b.drop j).take 4).length ≤ 4 := List.length_take_le _ _
              have h5 : 256 ^ ((b.drop j).take 4).length ≤ 256 ^ 4 := Nat.pow_le_pow_right (by decide) h4
              have h6 : (256 : Nat) ^ 4 = 4294967296 := by decide
              simp only []
              refine ⟨by omega, by omega, by omega, by omega, by omega, by simp, trivial, by omega⟩
          · split at h
            · split at h
              · cases h
              · rename_i v n hv
                have h2 := getV_lim _ 0 0 v n (by decide) hv
                rw [List.length_drop] at h2
                split at h
                · cases h
                · simp only [Option.some.injEq, Prod.mk.injEq] at h
                  obtain ⟨rfl, rfl⟩ := h
                  simp; omega
            · cases h
/-- All fields from a place on (fuel: no fewer than the bytes left), and the place of what is none. -/
def fieldsF (b : List UInt8) : Nat → Nat → List Fld × Option Nat
  | 0, _ => ([], none)
  | g + 1, p => if b.length ≤ p then ([], none) else match oneF (b.drop p) p with
    | none => ([], some p)
    | some (f, k) => ((f :: (fieldsF b g (p + k)).1), (fieldsF b g (p + k)).2)
end Go.Proofs.Ytjcldnkgidfifaa
