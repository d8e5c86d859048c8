/-
  Plain facts on the forms of numbers: what a pattern's number is, the order of patterns, the greatest one that is not above.
-/
import Derived.Test.YtieffhkfefimeaaGreatDoorMathT
namespace Go.Proofs.YtieffhkfefimeaaGreatDoor
set_option linter.unusedVariables false
set_option linter.unusedSimpArgs false

/-- The number of a pattern without a sign, counted in least steps. -/
def fint (F n : Nat) : Nat := if n / 2 ^ F = 0 then n else (n % 2 ^ F + 2 ^ F) * 2 ^ (n / 2 ^ F - 1)
theorem fint_next (F n : Nat) : fint F n < fint F (n + 1) := by
  have hP : 0 < 2 ^ F := Nat.pow_pos (by decide)
  unfold fint
  have h1 := Nat.div_add_mod n (2 ^ F)
  have h2 := Nat.mod_lt n hP
  generalize n / 2 ^ F = e at *
  generalize n % 2 ^ F = m at *
  generalize 2 ^ F = P at *
  by_cases h : m + 1 < P
  · have hd : (n + 1) / P = e := by rw [show n + 1 = P * e + (m + 1) by omega, Nat.mul_add_div hP, Nat.div_eq_of_lt h, Nat.add_zero]
    have hr : (n + 1) % P = m + 1 := by rw [show n + 1 = P * e + (m + 1) by omega, Nat.mul_add_mod, Nat.mod_eq_of_lt h]
    rw [hd, hr]
    by_cases h0 : e = 0
    · rw [if_pos h0, if_pos h0]; omega
    · rw [if_neg h0, if_neg h0]
      exact Nat.mul_lt_mul_of_pos_right (by omega) (Nat.pow_pos (by decide))
  · have he : m + 1 = P := by omega
    have hn : n + 1 = P * (e + 1) := by rw [Nat.mul_succ]; omega
    have hd : (n + 1) / P = e + 1 := by rw [hn, Nat.mul_div_cancel_left _ hP]
    have hr : (n + 1) % P = 0 := by rw [hn, Nat.mul_mod_right]
    rw [hd, hr, if_neg (show ¬ e + 1 = 0 by omega)]
    by_cases h0 : e = 0
    · subst h0
      rw [if_pos rfl]
      simp at h1 ⊢; omega
    · rw [if_neg h0]
      obtain ⟨k, rfl⟩ : ∃ k, e = k + 1 := ⟨e - 1, by omega⟩
      simp only [Nat.add_sub_cancel, Nat.zero_add]
      rw [Nat.pow_succ, Nat.mul_comm (2 ^ k) 2, ← Nat.mul_assoc]
      exact Nat.mul_lt_mul_of_pos_right (by omega) (Nat.pow_pos (by decide))
theorem fint_mono {F a b : Nat} (h : a < b) : fint F a < fint F b := by
  induction b with
  | zero => omega
  | succ b ih =>
    rcases Nat.lt_or_ge a b with h1 | h1
    · exact Nat.lt_trans (ih h1) (fint_next F b)
    · have : a = b := by omega
      subst this; exact fint_next F a
theorem fint_lt {F a b : Nat} : fint F a < fint F b ↔ a < b := by
  constructor
  · intro h
    rcases Nat.lt_or_ge a b with h1 | h1
    · exact h1
    · rcases Nat.lt_or_ge b a with h2 | h2
      · have := fint_mono (F := F) h2; omega
      · have : a = b := by omega
        subst this; omega
  · exact fint_mono
theorem fint_zero (F : Nat) : fint F 0 = 0 := by unfold fint; simp
theorem fint_pos {F n : Nat} (h : 0 < n) : 0 < fint F n := by have := fint_mono (F := F) h; rw [fint_zero] at this; exact this

/-- A whole number times 2 to the e. -/
def tval (n : Nat) (e : Int) : Rat := if e < 0 then qOf false n (2 ^ (-e).toNat) else qOf false (n * 2 ^ e.toNat) 1
theorem scale (n d : Nat) {B : Nat} (hB : 0 < B) : qOf false (n * B) (d * B) = qOf false n d := by
  unfold qOf
  have h : sg false (n * B) = sg false n * (B : Int) := by simp [sg]
  rw [h, Rat.mkRat_mul_right (by omega)]
theorem tval_shift (n k : Nat) {c : Int} (hc : c < 0) : tval n ((k : Int) + c) = tval (n * 2 ^ k) c := by
  unfold tval
  obtain ⟨s, hs⟩ : ∃ s : Nat, -c = (s : Int) := ⟨(-c).toNat, by omega⟩
  rw [if_pos hc]
  have hs2 : (-c).toNat = s := by omega
  rw [hs2]
  by_cases h : (k : Int) + c < 0
  · have h3 : (-((k : Int) + c)).toNat = s - k := by omega
    rw [if_pos h, h3, ← scale n (2 ^ (s - k)) (show 0 < 2 ^ k from Nat.pow_pos (by decide)), ← Nat.pow_add, show s - k + k = s by omega]
  · have h3 : ((k : Int) + c).toNat = k - s := by omega
    rw [if_neg h, h3, ← scale (n * 2 ^ (k - s)) 1 (show 0 < 2 ^ s from Nat.pow_pos (by decide)), Nat.mul_assoc, ← Nat.pow_add, Nat.one_mul, show k - s + s = k by omega]

/-- How many binary places the least step of a form has. -/
def places (E F : Nat) : Nat := 2 ^ (E - 1) + F - 2
/-- The number of a pattern without a sign. -/
def fval (E F n : Nat) : Rat := qOf false (fint F n) (2 ^ places E F)
/-- As the program reckons it. -/
theorem fval_is {E F n : Nat} (hE : 2 ≤ E) (hF : 1 ≤ F) : tval (n % 2 ^ F + if 0 < n / 2 ^ F then 2 ^ F else 0) ((max (n / 2 ^ F) 1 : Nat) - (2 ^ (E - 1) - 1 : Nat) - (F : Nat) : Int) = fval E F n := by
  have h2 : 2 ≤ 2 ^ (E - 1) := by
    have : 2 ^ 1 ≤ 2 ^ (E - 1) := Nat.pow_le_pow_right (by decide) (by omega)
    simpa using this
  have hP : 0 < 2 ^ F := Nat.pow_pos (by decide)
  have h1 := Nat.div_add_mod n (2 ^ F)
  generalize hne : n / 2 ^ F = e at *
  have hpl : (places E F : Nat) + 2 = 2 ^ (E - 1) + F := by unfold places; omega
  have hsum : ((max e 1 : Nat) - (2 ^ (E - 1) - 1 : Nat) - (F : Nat) : Int) = ((e - 1 : Nat) : Int) + -((places E F : Nat) : Int) := by
    generalize 2 ^ (E - 1) = B at *
    omega
  have hneg : -((places E F : Nat) : Int) < 0 := by
    generalize 2 ^ (E - 1) = B at *
    omega
  rw [hsum, tval_shift _ _ hneg]
  unfold fval tval
  rw [if_pos hneg, show (- -((places E F : Nat) : Int)).toNat = places E F by omega]
  congr 1
  unfold fint
  rw [hne]
  by_cases h0 : e = 0
  · rw [if_pos h0, if_neg (by omega), h0]
    rw [h0] at h1
    simp at h1 ⊢; exact h1
  · rw [if_neg h0, if_pos (by omega)]

theorem qOf_lt {a b D : Nat} (hD : 0 < D) : qOf false a D < qOf false b D ↔ a < b := by
  have hD' : (0 : Rat) < (D : Rat) := Rat.natCast_pos.2 hD
  rw [qOf_frac _ _ hD, qOf_frac _ _ hD]
  have h1 : ((sg false a : Int) : Rat) = (a : Rat) := rfl
  have h2 : ((sg false b : Int) : Rat) = (b : Rat) := rfl
  have hne : (D : Rat) ≠ 0 := fun h => by rw [h] at hD'; exact Rat.lt_irrefl hD'
  rw [h1, h2, Rat.div_lt_iff hD', Rat.div_mul_cancel hne, Rat.natCast_lt_natCast]
theorem fval_lt {E F a b : Nat} : fval E F a < fval E F b ↔ a < b := by
  unfold fval
  rw [qOf_lt (Nat.pow_pos (by decide)), fint_lt]
theorem fval_le {E F a b : Nat} : fval E F a ≤ fval E F b ↔ a ≤ b := by
  rw [← Rat.not_lt, fval_lt]; omega
theorem fval_inj {E F a b : Nat} : fval E F a = fval E F b ↔ a = b := by
  constructor
  · intro h
    have h1 := (fval_le (E := E) (F := F) (a := a) (b := b)).1 (by rw [h]; exact Rat.le_refl)
    have h2 := (fval_le (E := E) (F := F) (a := b) (b := a)).1 (by rw [h]; exact Rat.le_refl)
    omega
  · intro h; rw [h]
theorem fval_zero (E F : Nat) : fval E F 0 = 0 := by unfold fval; rw [fint_zero, qOf_zero]
theorem fval_nonneg (E F n : Nat) : ¬ fval E F n < 0 := by
  rw [← fval_zero E F, fval_lt]; omega

/-- The pattern of the infinity. -/
def finf (E F : Nat) : Nat := (2 ^ E - 1) * 2 ^ F
theorem finf_lt (E F : Nat) : finf E F < 2 ^ (E + F) := by
  unfold finf
  rw [Nat.pow_add]
  exact Nat.mul_lt_mul_of_pos_right (by have : 0 < 2 ^ E := Nat.pow_pos (by decide); omega) (Nat.pow_pos (by decide))
theorem finf_pos {E F : Nat} (hE : 1 ≤ E) : 0 < finf E F := by
  unfold finf
  refine Nat.mul_pos ?_ (Nat.pow_pos (by decide))
  have : 2 ^ 1 ≤ 2 ^ E := Nat.pow_le_pow_right (by decide) hE
  omega
/-- The pattern of the greatest number that is not above r. -/
structure Under (E F : Nat) (r : Rat) (n : Nat) : Prop where
  lt : n < finf E F
  le : fval E F n ≤ r
  up : ∀ m, n < m → m < finf E F → r < fval E F m
theorem Under.unique {E F : Nat} {r : Rat} {n m : Nat} (h : Under E F r n) (h' : Under E F r m) : n = m := by
  rcases Nat.lt_or_ge n m with h1 | h1
  · exact (Rat.not_lt.2 h'.le (h.up m h1 h'.lt)).elim
  · rcases Nat.lt_or_ge m n with h2 | h2
    · exact (Rat.not_lt.2 h.le (h'.up n h2 h.lt)).elim
    · omega

/-- The program's search, bit by bit. -/
structure BitInv (E F : Nat) (r : Rat) (g out : Nat) : Prop where
  low : out % 2 ^ g = 0
  top : out + 2 ^ g ≤ 2 ^ (E + F)
  lt : out < finf E F
  le : fval E F out ≤ r
  up : ∀ m, out + 2 ^ g ≤ m → m < finf E F → r < fval E F m
theorem BitInv.start {E F : Nat} {r : Rat} (hE : 1 ≤ E) (hr : ¬ r < 0) : BitInv E F r (E + F) 0 :=
  ⟨Nat.zero_mod _, by omega, finf_pos hE, by rw [fval_zero]; exact Rat.not_lt.1 hr, fun m h1 h2 => by have := finf_lt E F; omega⟩
theorem or_bit {out k : Nat} (h : out % 2 ^ (k + 1) = 0) : out ||| 2 ^ k = out + 2 ^ k := by
  obtain ⟨q, hq⟩ : ∃ q, out = 2 ^ (k + 1) * q := ⟨out / 2 ^ (k + 1), by have := Nat.div_add_mod out (2 ^ (k + 1)); omega⟩
  rw [hq, ← Nat.two_pow_add_eq_or_of_lt (Nat.pow_lt_pow_right (by decide) (by omega))]
theorem BitInv.skip {E F : Nat} {r : Rat} {k out : Nat} (h : BitInv E F r (k + 1) out) (hs : finf E F ≤ out + 2 ^ k ∨ r < fval E F (out + 2 ^ k)) : BitInv E F r k out := by
  have hp : 2 ^ (k + 1) = 2 ^ k + 2 ^ k := by rw [Nat.pow_succ]; omega
  have hk0 : 0 < 2 ^ k := Nat.pow_pos (by decide)
  refine ⟨?_, by have := h.top; omega, h.lt, h.le, fun m h1 h2 => ?_⟩
  · have h1 := h.low
    exact Nat.mod_eq_zero_of_dvd (Nat.dvd_trans (Nat.pow_dvd_pow 2 (by omega)) (Nat.dvd_of_mod_eq_zero h1))
  · rcases hs with hs | hs
    · omega
    · exact Std.lt_of_lt_of_le hs (fval_le.2 h1)
theorem BitInv.take {E F : Nat} {r : Rat} {k out : Nat} (h : BitInv E F r (k + 1) out) (h1 : out + 2 ^ k < finf E F) (h2 : fval E F (out + 2 ^ k) ≤ r) : BitInv E F r k (out + 2 ^ k) := by
  have hp : 2 ^ (k + 1) = 2 ^ k + 2 ^ k := by rw [Nat.pow_succ]; omega
  have hk0 : 0 < 2 ^ k := Nat.pow_pos (by decide)
  refine ⟨?_, by have := h.top; omega, h1, h2, fun m h3 h4 => h.up m (by omega) h4⟩
  have h3 : 2 ^ k ∣ out := Nat.dvd_trans (Nat.pow_dvd_pow 2 (by omega)) (Nat.dvd_of_mod_eq_zero h.low)
  exact Nat.mod_eq_zero_of_dvd (Nat.dvd_add h3 (Nat.dvd_refl _))
theorem BitInv.done {E F : Nat} {r : Rat} {out : Nat} (h : BitInv E F r 0 out) : Under E F r out := ⟨h.lt, h.le, fun m h1 h2 => h.up m (by simp; omega) h2⟩

/-- The document's search, by halves. -/
structure HalfInv (E F : Nat) (r : Rat) (lo hi : Nat) : Prop where
  le : lo ≤ hi
  top : hi < finf E F
  at_ : fval E F lo ≤ r
  up : ∀ m, hi < m → m < finf E F → r < fval E F m
theorem HalfInv.start {E F : Nat} {r : Rat} (hE : 1 ≤ E) (hr : ¬ r < 0) : HalfInv E F r 0 (finf E F - 1) :=
  ⟨Nat.zero_le _, by have := finf_pos (F := F) hE; omega, by rw [fval_zero]; exact Rat.not_lt.1 hr, fun m h1 h2 => by omega⟩
theorem HalfInv.up' {E F : Nat} {r : Rat} {lo hi m : Nat} (h : HalfInv E F r lo hi) (h1 : m ≤ hi) (h2 : fval E F m ≤ r) : HalfInv E F r m hi := ⟨h1, h.top, h2, h.up⟩
theorem HalfInv.down {E F : Nat} {r : Rat} {lo hi m : Nat} (h : HalfInv E F r lo hi) (h0 : lo < m) (h1 : m ≤ hi) (h2 : r < fval E F m) : HalfInv E F r lo (m - 1) :=
  ⟨by omega, by have := h.top; omega, h.at_, fun k h3 h4 => Std.lt_of_lt_of_le h2 (fval_le.2 (by omega))⟩
theorem HalfInv.done {E F : Nat} {r : Rat} {lo hi : Nat} (h : HalfInv E F r lo hi) (he : hi ≤ lo) : Under E F r lo := by
  have : lo = hi := by have := h.le; omega
  subst this
  exact ⟨h.top, h.at_, h.up⟩
theorem BitInv.under {E F : Nat} {r : Rat} : ∀ (g out : Nat), BitInv E F r g out → ∃ n, Under E F r n
  | 0, out, h => ⟨out, h.done⟩
  | g + 1, out, h => by
    by_cases h1 : out + 2 ^ g < finf E F
    · by_cases h2 : r < fval E F (out + 2 ^ g)
      · exact BitInv.under g _ (h.skip (.inr h2))
      · exact BitInv.under g _ (h.take h1 (Rat.not_lt.1 h2))
    · exact BitInv.under g _ (h.skip (.inl (by omega)))
theorem under_exists {E F : Nat} {r : Rat} (hE : 1 ≤ E) (hr : ¬ r < 0) : ∃ n, Under E F r n := BitInv.under _ _ (BitInv.start hE hr)
/-- What lies on the next pattern. -/
theorem Under.next {E F : Nat} {r : Rat} {n : Nat} (h : Under E F r n) (hn : n + 1 < finf E F) : r < fval E F (n + 1) := h.up _ (by omega) hn
theorem under_self {E F n : Nat} (h : n < finf E F) : Under E F (fval E F n) n := ⟨h, Rat.le_refl, fun m h1 _ => fval_lt.2 h1⟩

/-- What a pattern is, and its number. -/
def dkind (E F b : Nat) : Int := if finf E F < b % 2 ^ (E + F) then 4 else if b % 2 ^ (E + F) = finf E F then (if b.testBit (E + F) then 3 else 2) else 1
def dval' (E F b : Nat) : Rat := if b % 2 ^ (E + F) < finf E F then (if b.testBit (E + F) then -(fval E F (b % 2 ^ (E + F))) else fval E F (b % 2 ^ (E + F))) else 0
/-- A pattern with a sign; that of 0 has none. -/
def dsign (E F : Nat) (neg : Bool) (n : Nat) : Nat := if neg = true ∧ 0 < n then n + 2 ^ (E + F) else n
/-- How far a fraction is from 0. -/
def qabs (r : Rat) : Rat := if r < 0 then -r else r
theorem qabs_nonneg (r : Rat) : ¬ qabs r < 0 := by
  unfold qabs
  split
  · grind
  · assumption
/-- Sizes: forms of at most 11 and 52 bits. -/
theorem places_le {E F : Nat} (hE : E ≤ 11) (hF : F ≤ 52) : places E F ≤ 1074 := by
  unfold places
  have : 2 ^ (E - 1) ≤ 2 ^ 10 := Nat.pow_le_pow_right (by decide) (by omega)
  omega
theorem fint_le {E F n K : Nat} (hE : E ≤ 11) (hF : F ≤ 52) (hn : n < 2 ^ (E + F)) (hK : 2101 ≤ K) : fint F n < 2 ^ K := by
  have hP : 0 < 2 ^ F := Nat.pow_pos (by decide)
  have he : n / 2 ^ F < 2 ^ E := by
    rw [Nat.div_lt_iff_lt_mul hP, ← Nat.pow_add]; exact hn
  have he2 : 2 ^ E ≤ 2 ^ 11 := Nat.pow_le_pow_right (by decide) hE
  have hF2 : 2 ^ F ≤ 2 ^ 52 := Nat.pow_le_pow_right (by decide) hF
  have hm := Nat.mod_lt n hP
  have h0 : n < 2 ^ 63 := Nat.lt_of_lt_of_le hn (Nat.pow_le_pow_right (by decide) (by omega))
  unfold fint
  split
  · exact Nat.lt_of_lt_of_le h0 (Nat.pow_le_pow_right (by decide) (by omega))
  · have h1 : n % 2 ^ F + 2 ^ F < 2 ^ 53 := by
      have : (2 : Nat) ^ 53 = 2 ^ 52 + 2 ^ 52 := by decide
      omega
    obtain ⟨q, hq⟩ : ∃ q, q = n / 2 ^ F - 1 := ⟨_, rfl⟩
    have hq2 : 53 + q ≤ K := by omega
    rw [← hq]
    refine Nat.lt_of_lt_of_le (Nat.mul_lt_mul_of_pos_right h1 (Nat.pow_pos (by decide))) ?_
    rw [← Nat.pow_add]
    exact Nat.pow_le_pow_right (by decide) hq2
theorem limbs_bits {n k : Nat} (h : n < 2 ^ (32 * k)) : (limbs n).length ≤ k := limbs_length_le (by rw [show (4294967296 : Nat) = 2 ^ 32 by decide, ← Nat.pow_mul]; exact h)
theorem fint_limbs {E F n k : Nat} (hE : E ≤ 11) (hF : F ≤ 52) (hn : n < 2 ^ (E + F)) (hk : 66 ≤ k) : (limbs (fint F n)).length ≤ k := limbs_bits (fint_le hE hF hn (by omega))
theorem places_limbs {E F k : Nat} (hE : E ≤ 11) (hF : F ≤ 52) (hk : 66 ≤ k) : (limbs (2 ^ places E F)).length ≤ k :=
  limbs_bits (Nat.pow_lt_pow_right (by decide) (by have := places_le hE hF; omega))
theorem QB.fval {E F n k : Nat} (hE : E ≤ 11) (hF : F ≤ 52) (hn : n < 2 ^ (E + F)) (hk : 66 ≤ k) : QB (fval E F n) k := by
  unfold Go.Proofs.YtieffhkfefimeaaGreatDoor.fval
  exact QB.of _ (fint_limbs hE hF hn hk) (places_limbs hE hF hk) (Nat.pow_pos (by decide))
end Go.Proofs.YtieffhkfefimeaaGreatDoor
