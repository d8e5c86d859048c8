/-
  Plain facts on the forms of numbers (2): patterns in their order by a whole number, below, above, next, nearest.
-/
import Derived.Test.YtanicapbdigjaaaDoorLawY
namespace Go.Proofs.YtanicapbdigjaaaDoor
set_option linter.unusedVariables false
set_option linter.unusedSimpArgs false

theorem fval_nn (E F n : Nat) : 0 ≤ fval E F n := Rat.not_lt.1 (fval_nonneg E F n)
/-- A pattern's place among all: below 0 with the sign. -/
def zof (E F b : Nat) : Int := if fneg E F b then -(fsize E F b : Int) else (fsize E F b : Int)
def zval (E F : Nat) (z : Int) : Rat := if z < 0 then -(fval E F z.natAbs) else fval E F z.natAbs
theorem zval_mono {E F : Nat} {a b : Int} (h : a < b) : zval E F a < zval E F b := by
  unfold zval
  by_cases ha : a < 0
  · rw [if_pos ha]
    by_cases hb : b < 0
    · rw [if_pos hb]
      have := (fval_lt (E := E) (F := F) (a := b.natAbs) (b := a.natAbs)).2 (by omega)
      grind
    · rw [if_neg hb]
      have h1 := fval_pos (E := E) (F := F) (n := a.natAbs) (by omega)
      have h2 := fval_nn E F b.natAbs
      grind
  · rw [if_neg ha, if_neg (by omega)]
    exact fval_lt.2 (by omega)
theorem zval_lt {E F : Nat} {a b : Int} : zval E F a < zval E F b ↔ a < b := by
  refine ⟨fun h => ?_, zval_mono⟩
  rcases Int.lt_trichotomy a b with h1 | h1 | h1
  · exact h1
  · subst h1; exact (Rat.lt_irrefl h).elim
  · have := zval_mono (E := E) (F := F) h1; grind
theorem zval_le {E F : Nat} {a b : Int} : zval E F a ≤ zval E F b ↔ a ≤ b := by
  rw [← Rat.not_lt, zval_lt]; omega
theorem zval_inj {E F : Nat} {a b : Int} (h : zval E F a = zval E F b) : a = b := by
  have h1 := (zval_le (E := E) (F := F) (a := a) (b := b)).1 (by rw [h]; exact Rat.le_refl)
  have h2 := (zval_le (E := E) (F := F) (a := b) (b := a)).1 (by rw [h]; exact Rat.le_refl)
  omega
theorem zval_nat (E F n : Nat) : zval E F (n : Int) = fval E F n := by
  unfold zval; rw [if_neg (by omega)]; rfl
theorem zval_neg (E F n : Nat) : zval E F (-(n : Int)) = -(fval E F n) := by
  unfold zval
  by_cases h : n = 0
  · subst h; rw [if_neg (by omega)]; show fval E F 0 = -(fval E F 0); rw [fval_zero]; decide +kernel
  · rw [if_pos (by omega)]
    have : (-(n : Int)).natAbs = n := by omega
    rw [this]
theorem dval_zof {E F b : Nat} (h : dkind E F b = 1) : dval' E F b = zval E F (zof E F b) := by
  rw [(dk_fin (dk_one.1 h)).2]
  unfold zof
  cases fneg E F b
  · simp only [Bool.false_eq_true, if_false]; rw [zval_nat]
  · simp only [if_true]; rw [zval_neg]
theorem zof_lt {E F b : Nat} (h : dkind E F b = 1) : zof E F b < finf E F ∧ -(finf E F : Int) < zof E F b := by
  have := dk_one.1 h
  unfold zof
  split <;> omega
theorem zof_dsign {E F n : Nat} (s : Bool) (hn : n < fsgn E F) : zof E F (dsign E F s n) = if s then -(n : Int) else (n : Int) := by
  unfold zof
  rw [dsign_neg s hn, dsign_size s hn]
  cases s
  · simp
  · by_cases h : 0 < n
    · simp [h]
    · have : n = 0 := by omega
      subst this; simp
theorem zof_self {E F n : Nat} (hn : n < fsgn E F) : zof E F n = n := by
  unfold zof; rw [neg_self hn, size_self hn]; simp
theorem dkind_dsign {E F n : Nat} (s : Bool) (hn : n < finf E F) : dkind E F (dsign E F s n) = 1 := by
  rw [dk_one, dsign_size s (Nat.lt_trans hn (finf_lt E F))]; exact hn
theorem dkind_self {E F n : Nat} (hn : n < finf E F) : dkind E F n = 1 := by
  rw [dk_one, size_self (Nat.lt_trans hn (finf_lt E F))]; exact hn
/-- The next pattern. -/
theorem next_yes {E F b p : Nat} (hE : 1 ≤ E) (hk : dkind E F b = 1) (h : (p, true) = fnext E F b) : dkind E F p = 1 ∧ zof E F p = zof E F b + 1 ∧ p < 2 * fsgn E F := by
  have hs := dk_one.1 hk
  have hI : finf E F < fsgn E F := finf_lt E F
  by_cases h1 : fneg E F b = true ∧ 0 < fsize E F b
  · rw [fnext_a hk h1.1 h1.2] at h
    obtain rfl : p = dsign E F true (fsize E F b - 1) := congrArg Prod.fst h
    refine ⟨dkind_dsign true (by omega), ?_, ?_⟩
    · rw [zof_dsign true (by omega)]
      unfold zof; rw [h1.1]; simp only [if_true]; omega
    · unfold dsign; unfold fsgn at *; split <;> omega
  · have h2 : fneg E F b = false ∨ fsize E F b = 0 := by
      by_cases h3 : fneg E F b = true
      · exact .inr (by have : ¬ 0 < fsize E F b := fun h4 => h1 ⟨h3, h4⟩; omega)
      · exact .inl (by simpa using h3)
    by_cases h3 : fsize E F b + 1 = finf E F
    · rw [fnext_b hk h2 h3] at h
      have := congrArg Prod.snd h
      simp at this
    · rw [fnext_c hk h2 h3] at h
      obtain rfl : p = fsize E F b + 1 := congrArg Prod.fst h
      refine ⟨dkind_self (by omega), ?_, by omega⟩
      rw [zof_self (by omega)]
      unfold zof
      rcases h2 with h2 | h2
      · rw [h2]; simp
      · rw [h2]; split <;> omega
theorem next_no {E F b p : Nat} (hE : 2 ≤ E) (hF : 1 ≤ F) (hk : dkind E F b = 1) (h : (p, false) = fnext E F b) : p = 0 ∧ zof E F b = ((finf E F - 1 : Nat) : Int) := by
  have hs := dk_one.1 hk
  have hI : finf E F < fsgn E F := finf_lt E F
  have h2 : 2 ≤ finf E F := by
    unfold finf
    have a1 : 2 ^ 1 ≤ 2 ^ F := Nat.pow_le_pow_right (by decide) hF
    have a2 : 2 ^ 2 ≤ 2 ^ E := Nat.pow_le_pow_right (by decide) hE
    have a3 : 3 * 2 ≤ (2 ^ E - 1) * 2 ^ F := Nat.mul_le_mul (by omega) (by omega)
    omega
  by_cases h1 : fneg E F b = true ∧ 0 < fsize E F b
  · rw [fnext_a hk h1.1 h1.2] at h
    have := congrArg Prod.snd h
    simp at this
  · have h2 : fneg E F b = false ∨ fsize E F b = 0 := by
      by_cases h3 : fneg E F b = true
      · exact .inr (by have : ¬ 0 < fsize E F b := fun h4 => h1 ⟨h3, h4⟩; omega)
      · exact .inl (by simpa using h3)
    by_cases h3 : fsize E F b + 1 = finf E F
    · rw [fnext_b hk h2 h3] at h
      refine ⟨congrArg Prod.fst h, ?_⟩
      unfold zof
      rcases h2 with h2 | h2
      · rw [h2]; simp; omega
      · omega
    · rw [fnext_c hk h2 h3] at h
      have := congrArg Prod.snd h
      simp at this
/-- What is below. -/
theorem below_yes {E F n b : Nat} {x : Rat} (hu : Under E F (qabs x) n) (h : (b, true) = fbelow E F x n) :
    dkind E F b = 1 ∧ zval E F (zof E F b) ≤ x ∧ (zof E F b + 1 < finf E F → x < zval E F (zof E F b + 1)) := by
  have hI : finf E F < fsgn E F := finf_lt E F
  have hn := hu.lt
  unfold fbelow at h
  by_cases hx : x < 0
  · rw [if_pos hx] at h
    have hq : qabs x = -x := by unfold qabs; rw [if_pos hx]
    by_cases hm : fup E F x n = finf E F
    · rw [if_pos hm] at h
      have := congrArg Prod.snd h
      simp at this
    · rw [if_neg hm] at h
      obtain rfl : b = dsign E F true (fup E F x n) := congrArg Prod.fst h
      have hl := hu.le
      rw [hq] at hl
      by_cases he : fval E F n = qabs x
      · have hup : fup E F x n = n := by unfold fup; rw [if_pos he]
        rw [hup] at hm ⊢
        have h1 : zval E F (-(n : Int)) = x := by rw [zval_neg, he, hq]; grind
        refine ⟨dkind_dsign true hn, ?_, fun _ => ?_⟩
        · rw [zof_dsign true (by omega)]; simp only [if_true]; rw [h1]; exact Rat.le_refl
        · rw [zof_dsign true (by omega)]; simp only [if_true]
          have := zval_mono (E := E) (F := F) (show -(n : Int) < -(n : Int) + 1 by omega)
          rwa [h1] at this
      · have hup : fup E F x n = n + 1 := by unfold fup; rw [if_neg he]
        rw [hup] at hm ⊢
        refine ⟨dkind_dsign true (by omega), ?_, fun _ => ?_⟩
        · rw [zof_dsign true (by omega)]; simp only [if_true]
          rw [zval_neg]
          have := hu.next (by omega)
          rw [hq] at this
          grind
        · rw [zof_dsign true (by omega)]; simp only [if_true]
          rw [show -((n + 1 : Nat) : Int) + 1 = -(n : Int) by omega, zval_neg]
          rw [hq] at he
          grind
  · rw [if_neg hx] at h
    obtain rfl : b = n := congrArg Prod.fst h
    have hq : qabs x = x := by unfold qabs; rw [if_neg hx]
    rw [zof_self (by omega)]
    refine ⟨dkind_self hn, ?_, fun h1 => ?_⟩
    · rw [zval_nat, ← hq]; exact hu.le
    · have := hu.next (by omega)
      rw [hq] at this
      rw [show (b : Int) + 1 = ((b + 1 : Nat) : Int) by omega, zval_nat]; exact this
theorem below_no {E F n b : Nat} {x : Rat} (hu : Under E F (qabs x) n) (h : (b, false) = fbelow E F x n) :
    x < zval E F (-((finf E F - 1 : Nat) : Int)) := by
  have hn := hu.lt
  unfold fbelow at h
  by_cases hx : x < 0
  · rw [if_pos hx] at h
    have hq : qabs x = -x := by unfold qabs; rw [if_pos hx]
    by_cases hm : fup E F x n = finf E F
    · have hl := hu.le
      rw [hq] at hl
      by_cases he : fval E F n = qabs x
      · have hup : fup E F x n = n := by unfold fup; rw [if_pos he]
        omega
      · have hup : fup E F x n = n + 1 := by unfold fup; rw [if_neg he]
        rw [hup] at hm
        rw [show finf E F - 1 = n by omega, zval_neg]
        rw [hq] at he
        grind
    · rw [if_neg hm] at h
      have := congrArg Prod.snd h
      simp at this
  · rw [if_neg hx] at h
    have := congrArg Prod.snd h
    simp at this
/-- Between two neighbours the lower one is below. -/
theorem below_mid {E F n : Nat} {x : Rat} {z : Int} (hu : Under E F (qabs x) n) (h0 : -(finf E F : Int) < z) (h1 : z + 1 < finf E F) (hl : zval E F z ≤ x) (hr : x < zval E F (z + 1)) :
    ∃ b, (b, true) = fbelow E F x n ∧ dkind E F b = 1 ∧ zof E F b = z := by
  obtain ⟨b, hb⟩ : ∃ b, b = (fbelow E F x n).1 := ⟨_, rfl⟩
  rcases hy : (fbelow E F x n).2 with _ | _
  · exfalso
    have h2 := below_no (b := b) hu (by rw [hb, ← hy])
    have h3 := (zval_lt (E := E) (F := F) (a := z) (b := -((finf E F - 1 : Nat) : Int))).1 (Std.lt_of_le_of_lt hl h2)
    omega
  · have he : (b, true) = fbelow E F x n := by rw [hb, ← hy]
    obtain ⟨k1, k2, k3⟩ := below_yes hu he
    refine ⟨b, he, k1, ?_⟩
    have k4 := (zval_lt (E := E) (F := F)).1 (Std.lt_of_le_of_lt k2 hr)
    by_cases k5 : zof E F b + 1 < finf E F
    · have k6 := (zval_lt (E := E) (F := F)).1 (Std.lt_of_le_of_lt hl (k3 k5))
      omega
    · omega
theorem half_mid {a b : Rat} (h : a < b) : a < (a + b) / 2 ∧ (a + b) / 2 < b := by grind
theorem qcmp_pos {a b : Rat} : 0 < qcmp a b ↔ b < a := by
  constructor
  · intro h
    rcases Classical.em (b < a) with h1 | h1
    · exact h1
    · exact (qcmp_ngt h1 h).elim
  · intro h; rw [qcmp_above h]; decide
theorem qcmp_le0 {a b : Rat} : qcmp a b ≤ 0 ↔ a ≤ b := by
  rw [← Rat.not_lt, ← qcmp_pos]; omega
/-- The greatest of all. -/
theorem top_is {E F : Nat} (hE : 2 ≤ E) (hF : 1 ≤ F) : dkind E F (finf E F - 1) = 1 ∧ zof E F (finf E F - 1) = ((finf E F - 1 : Nat) : Int) := by
  have h := finf_pos (E := E) (F := F) (by omega)
  have hI : finf E F < fsgn E F := finf_lt E F
  exact ⟨dkind_self (by omega), zof_self (by omega)⟩
theorem next_same {E F b p : Nat} {ok : Bool} (hE : 2 ≤ E) (hF : 1 ≤ F) (hk : dkind E F b = 1) (h : (p, ok) = fnext E F b) : decide (dval' E F b = dval' E F (finf E F - 1)) = !ok := by
  have ht := top_is (F := F) hE hF
  rw [dval_zof hk, dval_zof ht.1, ht.2]
  cases ok
  · rw [(next_no hE hF hk h).2]; simp
  · have h1 := next_yes (by omega) hk h
    have h2 := zof_lt h1.1
    simp only [Bool.not_true, decide_eq_false_iff_not]
    intro h3
    have := zval_inj h3
    omega
theorem step_zero (E F : Nat) : 0 < fstep E F 0 / 2 ∨ fstep E F 0 / 2 = 0 := by
  unfold fstep
  split
  · left
    have h2 : (0 : Rat) < 2 := by decide
    have := (fval_lt (E := E) (F := F) (a := 0) (b := 0 + 1)).2 (by omega)
    rw [Rat.div_def]
    exact Rat.mul_pos (by grind) (Rat.inv_pos.2 h2)
  · right
    show (fval E F 0 - fval E F 0) / 2 = 0
    rw [Rat.sub_self]; decide +kernel
/-- The answers of below, above, nearest and exact stand beside each other. -/
theorem between_exact {E F n a b m p : Nat} {x y : Bool} {r : Rat} (hE : 1 ≤ E) (hu : Under E F (qabs r) n) (ha : (a, x) = fbelow E F r n) (hb : (b, y) = fabove E F r n) (hm : m = fnear E F r n) (hp : (p, true) = fexact E F r n) :
    x = true ∧ y = true ∧ a = p ∧ b = p ∧ m = p := by
  have hn := hu.lt
  unfold fexact at hp
  by_cases he : fval E F n = qabs r
  · rw [if_pos he] at hp
    obtain rfl : p = dsign E F (decide (r < 0)) n := congrArg Prod.fst hp
    have hup : fup E F r n = n := by unfold fup; rw [if_pos he]
    have hne : ¬ n = finf E F := by omega
    unfold fbelow at ha
    unfold fabove at hb
    rw [hup, if_neg hne] at ha hb
    have hmore : fmore E F r n = false := by
      have h1 : qcmp (qabs r - fval E F n) (fstep E F n / 2) = -1 ∨ n % 2 = 0 ∧ qcmp (qabs r - fval E F n) (fstep E F n / 2) = 0 := by
        rw [he]
        by_cases h0 : 0 < n
        · left
          unfold qcmp
          rw [Rat.sub_self, if_pos]
          exact step_pos h0
        · have : n = 0 := by omega
          subst this
          rcases step_zero E F with h2 | h2
          · left; unfold qcmp; rw [Rat.sub_self, if_pos h2]
          · right; unfold qcmp; rw [Rat.sub_self, h2]; decide +kernel
      unfold fmore
      rcases h1 with h1 | ⟨h1, h2⟩
      · rw [h1]; simp
      · rw [h2]; simp; omega
    unfold fnear at hm
    rw [hmore] at hm
    by_cases hr : r < 0
    · rw [decide_eq_true hr] at *
      rw [if_pos hr] at ha
      rw [if_neg (by grind)] at hb
      cases ha; cases hb; exact ⟨rfl, rfl, rfl, rfl, hm⟩
    · rw [decide_eq_false hr] at *
      rw [if_neg hr] at ha
      by_cases h0 : 0 < r
      · rw [if_pos h0] at hb
        cases ha; cases hb; exact ⟨rfl, rfl, by simp [dsign], by simp [dsign], hm⟩
      · rw [if_neg h0] at hb
        have hr0 : r = 0 := by grind
        have hn0 : n = 0 := by
          rw [hr0] at he
          have h7 : fval E F n = fval E F 0 := by rw [fval_zero, he]; decide +kernel
          exact fval_inj.1 h7
        subst hn0
        cases ha; cases hb; exact ⟨rfl, rfl, by simp [dsign], by simp [dsign], hm⟩
  · rw [if_neg he] at hp
    have := congrArg Prod.snd hp
    simp at this
theorem between_off {E F n a b m p : Nat} {r : Rat} (hE : 1 ≤ E) (hu : Under E F (qabs r) n) (ha : (a, true) = fbelow E F r n) (hb : (b, true) = fabove E F r n) (hm : m = fnear E F r n) (hp : (p, false) = fexact E F r n) :
    (b, true) = fnext E F a ∧ (m = a ∨ m = b) := by
  have hI : finf E F < fsgn E F := finf_lt E F
  have hn := hu.lt
  unfold fexact at hp
  by_cases he : fval E F n = qabs r
  · rw [if_pos he] at hp
    have := congrArg Prod.snd hp
    simp at this
  · have hup : fup E F r n = n + 1 := by unfold fup; rw [if_neg he]
    unfold fbelow at ha
    unfold fabove at hb
    rw [hup] at ha hb
    have hr0 : r ≠ 0 := by
      intro h0
      rw [h0] at he hu
      have h1 := (seen_zero (E := E) (F := F) hE).1
      have := hu.unique h1
      subst this
      exact he (by rw [fval_zero]; decide +kernel)
    unfold fnear at hm
    by_cases hr : r < 0
    · rw [if_pos hr] at ha
      rw [if_neg (by grind)] at hb
      by_cases hm9 : n + 1 = finf E F
      · rw [if_pos hm9] at ha
        have := congrArg Prod.snd ha
        simp at this
      · rw [if_neg hm9] at ha
        cases ha; cases hb
        have hl : n + 1 < fsgn E F := by omega
        have hk : dkind E F (dsign E F true (n + 1)) = 1 := dkind_dsign true (by omega)
        constructor
        · rw [fnext_a hk (by rw [dsign_neg _ hl]; simp) (by rw [dsign_size _ hl]; omega), dsign_size _ hl]; rfl
        · rw [decide_eq_true hr] at hm
          cases h9 : fmore E F r n <;> rw [h9] at hm
          · exact .inr hm
          · exact .inl hm
    · have hr1 : 0 < r := by grind
      rw [if_neg hr] at ha
      rw [if_pos hr1] at hb
      by_cases hm9 : n + 1 = finf E F
      · rw [if_pos hm9] at hb
        have := congrArg Prod.snd hb
        simp at this
      · rw [if_neg hm9] at hb
        cases ha; cases hb
        have hl : n < fsgn E F := by omega
        constructor
        · have hk : dkind E F n = 1 := dkind_self hn
          rw [fnext_c hk (.inl (neg_self hl)) (by rw [size_self hl]; exact hm9), size_self hl]
        · rw [decide_eq_false hr] at hm
          cases h9 : fmore E F r n <;> rw [h9] at hm
          · left; rw [hm]; simp [dsign]
          · right; rw [hm]; simp [dsign]
end Go.Proofs.YtanicapbdigjaaaDoor
