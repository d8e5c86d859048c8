/-
  Plain facts on targets: their parts, what they make of a number.
-/
import Derived.Test.YtnajnbgjmgkcoaaGreatDoorMathT
namespace Go.Proofs.YtnajnbgjmgkcoaaGreatDoor
set_option linter.unusedVariables false
set_option linter.unusedSimpArgs false

/-- Is a text a fraction? May it be a part of a target? -/
def tis (s : List UInt8) : Bool := decide (qcode s = 0)
def tok (s : List UInt8) : Bool := decide (s = []) || tis s
def tlow (r : Rat) (s : List UInt8) : Rat := if tis s = true ∧ r < qval s then qval s else r
def thigh (r : Rat) (s : List UInt8) : Rat := if tis s = true ∧ qval s < r then qval s else r
def tmul (r : Rat) (s : List UInt8) : Rat := if tis s = true then r * qval s else r
def tadd (r : Rat) (s : List UInt8) : Rat := if tis s = true then r + qval s else r
def tcast (c : Int) (r : Rat) : Rat := if c = 1 then qround r else if c = 2 then -((-r).floor : Rat) else if c = 3 then (r.floor : Rat) else r
def tgval (mn mx fa co : List UInt8) (c : Int) (r : Rat) : Rat := tcast c (tadd (tmul (thigh (tlow r mn) mx) fa) co)
/-- What a target makes of a number's text. -/
def tapply (mn mx fa co : List UInt8) (c : Int) (num : List UInt8) : List UInt8 :=
  if (tis num && tok mn && tok mx && tok fa && tok co) = true then qtext (tgval mn mx fa co c (qval num)) else []
def tvalid (mn mx fa co : List UInt8) (c : Int) : Bool :=
  tok fa && tok co && tok mn && tok mx && (!tis mn || !tis mx || decide (qcmp (qval mn) (qval mx) ≤ 0)) && decide (0 ≤ c) && decide (c ≤ 3)

theorem tis_nil : tis [] = false := by decide
theorem tok_nil : tok [] = true := rfl
theorem tis_text {s : List UInt8} (h : tis s = true) : qtext (qval s) = s := by
  have h0 : qcode s = 0 := by simpa [tis] using h
  have h1 : qval s = qmade s := by unfold qval; rw [if_pos h0]
  rw [h1]
  unfold qcode at h0
  split at h0
  · omega
  · split at h0
    · omega
    · split at h0
      · omega
      · split at h0
        · omega
        · rename_i h2; simpa using h2
theorem tis_ne {s : List UInt8} (h : tis s = true) : s ≠ [] := fun e => by rw [e, tis_nil] at h; cases h
theorem tok_of {s : List UInt8} (h : tis s = true) : tok s = true := by unfold tok; rw [h]; simp
theorem qtext_ne (q : Rat) : qtext q ≠ [] := by
  unfold qtext
  intro h
  have h1 := dec_ne_nil q.num.natAbs
  cases hs : decide (q < 0) <;> rw [hs] at h <;> simp [h1] at h
/-! Sizes of whatever texts: too many digits are no fraction. -/
theorem pval_any {K : Nat} (hK : K = 1200) (l : List UInt8) : pval l < 10 ^ K := by
  have h0 : 0 < 10 ^ K := Nat.pow_pos (by decide)
  unfold pval
  split
  · rename_i hok
    split
    · exact h0
    · rename_i hl
      simp only [numOk, Bool.and_eq_true] at hok
      exact Nat.lt_of_lt_of_le (dnum_lt l hok.1) (Nat.pow_le_pow_right (by decide) (by omega))
  · exact h0
theorem qval_any {K : Nat} (hK : K = 1200) (l : List UInt8) : (qval l).num.natAbs < 10 ^ K ∧ (qval l).den < 10 ^ K := by
  have h1 := pval_any hK (qnum l)
  have h2 := pval_any hK (qden l)
  have h9 : 1 < 10 ^ K := Nat.one_lt_pow (by omega) (by decide)
  unfold qval
  split
  · rename_i h0
    have hd : 0 < pval (qden l) := by
      rcases Nat.eq_zero_or_pos (pval (qden l)) with h3 | h3
      · exfalso
        unfold qcode at h0
        rw [if_pos h3] at h0
        split at h0
        · omega
        · split at h0 <;> omega
      · exact h3
    have h4 := qOf_le (qneg l) (pval (qnum l)) hd
    exact ⟨Nat.lt_of_le_of_lt h4.1 h1, Nat.lt_of_le_of_lt h4.2 h2⟩
  · exact ⟨by show 0 < _; omega, h9⟩
theorem QB.any (l : List UInt8) : QB (qval l) 2001 := by
  obtain ⟨K, hK⟩ : ∃ K, K = 1200 := ⟨_, rfl⟩
  have h := qval_any hK l
  exact ⟨Nat.le_trans (limbs_pow10 h.1) (by omega), Nat.le_trans (limbs_pow10 h.2) (by omega)⟩
theorem str_len (l : List Nat) : (str l).length = l.length := by simp [str]
theorem tis_len {l : List UInt8} (h : tis l = true) : l.length ≤ 2402 := by
  obtain ⟨K, hK⟩ : ∃ K, K = 1200 := ⟨_, rfl⟩
  have h1 := qval_any hK l
  have h2 := dec_le h1.1 (by omega)
  have h3 := dec_le h1.2 (by omega)
  rw [← tis_text h]
  unfold qtext
  simp only [List.length_append]
  have h4 : (if decide (qval l < 0) = true then [(45 : UInt8)] else []).length ≤ 1 := by split <;> simp
  have h5 : (if (qval l).den = 1 then [] else 47 :: str (dec (qval l).den)).length ≤ 1 + K := by
    split
    · simp
    · simp only [List.length_cons, str_len]; omega
  have h6 : (str (dec (qval l).num.natAbs)).length ≤ K := by rw [str_len]; exact h2
  omega
/-- A fraction whose digits are not too many. -/
def Fits (q : Rat) (K : Nat) : Prop := q.num.natAbs < 10 ^ K ∧ q.den < 10 ^ K
theorem Fits.mono {q : Rat} {K M : Nat} (h : Fits q K) (hK : K ≤ M) : Fits q M :=
  ⟨Nat.lt_of_lt_of_le h.1 (Nat.pow_le_pow_right (by decide) hK), Nat.lt_of_lt_of_le h.2 (Nat.pow_le_pow_right (by decide) hK)⟩
theorem Fits.val {l : List UInt8} {K : Nat} (h : l.length + 1 ≤ K) : Fits (qval l) K := qval_lt h
theorem Fits.back {q : Rat} {K : Nat} (h : Fits q K) (h1 : 1 ≤ K) (hK : K ≤ 1200) : tis (qtext q) = true ∧ qval (qtext q) = q := by
  have h2 := qparse_text q (Nat.le_trans (dec_le h.1 h1) hK) (Nat.le_trans (dec_le h.2 h1) hK)
  exact ⟨by unfold tis; exact decide_eq_true h2.1, h2.2⟩
theorem Fits.mul {a b : Rat} {i j : Nat} (ha : Fits a i) (hb : Fits b j) : Fits (a * b) (i + j) := by
  rw [← qmul_is]
  have h := qOf_le (decide (a < 0) != decide (b < 0)) (a.num.natAbs * b.num.natAbs) (Nat.mul_pos a.den_pos b.den_pos)
  refine ⟨Nat.lt_of_le_of_lt h.1 ?_, Nat.lt_of_le_of_lt h.2 ?_⟩ <;> rw [Nat.pow_add]
  · exact Nat.mul_lt_mul'' ha.1 hb.1
  · exact Nat.mul_lt_mul'' ha.2 hb.2
theorem Fits.add {a b : Rat} {i j : Nat} (ha : Fits a i) (hb : Fits b j) : Fits (a + b) (i + j + 1) := by
  rw [q_add_eq]
  have h := mkRat_le (a.num * b.den + b.num * a.den) (Nat.mul_pos a.den_pos b.den_pos)
  have h1 : (a.num * b.den + b.num * a.den).natAbs ≤ a.num.natAbs * b.den + b.num.natAbs * a.den := by
    refine Nat.le_trans (Int.natAbs_add_le _ _) ?_
    rw [Int.natAbs_mul, Int.natAbs_mul]; simp
  have h2 : a.num.natAbs * b.den < 10 ^ i * 10 ^ j := Nat.mul_lt_mul'' ha.1 hb.2
  have h3 : b.num.natAbs * a.den < 10 ^ j * 10 ^ i := Nat.mul_lt_mul'' hb.1 ha.2
  have h4 : a.den * b.den < 10 ^ i * 10 ^ j := Nat.mul_lt_mul'' ha.2 hb.2
  rw [Nat.mul_comm (10 ^ j)] at h3
  rw [← Nat.pow_add] at h2 h3 h4
  have h5 : 10 ^ (i + j + 1) = 10 ^ (i + j) * 10 := Nat.pow_succ _ _
  exact ⟨by omega, by omega⟩
theorem Fits.neg {a : Rat} {i : Nat} (h : Fits a i) : Fits (-a) i := by
  unfold Fits; rw [(qneg_num a).1, (qneg_num a).2]; exact h
theorem Fits.int {z : Int} {K : Nat} (h : z.natAbs < 10 ^ K) (hK : 1 ≤ K) : Fits (z : Rat) K := by
  have h9 : 1 < 10 ^ K := Nat.one_lt_pow (by omega) (by decide)
  exact ⟨by simpa using h, by simpa using h9⟩
theorem floor_bound (a : Rat) : a.floor.natAbs ≤ a.num.natAbs + 1 := by
  have h1 : a.floor = a.num / a.den := by rw [Rat.floor_def]
  rw [h1]
  have h2 : 0 < (a.den : Int) := by have := a.den_pos; omega
  have h3 := Int.ediv_mul_add_emod a.num a.den
  have h4 := Int.emod_nonneg a.num (show (a.den : Int) ≠ 0 by omega)
  have h5 := Int.emod_lt_of_pos a.num h2
  generalize a.num / (a.den : Int) = q at *
  have h6 : q.natAbs ≤ (q * a.den).natAbs := by
    rw [Int.natAbs_mul]
    exact Nat.le_mul_of_pos_right _ (by omega)
  rcases Int.lt_or_le q 0 with hq | hq
  · have h7 : q * a.den ≤ q := by
      have : q * (a.den : Int) ≤ q * 1 := Int.mul_le_mul_of_nonpos_left (by omega) (by omega)
      omega
    have h8 : (q + 1) * (a.den : Int) ≤ q + 1 := by
      have : (q + 1) * (a.den : Int) ≤ (q + 1) * 1 := Int.mul_le_mul_of_nonpos_left (by omega) (by omega)
      omega
    rw [Int.add_mul] at h8
    omega
  · have h7 : q ≤ q * a.den := by
      have : q * 1 ≤ q * (a.den : Int) := Int.mul_le_mul_of_nonneg_left (by omega) hq
      omega
    omega
theorem Fits.floor {a : Rat} {i : Nat} (h : Fits a i) (hi : 1 ≤ i) : Fits (a.floor : Rat) (i + 1) := by
  refine Fits.int ?_ (by omega)
  have h1 := floor_bound a
  have h2 := h.1
  have h3 : 10 ^ (i + 1) = 10 ^ i * 10 := Nat.pow_succ _ _
  omega
theorem floor_int (z : Int) : ((z : Rat)).floor = z := Rat.floor_intCast z
theorem tcast_fits {a : Rat} {i : Nat} (c : Int) (h : Fits a i) (hi : 1 ≤ i) : Fits (tcast c a) (i + 3) := by
  unfold tcast
  have hh : Fits half 1 := ⟨by rw [half_num]; decide, by rw [half_den]; decide⟩
  split
  · by_cases hn : decide (a < 0) = false
    · rw [← qround_pos hn]
      exact ((h.add hh).floor (by omega)).mono (by omega)
    · have h1 : decide (-a < 0) = false := by
        rw [decide_eq_false_iff_not]
        have : a < 0 := by simpa using hn
        grind
      have h2 := qround_neg a
      have h3 : qround a = -((-a + half).floor : Rat) := by rw [qround_pos h1, h2]; grind
      rw [h3]
      exact (((h.neg.add hh).floor (by omega)).neg).mono (by omega)
  · split
    · exact ((h.neg.floor hi).neg).mono (by omega)
    · split
      · exact (h.floor hi).mono (by omega)
      · exact h.mono (by omega)
/-- What is whole stays. -/
theorem tcast_int (c : Int) (z : Int) : tcast c (z : Rat) = (z : Rat) := by
  unfold tcast
  have hf : ((z : Rat)).floor = z := floor_int z
  have hn : -(((-(z : Rat)).floor : Int) : Rat) = (z : Rat) := by
    rw [show -(z : Rat) = ((-z : Int) : Rat) by simp, floor_int]; simp
  split
  · by_cases h : decide ((z : Rat) < 0) = false
    · have h1 := near_pos h
      have h2 := qround_den (z : Rat)
      have h3 : ((z : Rat) + half).floor = z := by
        have h4 : half = 1 / 2 := by decide +kernel
        have h5 : (z : Rat) ≤ (z : Rat) + half := by rw [h4]; grind
        have h6 : (z : Rat) + half < ((z + 1 : Int) : Rat) := by rw [h4]; simp; grind
        have h7 := Rat.le_floor_iff.2 h5
        have h8 := Rat.floor_lt_iff.2 h6
        omega
      rw [← qround_pos h, h3]
    · have h1 : decide (-(z : Rat) < 0) = false := by
        rw [decide_eq_false_iff_not]
        have : (z : Rat) < 0 := by simpa using h
        grind
      have h2 := qround_neg (z : Rat)
      have h3 : (-(z : Rat) + half).floor = -z := by
        have h4 : half = 1 / 2 := by decide +kernel
        have h0 : -(z : Rat) = ((-z : Int) : Rat) := by simp
        rw [h0]
        have h5 : ((-z : Int) : Rat) ≤ ((-z : Int) : Rat) + half := by rw [h4]; grind
        have h6 : ((-z : Int) : Rat) + half < ((-z + 1 : Int) : Rat) := by rw [h4]; simp; grind
        have h7 := Rat.le_floor_iff.2 h5
        have h8 := Rat.floor_lt_iff.2 h6
        omega
      have h4 := qround_pos h1
      rw [h3, h2] at h4
      have : qround (z : Rat) = -((-z : Int) : Rat) := by rw [h4]; grind
      rw [this]; simp
  · split
    · exact hn
    · split
      · rw [hf]
      · rfl
theorem tcast_whole {c : Int} (h : c = 1 ∨ c = 2 ∨ c = 3) (a : Rat) : ∃ z : Int, tcast c a = (z : Rat) := by
  have hi : ∀ q : Rat, q.den = 1 → ∃ z : Int, q = (z : Rat) := fun q hq => ⟨q.num, by
    have h9 := Rat.mkRat_self q
    rw [hq, Rat.mkRat_one] at h9
    exact h9.symm⟩
  unfold tcast
  rcases h with rfl | rfl | rfl
  · simp only [if_true]
    exact hi _ (qround_den a)
  · exact ⟨-((-a).floor), by simp⟩
  · exact ⟨a.floor, by simp⟩
theorem tcast_twice (c : Int) (a : Rat) : tcast c (tcast c a) = tcast c a := by
  by_cases h : c = 1 ∨ c = 2 ∨ c = 3
  · obtain ⟨z, hz⟩ := tcast_whole h a
    rw [hz, tcast_int]
  · have h1 : ∀ r, tcast c r = r := fun r => by
      unfold tcast
      rw [if_neg (by omega), if_neg (by omega), if_neg (by omega)]
    rw [h1, h1]

/-! The laws. -/
theorem thigh_nil (r : Rat) : thigh r [] = r := by unfold thigh; rw [if_neg (by rw [tis_nil]; simp)]
theorem tlow_nil (r : Rat) : tlow r [] = r := by unfold tlow; rw [if_neg (by rw [tis_nil]; simp)]
theorem tmul_nil (r : Rat) : tmul r [] = r := by unfold tmul; rw [if_neg (by rw [tis_nil]; simp)]
theorem tadd_nil (r : Rat) : tadd r [] = r := by unfold tadd; rw [if_neg (by rw [tis_nil]; simp)]
theorem tcast_zero (r : Rat) : tcast 0 r = r := rfl
theorem tapply_no {mn mx fa co : List UInt8} {c : Int} {num : List UInt8} (h : tis num = false) : tapply mn mx fa co c num = [] := by
  unfold tapply; rw [h]; simp
theorem tapply_yes {mn mx fa co : List UInt8} {c : Int} {num : List UInt8} (h : tis num = true) (h1 : tok mn = true) (h2 : tok mx = true) (h3 : tok fa = true) (h4 : tok co = true) : tapply mn mx fa co c num = qtext (tgval mn mx fa co c (qval num)) := by
  unfold tapply; rw [h, h1, h2, h3, h4]; simp
theorem clamp_cases (r : Rat) (mn mx : List UInt8) : thigh (tlow r mn) mx = r ∨ (tis mn = true ∧ thigh (tlow r mn) mx = qval mn) ∨ (tis mx = true ∧ thigh (tlow r mn) mx = qval mx) := by
  unfold thigh
  split
  · rename_i h; exact .inr (.inr ⟨h.1, rfl⟩)
  · unfold tlow
    split
    · rename_i h; exact .inr (.inl ⟨h.1, rfl⟩)
    · exact .inl rfl
theorem clamp_fits {r : Rat} {mn mx : List UInt8} {K : Nat} (h : Fits r K) (h1 : mn.length + 1 ≤ K) (h2 : mx.length + 1 ≤ K) : Fits (thigh (tlow r mn) mx) K := by
  rcases clamp_cases r mn mx with h3 | ⟨_, h3⟩ | ⟨_, h3⟩ <;> rw [h3]
  · exact h
  · exact Fits.val h1
  · exact Fits.val h2
theorem tok_le {s : List UInt8} (h : tok s = true) : s = [] ∨ tis s = true := by
  unfold tok at h; simpa using h
theorem tvalid_parts {mn mx fa co : List UInt8} {c : Int} (h : tvalid mn mx fa co c = true) : tok fa = true ∧ tok co = true ∧ tok mn = true ∧ tok mx = true ∧ (tis mn = true → tis mx = true → qval mn ≤ qval mx) ∧ 0 ≤ c ∧ c ≤ 3 := by
  unfold tvalid at h
  simp only [Bool.and_eq_true, Bool.or_eq_true, Bool.not_eq_true', decide_eq_true_eq] at h
  obtain ⟨⟨⟨⟨⟨⟨h1, h2⟩, h3⟩, h4⟩, h5⟩, h6⟩, h7⟩ := h
  refine ⟨h1, h2, h3, h4, fun a b => ?_, h6, h7⟩
  rcases h5 with (h5 | h5) | h5
  · rw [a] at h5; cases h5
  · rw [b] at h5; cases h5
  · rcases Classical.em (qval mn ≤ qval mx) with h8 | h8
    · exact h8
    · have := qcmp_gt (Rat.not_le.1 h8); omega
theorem clamp_twice {r : Rat} {mn mx : List UInt8} (h : tis mn = true → tis mx = true → qval mn ≤ qval mx) : thigh (tlow (thigh (tlow r mn) mx) mn) mx = thigh (tlow r mn) mx := by
  have h9 : ∀ q : Rat, (tis mn = true → qval mn ≤ q) → (tis mx = true → q ≤ qval mx) → thigh (tlow q mn) mx = q := fun q h1 h2 => by
    have e : tlow q mn = q := by
      unfold tlow; rw [if_neg (fun h3 => by have := h1 h3.1; exact (Rat.not_lt.2 this) h3.2)]
    rw [e]; unfold thigh; rw [if_neg (fun h3 => by have := h2 h3.1; exact (Rat.not_lt.2 this) h3.2)]
  have hl : tis mn = true → qval mn ≤ tlow r mn := fun h1 => by
    unfold tlow; split
    · exact Rat.le_refl
    · rename_i h2; exact Rat.not_lt.1 (fun h3 => h2 ⟨h1, h3⟩)
  refine h9 _ (fun h1 => ?_) (fun h1 => ?_)
  · unfold thigh; split
    · rename_i h2; exact h h1 h2.1
    · exact hl h1
  · unfold thigh; split
    · exact Rat.le_refl
    · rename_i h2; exact Rat.not_lt.1 (fun h3 => h2 ⟨h1, h3⟩)
theorem plain_a (num : List UInt8) : tapply [] [] [] [] 0 num = if tis num = true then num else [] := by
  by_cases h : tis num = true
  · rw [if_pos h, tapply_yes h rfl rfl rfl rfl]
    unfold tgval
    rw [tlow_nil, thigh_nil, tmul_nil, tadd_nil, tcast_zero, tis_text h]
  · rw [if_neg h, tapply_no (by simpa using h)]
/-- TargetPlain's laws. -/
theorem plain_law {mn mx num : List UInt8} (hl : mn.length + mx.length + num.length ≤ 300) (hn : tis num = true) (hv : tvalid mn mx [] [] 0 = true) :
    tapply mn mx [] [] 0 num ≠ [] ∧ tapply mn mx [] [] 0 (tapply mn mx [] [] 0 num) = tapply mn mx [] [] 0 num ∧ (tapply mn mx [] [] 0 num = num ∨ tapply mn mx [] [] 0 num = mn ∨ tapply mn mx [] [] 0 num = mx) := by
  obtain ⟨_, _, h1, h2, h3, _, _⟩ := tvalid_parts hv
  have e : ∀ s, tis s = true → tapply mn mx [] [] 0 s = qtext (thigh (tlow (qval s) mn) mx) := fun s hs => by
    rw [tapply_yes hs h1 h2 rfl rfl]
    unfold tgval
    rw [tmul_nil, tadd_nil, tcast_zero]
  have hf : Fits (thigh (tlow (qval num) mn) mx) 301 := clamp_fits (Fits.val (by omega)) (by omega) (by omega)
  obtain ⟨hb1, hb2⟩ := hf.back (by decide) (by decide)
  rw [e num hn]
  refine ⟨qtext_ne _, ?_, ?_⟩
  · rw [e _ hb1, hb2, clamp_twice h3]
  · rcases clamp_cases (qval num) mn mx with h4 | ⟨h5, h4⟩ | ⟨h5, h4⟩ <;> rw [h4]
    · exact .inl (tis_text hn)
    · exact .inr (.inl (tis_text h5))
    · exact .inr (.inr (tis_text h5))
/-- TargetSteps' laws. -/
theorem steps_law {mn mx fa co num : List UInt8} {c : Int} (hl : mn.length + mx.length + fa.length + co.length + num.length ≤ 400) (hv : tvalid mn mx fa co c = true) :
    tapply mn mx fa co c num = tapply [] [] [] [] c (tapply [] [] [] co 0 (tapply [] [] fa [] 0 (tapply mn mx [] [] 0 num))) ∧
    (c = 0 ∨ tapply mn mx fa co c num = [] ∨ tapply [] [] [] [] c (tapply mn mx fa co c num) = tapply mn mx fa co c num) := by
  obtain ⟨h1, h2, h3, h4, _, _, _⟩ := tvalid_parts hv
  by_cases hn : tis num = true
  · obtain ⟨r1, hr1⟩ : ∃ r, r = thigh (tlow (qval num) mn) mx := ⟨_, rfl⟩
    have hK1 : Fits r1 (mn.length + mx.length + num.length + 1) := by rw [hr1]; exact clamp_fits (Fits.val (by omega)) (by omega) (by omega)
    have ea : tapply mn mx [] [] 0 num = qtext r1 := by
      rw [tapply_yes hn h3 h4 rfl rfl]
      unfold tgval
      rw [tmul_nil, tadd_nil, tcast_zero, hr1]
    obtain ⟨ba, va⟩ := hK1.back (by omega) (by omega)
    obtain ⟨r2, hr2⟩ : ∃ r, r = tmul r1 fa := ⟨_, rfl⟩
    have hK2 : Fits r2 (mn.length + mx.length + num.length + 1 + (fa.length + 1)) := by
      rw [hr2]; unfold tmul; split
      · exact hK1.mul (Fits.val (Nat.le_refl _))
      · exact hK1.mono (by omega)
    have eb : tapply [] [] fa [] 0 (qtext r1) = qtext r2 := by
      rw [tapply_yes ba rfl rfl h1 rfl, va]
      unfold tgval
      rw [tlow_nil, thigh_nil, tadd_nil, tcast_zero, hr2]
    obtain ⟨bb, vb⟩ := hK2.back (by omega) (by omega)
    obtain ⟨r3, hr3⟩ : ∃ r, r = tadd r2 co := ⟨_, rfl⟩
    have hK3 : Fits r3 (mn.length + mx.length + num.length + 1 + (fa.length + 1) + (co.length + 1) + 1) := by
      rw [hr3]; unfold tadd; split
      · exact hK2.add (Fits.val (Nat.le_refl _))
      · exact hK2.mono (by omega)
    have ec : tapply [] [] [] co 0 (qtext r2) = qtext r3 := by
      rw [tapply_yes bb rfl rfl rfl h2, vb]
      unfold tgval
      rw [tlow_nil, thigh_nil, tmul_nil, tcast_zero, hr3]
    obtain ⟨bc, vc⟩ := hK3.back (by omega) (by omega)
    have ed : tapply [] [] [] [] c (qtext r3) = qtext (tcast c r3) := by
      rw [tapply_yes bc rfl rfl rfl rfl, vc]
      unfold tgval
      rw [tlow_nil, thigh_nil, tmul_nil, tadd_nil]
    have e : tapply mn mx fa co c num = qtext (tcast c r3) := by
      rw [tapply_yes hn h3 h4 h1 h2]
      unfold tgval
      rw [hr3, hr2, hr1]
    obtain ⟨bd, vd⟩ := (tcast_fits c hK3 (by omega)).back (by omega) (by omega)
    rw [e, ea, eb, ec, ed]
    refine ⟨rfl, .inr (.inr ?_)⟩
    rw [tapply_yes bd rfl rfl rfl rfl, vd]
    unfold tgval
    rw [tlow_nil, thigh_nil, tmul_nil, tadd_nil, tcast_twice]
  · have hn' : tis num = false := by simpa using hn
    rw [tapply_no hn', tapply_no (mn := mn) (mx := mx) hn', tapply_no tis_nil, tapply_no tis_nil, tapply_no tis_nil]
    exact ⟨rfl, .inr (.inl rfl)⟩
/-- What is made is never long. -/
theorem qtext_len {q : Rat} {K : Nat} (h : Fits q K) (hK : 1 ≤ K) : (qtext q).length ≤ 2 * K + 2 := by
  have h2 := dec_le h.1 hK
  have h3 := dec_le h.2 hK
  unfold qtext
  simp only [List.length_append]
  have h4 : (if decide (q < 0) = true then [(45 : UInt8)] else []).length ≤ 1 := by split <;> simp
  have h5 : (if q.den = 1 then [] else 47 :: str (dec q.den)).length ≤ 1 + K := by
    split
    · simp
    · simp only [List.length_cons, str_len]; omega
  have h6 : (str (dec q.num.natAbs)).length ≤ K := by rw [str_len]; exact h2
  omega
theorem tapply_len (mn mx fa co : List UInt8) (c : Int) (num : List UInt8) : (tapply mn mx fa co c num).length ≤ 7210 := by
  unfold tapply
  split
  · obtain ⟨K, hK⟩ : ∃ K, K = 1200 := ⟨_, rfl⟩
    have hf : ∀ l, Fits (qval l) K := fun l => qval_any hK l
    have h1 : Fits (thigh (tlow (qval num) mn) mx) K := by
      rcases clamp_cases (qval num) mn mx with h3 | ⟨_, h3⟩ | ⟨_, h3⟩ <;> rw [h3] <;> exact hf _
    have h2 : Fits (tmul (thigh (tlow (qval num) mn) mx) fa) (K + K) := by
      unfold tmul; split
      · exact h1.mul (hf _)
      · exact h1.mono (by omega)
    have h3 : Fits (tadd (tmul (thigh (tlow (qval num) mn) mx) fa) co) (K + K + K + 1) := by
      unfold tadd; split
      · exact h2.add (hf _)
      · exact h2.mono (by omega)
    have h4 := qtext_len (tcast_fits c h3 (by omega)) (by omega)
    exact Nat.le_trans h4 (by omega)
  · exact Nat.zero_le _
end Go.Proofs.YtnajnbgjmgkcoaaGreatDoor
