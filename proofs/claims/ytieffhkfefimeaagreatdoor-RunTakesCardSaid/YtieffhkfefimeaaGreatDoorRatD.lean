import Derived.Test.YtieffhkfefimeaaGreatDoorRatC
import Derived.Test.YtieffhkfefimeaaGreatDoorStrQ
namespace Go.Proofs.YtieffhkfefimeaaGreatDoor
open Go.RowKit
set_option linter.unusedVariables false
set_option linter.unusedSimpArgs false
attribute [local go_sem] field_nat
theorem den0_one {a : Rat} (h : ¬ a.den = 1) : den0 a = a.den := by
  unfold den0
  rw [if_neg (fun h0 => h (by rw [h0]; rfl))]
theorem qb_pw {a : Rat} (hs : Hid (false = decide (a < 0))) (h : a.den = 1) : (⟨(str (dec a.num.natAbs)).toArray⟩ : ByteArray) = ⟨(qtext a).toArray⟩ := by
  unfold qtext; rw [← hs.out, if_pos h]; simp
theorem qb_nw {a : Rat} (hs : Hid (true = decide (a < 0))) (h : a.den = 1) : (⟨#[45]⟩ ++ ⟨(str (dec a.num.natAbs)).toArray⟩ : ByteArray) = ⟨(qtext a).toArray⟩ := by
  unfold qtext; rw [← hs.out, if_pos h, cons_bytes]; simp
theorem qb_pf {a : Rat} (hs : Hid (false = decide (a < 0))) (h : ¬ a.den = 1) : (⟨(str (dec a.num.natAbs)).toArray⟩ ++ (⟨#[47]⟩ ++ ⟨(str (dec a.den)).toArray⟩) : ByteArray) = ⟨(qtext a).toArray⟩ := by
  unfold qtext; rw [← hs.out, if_neg h, cons_bytes, bytes_append]; simp
theorem qb_nf {a : Rat} (hs : Hid (true = decide (a < 0))) (h : ¬ a.den = 1) : ((⟨#[45]⟩ ++ ⟨(str (dec a.num.natAbs)).toArray⟩) ++ (⟨#[47]⟩ ++ ⟨(str (dec a.den)).toArray⟩) : ByteArray) = ⟨(qtext a).toArray⟩ := by
  unfold qtext; rw [← hs.out, if_neg h, cons_bytes, cons_bytes, bytes_append]; simp
theorem pcode_cases (l : List UInt8) : pcode l = 0 ∨ pcode l = 2 ∨ pcode l = 3 := by
  unfold pcode; split <;> (try split) <;> simp
theorem pval_ltK {l : List UInt8} {K : Nat} (hK : 1200 ≤ K) : pval l < 10 ^ K := by
  have h0 : 0 < 10 ^ K := Nat.pow_pos (by decide)
  unfold pval
  split
  · rename_i hok
    split
    · exact h0
    · rename_i hlen
      simp only [numOk, Bool.and_eq_true] at hok
      exact Nat.lt_of_lt_of_le (dnum_lt l hok.1) (Nat.pow_le_pow_right (by decide) (by omega))
  · exact h0
theorem pval_limK {l : List UInt8} {K : Nat} (hK : 1200 ≤ K) : (limbs (pval l)).length ≤ K := limbs_pow10 (pval_ltK hK)
theorem pval_lim (l : List UInt8) : (limbs (pval l)).length ≤ 1200 := pval_limK (Nat.le_refl _)
theorem dec_limbsK {n k K : Nat} (h : (limbs n).length ≤ k) (hK : 10 * k + 1 ≤ K) : (str (dec n)).length ≤ K := by
  have h1 := lt_pow_limbs n
  have h2 : n < 10 ^ K := by
    refine Nat.lt_of_lt_of_le h1 (Nat.le_trans (Nat.pow_le_pow_right (by decide) h) ?_)
    refine Nat.le_trans (Nat.pow_le_pow_left (show 4294967296 ≤ 10 ^ 10 by decide) k) ?_
    rw [← Nat.pow_mul]
    exact Nat.pow_le_pow_right (by decide) (by omega)
  have h3 := dec_le h2 (by omega)
  simpa [str] using h3
set_option maxRecDepth 100000 in
set_option maxHeartbeats 1000000 in
/-- Text. -/
theorem qtext_any (va : Value) (a : Rat) (w : World) (ha : QIs w va a) (hla : QB a 100000) :
    Calls Tryz.prog 46 #[va] w fun e w' => e = .returned (.string ⟨(qtext a).toArray⟩) ∧ Below w.heap.size w w' := by
  obtain ⟨aB, axO, axL, axC, ayO, ayL, ayC, rfl, hS, hax, hay⟩ := ha.form
  have HaS := Lib.hid hS; clear hS
  obtain ⟨w0, hw0⟩ : ∃ w0, w0 = (w.alloc (.cells #[.bool aB, .slice axO axL axC, .slice ayO ayL ayC] 81)) := ⟨_, rfl⟩
  have hbf : Below w.heap.size w w0 := by rw [hw0]; exact ((Below.refl _ w).alloc (Nat.le_refl _) _)
  obtain ⟨pa, hpa⟩ : ∃ p, p = w.heap.size := ⟨_, rfl⟩
  have hba : Box3 w0 pa (Value.bool aB) (Value.slice axO axL axC) (Value.slice ayO ayL ayC) := by rw [hw0, hpa]; exact ⟨by go_simp, by go_simp, by go_simp, by go_simp, by go_simp, by go_simp⟩
  have HP : Hid (w.heap.size ≤ pa) := Lib.hid (by omega)
  replace ha := ha.below hbf
  replace hax := hax.below hbf
  replace hay := hay.below hbf
  have HW := Lib.hid hw0; clear hw0
  go_enter Tryz.func46, Tryz.ntmps46
  go_upto_region 1 with fail
  rw [← HW.out, ← hpa]
  clear hpa HW
  have hla1 := hla.1
  have hla2 := hla.2
  have ea0 := hba.c0
  have ea1 := hba.c1
  have ea2 := hba.c2
  go_wp2_with fail
  refine (text_any _ a.num.natAbs _ hax (by omega)).mono ?_
  rintro e w1 ⟨rfl, hb⟩
  clear ea0 ea1 ea2
  replace hba := hba.kept hb
  replace ha := ha.below hb
  replace hax := hax.below hb
  replace hay := hay.below hb
  replace hbf := hbf.trans (hb.mono hbf.size)
  clear hb
  obtain ⟨T, hT⟩ : ∃ T, T = str (dec a.num.natAbs) := ⟨_, rfl⟩
  obtain ⟨D, hD⟩ : ∃ D, D = str (dec a.den) := ⟨_, rfl⟩
  rw [← hT]
  have hTl : T.length ≤ 1000001 := by rw [hT]; exact dec_limbsK hla1 (by omega)
  have hDl : D.length ≤ 1000001 := by rw [hD]; exact dec_limbsK hla2 (by omega)
  have hTi : (0 : Int) + 1 + (T.length : Int) ≤ 9223372036854775807 := by omega
  have HT := Lib.hid hT.symm; clear hT
  have HDD := Lib.hid hD.symm; clear hD
  cases aB
  case false =>
    have ea0 := hba.c0
    have ea1 := hba.c1
    have ea2 := hba.c2
    go_wp2_with fail
    refine (whole_any _ a _ ha).mono ?_
    rintro e w2 ⟨rfl, hb⟩
    clear ea0 ea1 ea2
    replace hba := hba.kept hb
    replace ha := ha.below hb
    replace hax := hax.below hb
    replace hay := hay.below hb
    replace hbf := hbf.trans (hb.mono hbf.size)
    clear hb
    by_cases h1 : a.den = 1
    case pos =>
      rw [decide_eq_true h1]
      have hq := qb_pw HaS h1
      rw [HT.out] at hq
      have HQ := Lib.hid hq; clear hq h1
      go_wp2_with fail
      go_ret
      exact ⟨ret_one (by rw [← HQ.out]; rfl), hbf⟩
    rw [decide_eq_false h1]
    have hq := qb_pf HaS h1
    rw [HT.out, HDD.out] at hq
    have HQ := Lib.hid hq; clear hq
    rw [den0_one h1] at hay
    clear h1
    have ea0 := hba.c0
    have ea1 := hba.c1
    have ea2 := hba.c2
    go_wp2_with fail
    refine (text_any _ a.den _ hay (by omega)).mono ?_
    rintro e w3 ⟨rfl, hb⟩
    clear ea0 ea1 ea2
    replace hba := hba.kept hb
    replace ha := ha.below hb
    replace hax := hax.below hb
    replace hay := hay.below hb
    replace hbf := hbf.trans (hb.mono hbf.size)
    clear hb
    rw [HDD.out]
    go_wp2_with fail
    go_ret
    exact ⟨ret_one (by rw [← HQ.out]; rfl), hbf⟩
  case true =>
    have ea0 := hba.c0
    have ea1 := hba.c1
    have ea2 := hba.c2
    go_wp2_with fail
    refine (whole_any _ a _ ha).mono ?_
    rintro e w2 ⟨rfl, hb⟩
    clear ea0 ea1 ea2
    replace hba := hba.kept hb
    replace ha := ha.below hb
    replace hax := hax.below hb
    replace hay := hay.below hb
    replace hbf := hbf.trans (hb.mono hbf.size)
    clear hb
    by_cases h1 : a.den = 1
    case pos =>
      rw [decide_eq_true h1]
      have hq := qb_nw HaS h1
      rw [HT.out] at hq
      have HQ := Lib.hid hq; clear hq h1
      go_wp2_with fail
      go_ret
      exact ⟨ret_one (by rw [← HQ.out]; rfl), hbf⟩
    rw [decide_eq_false h1]
    have hq := qb_nf HaS h1
    rw [HT.out, HDD.out] at hq
    have HQ := Lib.hid hq; clear hq
    rw [den0_one h1] at hay
    clear h1
    have ea0 := hba.c0
    have ea1 := hba.c1
    have ea2 := hba.c2
    go_wp2_with fail
    refine (text_any _ a.den _ hay (by omega)).mono ?_
    rintro e w3 ⟨rfl, hb⟩
    clear ea0 ea1 ea2
    replace hba := hba.kept hb
    replace ha := ha.below hb
    replace hax := hax.below hb
    replace hay := hay.below hb
    replace hbf := hbf.trans (hb.mono hbf.size)
    clear hb
    rw [HDD.out]
    go_wp2_with fail
    go_ret
    exact ⟨ret_one (by rw [← HQ.out]; rfl), hbf⟩
end Go.Proofs.YtieffhkfefimeaaGreatDoor
