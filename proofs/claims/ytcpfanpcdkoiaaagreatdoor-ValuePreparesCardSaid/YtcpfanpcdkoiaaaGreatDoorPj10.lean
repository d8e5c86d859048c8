/-
  Pj10: RatD HeapG StrD (what is needed of them).
-/
import Derived.Test.YtcpfanpcdkoiaaaGreatDoorPj07
import Derived.Test.YtcpfanpcdkoiaaaGreatDoorPj08
import Derived.Test.YtcpfanpcdkoiaaaGreatDoorPj09
set_option maxRecDepth 100000
set_option linter.unusedVariables false
set_option linter.unusedSimpArgs false

namespace Go.Proofs.YtcpfanpcdkoiaaaGreatDoor
open Go.RowKit


attribute [local go_sem] field_nat
theorem den0_one {a : Rat} (h : ¬ a.den = 1) : den0 a = a.den := by
 unfold den0
 rw [if_neg (fun h0 => h (by rw [h0]; rfl))]
theorem qb_pw {a : Rat} (hs : Hid (false = decide (a < 0))) (h : a.den = 1) : (⟨(str (dec a.num.natAbs)).toArray⟩ : ByteArray) = ⟨(qtext a).toArray⟩ := by
 unfold qtext; rw [← hs.out, if_pos h]; simp
theorem qb_nw {a : Rat} (hs : Hid (true = decide (a < 0))) (h : a.den = 1) : (⟨#[45]⟩ ++ ⟨(str (dec a.num.natAbs)).toArray⟩ : ByteArray) = ⟨(qtext a).toArray⟩ := by
 unfold qtext; rw [← hs.out, if_pos h, cons_bytes]; simp
theorem qb_pf {a : Rat} (hs : Hid (false = decide (a < 0))) (h : ¬ a.den = 1) : (⟨(str (dec a.num.natAbs)).toArray⟩ ++ (⟨#[47]⟩ ++ ⟨(str (dec a.den)).toArray⟩) : ByteArray) = ⟨(qtext a).toArray⟩ := by
 unfold qtext; rw [← hs.out, if_neg h, cons_bytes, bytes_append]; simp
theorem qb_nf {a : Rat} (hs : Hid (true = decide (a < 0))) (h : ¬ a.den = 1) : ((⟨#[45]⟩ ++ ⟨(str (dec a.num.natAbs)).toArray⟩) ++ (⟨#[47]⟩ ++ ⟨(str (dec a.den)).toArray⟩) : ByteArray) = ⟨(qtext a).toArray⟩ := by
 unfold qtext; rw [← hs.out, if_neg h, cons_bytes, cons_bytes, bytes_append]; simp
theorem pcode_cases (l : List UInt8) : pcode l = 0 ∨ pcode l = 2 ∨ pcode l = 3 := by
 unfold pcode; split <;> (try split) <;> simp
theorem parse_c (l : List UInt8) (c : Int) (w : World) (hl : l.length ≤ 9223372036854775807) (hc : Hid (pcode l = c)) :
  Calls Tryz.prog 159 #[.string ⟨l.toArray⟩] w fun e w' => ∃ r, e = .returned (.tuple #[r, .int .i64 c]) ∧ NatIs w' r (pval l) ∧ Below w.heap.size w w' := by
 have := parse_any l w hl
 rwa [hc.out] at this
theorem pval_ltK {l : List UInt8} {K : Nat} (hK : 1200 ≤ K) : pval l < 10 ^ K := by
 have h0 : 0 < 10 ^ K := Nat.pow_pos (by decide)
 unfold pval
 split
 ·rename_i hok
  split
  ·exact h0
  ·rename_i hlen
   simp only [numOk, Bool.and_eq_true] at hok
   exact Nat.lt_of_lt_of_le (dnum_lt l hok.1) (Nat.pow_le_pow_right (by decide) (by omega))
 ·exact h0
theorem pval_limK {l : List UInt8} {K : Nat} (hK : 1200 ≤ K) : (limbs (pval l)).length ≤ K := limbs_pow10 (pval_ltK hK)
theorem pval_lim (l : List UInt8) : (limbs (pval l)).length ≤ 1200 := pval_limK (Nat.le_refl _)
theorem parse_d (l : List UInt8) (c : Int) (w : World) (hl : (qden l).length ≤ 9223372036854775807) (hc : Hid (pcode (qden l) = c)) (h1 : Hid (qden l = [49])) :
  Calls Tryz.prog 159 #[.string ⟨#[49]⟩] w fun e w' => ∃ r, e = .returned (.tuple #[r, .int .i64 c]) ∧ NatIs w' r (pval (qden l)) ∧ Below w.heap.size w w' := by
 have := parse_c (qden l) c w hl hc
 rw [h1.out] at this ⊢
 exact this
theorem dec_limbsK {n k K : Nat} (h : (limbs n).length ≤ k) (hK : 10 * k + 1 ≤ K) : (str (dec n)).length ≤ K := by
 have h1 := lt_pow_limbs n
 have h2 : n < 10 ^ K := by
  refine Nat.lt_of_lt_of_le h1 (Nat.le_trans (Nat.pow_le_pow_right (by decide) h) ?_)
  refine Nat.le_trans (Nat.pow_le_pow_left (show 4294967296 ≤ 10 ^ 10 by decide) k) ?_
  rw [← Nat.pow_mul]
  exact Nat.pow_le_pow_right (by decide) (by omega)
 have h3 := dec_le h2 (by omega)
 simpa [str] using h3
set_option maxHeartbeats 1000000 in
theorem qtext_any (va : Value) (a : Rat) (w : World) (ha : QIs w va a) (hla : QB a 100000) :
  Calls Tryz.prog 84 #[va] w fun e w' => e = .returned (.string ⟨(qtext a).toArray⟩) ∧ Below w.heap.size w w' := by
 obtain ⟨aB, axO, axL, axC, ayO, ayL, ayC, rfl, hS, hax, hay⟩ := ha.form
 have HaS := Lib.hid hS; clear hS
 obtain ⟨w0, hw0⟩ : ∃ w0, w0 = (w.alloc (.cells #[.bool aB, .slice axO axL axC, .slice ayO ayL ayC] 113)) := ⟨_, rfl⟩
 have hbf : Below w.heap.size w w0 := by rw [hw0]; exact ((Below.refl _ w).alloc (Nat.le_refl _) _)
 obtain ⟨pa, hpa⟩ : ∃ p, p = w.heap.size := ⟨_, rfl⟩
 have hba : Box3 w0 pa (Value.bool aB) (Value.slice axO axL axC) (Value.slice ayO ayL ayC) := by rw [hw0, hpa]; exact ⟨by go_simp, by go_simp, by go_simp, by go_simp, by go_simp, by go_simp⟩
 have HP : Hid (w.heap.size ≤ pa) := Lib.hid (by omega)
 replace ha := ha.below hbf
 replace hax := hax.below hbf
 replace hay := hay.below hbf
 have HW := Lib.hid hw0; clear hw0
 go_enter Tryz.func84, Tryz.ntmps84
 go_upto_region 1 with fail
 rw [← HW.out, ← hpa]
 clear hpa HW
 have hla1 := hla.1
 have hla2 := hla.2
 have ea0 := hba.c0
 have ea1 := hba.c1
 have ea2 := hba.c2
 go_wp2_with fail
 refine (text_any _ a.num.natAbs _ hax (by omega)).mono ?_
 rintro e w1 ⟨rfl, hb⟩
 clear ea0 ea1 ea2
 replace hba := hba.kept hb
 replace ha := ha.below hb
 replace hax := hax.below hb
 replace hay := hay.below hb
 replace hbf := hbf.trans (hb.mono hbf.size)
 clear hb
 obtain ⟨T, hT⟩ : ∃ T, T = str (dec a.num.natAbs) := ⟨_, rfl⟩
 obtain ⟨D, hD⟩ : ∃ D, D = str (dec a.den) := ⟨_, rfl⟩
 rw [← hT]
 have hTl : T.length ≤ 1000001 := by rw [hT]; exact dec_limbsK hla1 (by omega)
 have hDl : D.length ≤ 1000001 := by rw [hD]; exact dec_limbsK hla2 (by omega)
 have hTi : (0 : Int) + 1 + (T.length : Int) ≤ 9223372036854775807 := by omega
 have HT := Lib.hid hT.symm; clear hT
 have HDD := Lib.hid hD.symm; clear hD
 cases aB
 case false =>
  have ea0 := hba.c0
  have ea1 := hba.c1
  have ea2 := hba.c2
  go_wp2_with fail
  refine (whole_any _ a _ ha).mono ?_
  rintro e w2 ⟨rfl, hb⟩
  clear ea0 ea1 ea2
  replace hba := hba.kept hb
  replace ha := ha.below hb
  replace hax := hax.below hb
  replace hay := hay.below hb
  replace hbf := hbf.trans (hb.mono hbf.size)
  clear hb
  by_cases h1 : a.den = 1
  case pos =>
   rw [decide_eq_true h1]
   have hq := qb_pw HaS h1
   rw [HT.out] at hq
   have HQ := Lib.hid hq; clear hq h1
   go_wp2_with fail
   go_ret
   exact ⟨ret_one (by rw [← HQ.out]; rfl), hbf⟩
  rw [decide_eq_false h1]
  have hq := qb_pf HaS h1
  rw [HT.out, HDD.out] at hq
  have HQ := Lib.hid hq; clear hq
  rw [den0_one h1] at hay
  clear h1
  have ea0 := hba.c0
  have ea1 := hba.c1
  have ea2 := hba.c2
  go_wp2_with fail
  refine (text_any _ a.den _ hay (by omega)).mono ?_
  rintro e w3 ⟨rfl, hb⟩
  clear ea0 ea1 ea2
  replace hba := hba.kept hb
  replace ha := ha.below hb
  replace hax := hax.below hb
  replace hay := hay.below hb
  replace hbf := hbf.trans (hb.mono hbf.size)
  clear hb
  rw [HDD.out]
  go_wp2_with fail
  go_ret
  exact ⟨ret_one (by rw [← HQ.out]; rfl), hbf⟩
 case true =>
  have ea0 := hba.c0
  have ea1 := hba.c1
  have ea2 := hba.c2
  go_wp2_with fail
  refine (whole_any _ a _ ha).mono ?_
  rintro e w2 ⟨rfl, hb⟩
  clear ea0 ea1 ea2
  replace hba := hba.kept hb
  replace ha := ha.below hb
  replace hax := hax.below hb
  replace hay := hay.below hb
  replace hbf := hbf.trans (hb.mono hbf.size)
  clear hb
  by_cases h1 : a.den = 1
  case pos =>
   rw [decide_eq_true h1]
   have hq := qb_nw HaS h1
   rw [HT.out] at hq
   have HQ := Lib.hid hq; clear hq h1
   go_wp2_with fail
   go_ret
   exact ⟨ret_one (by rw [← HQ.out]; rfl), hbf⟩
  rw [decide_eq_false h1]
  have hq := qb_nf HaS h1
  rw [HT.out, HDD.out] at hq
  have HQ := Lib.hid hq; clear hq
  rw [den0_one h1] at hay
  clear h1
  have ea0 := hba.c0
  have ea1 := hba.c1
  have ea2 := hba.c2
  go_wp2_with fail
  refine (text_any _ a.den _ hay (by omega)).mono ?_
  rintro e w3 ⟨rfl, hb⟩
  clear ea0 ea1 ea2
  replace hba := hba.kept hb
  replace ha := ha.below hb
  replace hax := hax.below hb
  replace hay := hay.below hb
  replace hbf := hbf.trans (hb.mono hbf.size)
  clear hb
  rw [HDD.out]
  go_wp2_with fail
  go_ret
  exact ⟨ret_one (by rw [← HQ.out]; rfl), hbf⟩
set_option maxHeartbeats 1000000 in
theorem qparse_main (l : List UInt8) (w : World) (q9 : Rat) (c9 : Int) (hq9 : Hid (q9 = qval l)) (hc9 : Hid (c9 = qcode l)) (hl : l.length ≤ 9223372036854775807) :
  Calls Tryz.prog 93 #[.string ⟨l.toArray⟩] w (QPostC w q9 c9) := by
 obtain ⟨w0, hw0⟩ : ∃ w0, w0 = (w.alloc (.cells #[.bool false, .slice none 0 0, .slice none 0 0] 113)) := ⟨_, rfl⟩
 have hbf : Below w.heap.size w w0 := by rw [hw0]; exact ((Below.refl _ w).alloc (Nat.le_refl _) _)
 obtain ⟨pr, hpr⟩ : ∃ p, p = w.heap.size := ⟨_, rfl⟩
 have hbr : Box3 w0 pr (Value.bool false) (Value.slice none 0 0) (Value.slice none 0 0) := by rw [hw0, hpr]; exact ⟨by go_simp, by go_simp, by go_simp, by go_simp, by go_simp, by go_simp⟩
 have HP : Hid (w.heap.size ≤ pr) := Lib.hid (by omega)
 have HW := Lib.hid hw0; clear hw0
 go_enter Tryz.func93, Tryz.ntmps93
 go_upto_region 1 with fail
 rw [← HW.out, ← hpr]
 clear hpr HW
 obtain ⟨body, hbody⟩ : ∃ b, b = (cutNeg l).2 := ⟨_, rfl⟩
 obtain ⟨sg, hsg⟩ : ∃ b, b = qneg l := ⟨_, rfl⟩
 have hcp := cutprefix_any l w0 (by omega)
 have hsg2 : (cutNeg l).1 = sg := hsg.symm
 rw [← hbody, hsg2] at hcp
 have HSG := Lib.hid hsg
 clear hsg hsg2
 have hbl : body.length ≤ 9223372036854775807 := by rw [hbody]; exact Nat.le_trans (cutNeg_le l) hl
 have hA : cutAt body = qnum l := by rw [hbody]; rfl
 have hB : cutOn body = qden l := by rw [hbody]; rfl
 clear hbody
 obtain ⟨ca, hca⟩ : ∃ c, c = pcode (qnum l) := ⟨_, rfl⟩
 obtain ⟨cb, hcb⟩ : ∃ c, c = pcode (qden l) := ⟨_, rfl⟩
 have HCA := Lib.hid hca.symm
 have HCB := Lib.hid hcb.symm
 have h3a := pcode_cases (qnum l)
 have h3b := pcode_cases (qden l)
 rw [← hca] at h3a
 rw [← hcb] at h3b
 have H3A := Lib.hid h3a
 have H3B := Lib.hid h3b
 clear hca hcb h3a h3b
 have hln := pval_lim (qnum l)
 have hld := pval_lim (qden l)
 have hl1 : (qnum l).length ≤ 9223372036854775807 := by have := qnum_le l; omega
 have hl2 : (qden l).length ≤ 9223372036854775807 := by have := qden_max l; omega
 go_wp2_with fail
 refine (hcp).mono ?_
 rintro e w1 ⟨rfl, hb⟩
 replace hbr := hbr.kept hb
 replace hbf := hbf.trans (hb.mono hbf.size)
 clear hb
 clear hcp
 go_wp2_with fail
 refine (cut_any body _ (by omega)).mono ?_
 rintro e w2 ⟨rfl, hb⟩
 replace hbr := hbr.kept hb
 replace hbf := hbf.trans (hb.mono hbf.size)
 clear hb
 rw [hA]
 by_cases h47 : 47 ∈ body
 case pos =>
  rw [if_pos h47, decide_eq_true h47, hB]
  clear h47 hA hB
  go_wp2_with fail
  refine (parse_c _ ca _ hl1 HCA).mono ?_
  rintro e w3 ⟨r9, rfl, hn, hb⟩
  replace hbr := hbr.kept hb
  replace hbf := hbf.trans (hb.mono hbf.size)
  clear hb
  obtain ⟨nO, nL, nC, rfl⟩ := hn.form
  obtain ⟨w4, hwE⟩ : ∃ W, W = (w3.alloc (.cells #[.slice nO nL nC] 111)) := ⟨_, rfl⟩
  have hb : Below w3.heap.size w3 w4 := by rw [hwE]; exact ((Below.refl _ w3).alloc (Nat.le_refl _) _)
  obtain ⟨pn, hpn⟩ : ∃ p, p = w3.heap.size := ⟨_, rfl⟩
  have hbn : Box w4 pn (Value.slice nO nL nC) := by rw [hwE, hpn]; exact ⟨by go_simp, by go_simp, by simp <;> omega⟩
  replace HP : Hid (w.heap.size ≤ pr ∧ pr < pn) := Lib.hid (by have h1 := HP.out; have h9 := hbf.size; have h2r := hbr.lt; omega)
  have HW := Lib.hid hwE; clear hwE
  go_upto_region 6 with fail
  rw [← HW.out, ← hpn]
  clear hpn HW
  replace hbr := hbr.kept hb
  replace hn := hn.below hb
  replace hbf := hbf.trans (hb.mono hbf.size)
  clear hb
  go_wp2_with fail
  refine (parse_c _ cb _ hl2 HCB).mono ?_
  rintro e w5 ⟨r9, rfl, hd, hb⟩
  replace hbr := hbr.kept hb
  replace hbn := hbn.kept hb
  replace hn := hn.below hb
  replace hbf := hbf.trans (hb.mono hbf.size)
  clear hb
  obtain ⟨dO, dL, dC, rfl⟩ := hd.form
  obtain ⟨w6, hwE⟩ : ∃ W, W = (w5.alloc (.cells #[.slice dO dL dC] 111)) := ⟨_, rfl⟩
  have hb : Below w5.heap.size w5 w6 := by rw [hwE]; exact ((Below.refl _ w5).alloc (Nat.le_refl _) _)
  obtain ⟨pd, hpd⟩ : ∃ p, p = w5.heap.size := ⟨_, rfl⟩
  have hbd : Box w6 pd (Value.slice dO dL dC) := by rw [hwE, hpd]; exact ⟨by go_simp, by go_simp, by simp <;> omega⟩
  replace HP : Hid (w.heap.size ≤ pr ∧ pr < pn ∧ pn < pd) := Lib.hid (by have h1 := HP.out; have h9 := hbf.size; have h2n := hbn.lt; omega)
  have HW := Lib.hid hwE; clear hwE
  go_upto_region 7 with fail
  rw [← HW.out, ← hpd]
  clear hpd HW
  replace hbr := hbr.kept hb
  replace hbn := hbn.kept hb
  replace hn := hn.below hb
  replace hd := hd.below hb
  replace hbf := hbf.trans (hb.mono hbf.size)
  clear hb
  rcases H3A.out with rfl | rfl | rfl
  ·rcases H3B.out with rfl | rfl | rfl
   ·skip
    by_cases hd0 : pval (qden l) = 0
    case pos =>
     have hqc : qcode l = 3 := by unfold qcode; simp [HCA.out, HCB.out, hd0]
     obtain rfl : c9 = 3 := hc9.out.trans hqc
     obtain rfl : q9 = 0 := hq9.out.trans (by unfold qval; rw [hqc]; simp)
     clear hqc
     rw [hd0] at hd
     clear hd0
     have en := hbn.cell
     have ed := hbd.cell
     go_wp2_with fail
     refine (make_zero sg _ _ (pval (qnum l)) _ hn hd (by omega)).mono ?_
     rintro e w7 ⟨r9, rfl, hm, hb⟩
     clear en ed
     replace hbr := hbr.kept hb
     replace hbn := hbn.kept hb
     replace hbd := hbd.kept hb
     replace hn := hn.below hb
     replace hd := hd.below hb
     replace hbf := hbf.trans (hb.mono hbf.size)
     clear hb
     obtain ⟨ms, mxO, mxL, mxC, myO, myL, myC, rfl, -, -, -⟩ := hm.form
     obtain ⟨w8, hwE⟩ : ∃ W, W = (w7.alloc (.cells #[.bool ms, .slice mxO mxL mxC, .slice myO myL myC] 113)) := ⟨_, rfl⟩
     have hb : Below w7.heap.size w7 w8 := by rw [hwE]; exact ((Below.refl _ w7).alloc (Nat.le_refl _) _)
     obtain ⟨pm, hpm⟩ : ∃ p, p = w7.heap.size := ⟨_, rfl⟩
     have hbm : Box3 w8 pm (Value.bool ms) (Value.slice mxO mxL mxC) (Value.slice myO myL myC) := by rw [hwE, hpm]; exact ⟨by go_simp, by go_simp, by go_simp, by go_simp, by go_simp, by go_simp⟩
     replace HP : Hid (w.heap.size ≤ pr ∧ pr < pn ∧ pn < pd ∧ pd < pm) := Lib.hid (by have h1 := HP.out; have h9 := hbf.size; have h2d := hbd.lt; omega)
     have HW := Lib.hid hwE; clear hwE
     go_upto_region 12 with fail
     rw [← HW.out, ← hpm]
     clear hpm HW
     replace hbr := hbr.kept hb
     replace hbn := hbn.kept hb
     replace hbd := hbd.kept hb
     replace hn := hn.below hb
     replace hd := hd.below hb
     replace hm := hm.below hb
     replace hbf := hbf.trans (hb.mono hbf.size)
     clear hb
     have er0 := hbr.c0
     have fr0 := hbr.f0
     have er1 := hbr.c1
     have fr1 := hbr.f1
     have er2 := hbr.c2
     have fr2 := hbr.f2
     go_wp2_with fail
     exact end_qc rfl rfl rfl rfl hbr (show w.heap.size ≤ pr by have := HP.out; omega) (QIs.zero _) hbf
    have hmk : qOf sg (pval (qnum l)) (pval (qden l)) = qmade l := by rw [HSG.out]; rfl
    have HM : Hid (qmade l = qmade l ∧ 0 < pval (qden l)) := Lib.hid ⟨rfl, by omega⟩
    have HN0 := Lib.hid hd0; clear hd0
    have en := hbn.cell
    have ed := hbd.cell
    go_wp2_with fail
    refine (make_ok sg _ _ _ _ _ hn hd (by omega) (by omega) HM.out.2).mono ?_
    rintro e w7 ⟨r9, rfl, hm, hb⟩
    rw [hmk] at hm
    clear hmk
    obtain ⟨mB, mxO, mxL, mxC, myO, myL, myC, rfl, -, -, -⟩ := hm.form
    clear en ed
    replace hbr := hbr.kept hb
    replace hbn := hbn.kept hb
    replace hbd := hbd.kept hb
    replace hn := hn.below hb
    replace hd := hd.below hb
    replace hbf := hbf.trans (hb.mono hbf.size)
    clear hb
    obtain ⟨w8, hwE⟩ : ∃ W, W = (w7.alloc (.cells #[.bool mB, .slice mxO mxL mxC, .slice myO myL myC] 113)) := ⟨_, rfl⟩
    have hb : Below w7.heap.size w7 w8 := by rw [hwE]; exact ((Below.refl _ w7).alloc (Nat.le_refl _) _)
    obtain ⟨pm, hpm⟩ : ∃ p, p = w7.heap.size := ⟨_, rfl⟩
    have hbm : Box3 w8 pm (Value.bool mB) (Value.slice mxO mxL mxC) (Value.slice myO myL myC) := by rw [hwE, hpm]; exact ⟨by go_simp, by go_simp, by go_simp, by go_simp, by go_simp, by go_simp⟩
    replace HP : Hid (w.heap.size ≤ pr ∧ pr < pn ∧ pn < pd ∧ pd < pm) := Lib.hid (by have h1 := HP.out; have h9 := hbf.size; have h2d := hbd.lt; omega)
    have HW := Lib.hid hwE; clear hwE
    go_upto_region 12 with fail
    rw [← HW.out, ← hpm]
    clear hpm HW
    replace hbr := hbr.kept hb
    replace hbn := hbn.kept hb
    replace hbd := hbd.kept hb
    replace hn := hn.below hb
    replace hd := hd.below hb
    replace hm := hm.below hb
    replace hbf := hbf.trans (hb.mono hbf.size)
    clear hb
    have hmb : QB (qmade l) 100000 := QB.of _ (by omega) (by omega) HM.out.2
    have em0 := hbm.c0
    have em1 := hbm.c1
    have em2 := hbm.c2
    go_wp2_with fail
    refine (qtext_any _ _ _ hm hmb).mono ?_
    rintro e w9 ⟨rfl, hb⟩
    clear em0 em1 em2
    replace hbr := hbr.kept hb
    replace hbn := hbn.kept hb
    replace hbd := hbd.kept hb
    replace hbm := hbm.kept hb
    replace hn := hn.below hb
    replace hd := hd.below hb
    replace hm := hm.below hb
    replace hbf := hbf.trans (hb.mono hbf.size)
    clear hb
    obtain ⟨T, hT⟩ : ∃ T, T = qtext (qmade l) := ⟨_, rfl⟩
    rw [← hT]
    have HT := Lib.hid hT; clear hT
    by_cases ht : T = l
    case pos =>
     have hqc : qcode l = 0 := by unfold qcode; rw [HCA.out, HCB.out, if_neg (by decide), if_neg (by decide), if_neg HN0.out, if_neg (by rw [← HT.out, ht]; simp)]
     obtain rfl : c9 = 0 := hc9.out.trans hqc
     obtain rfl : q9 = qmade l := hq9.out.trans (by unfold qval; rw [hqc, if_pos rfl])
     clear hqc
     subst ht
     have em0 := hbm.c0
     have em1 := hbm.c1
     have em2 := hbm.c2
     have er0 := hbr.c0
     have fr0 := hbr.f0
     have er1 := hbr.c1
     have fr1 := hbr.f1
     have er2 := hbr.c2
     have fr2 := hbr.f2
     go_wp2_with fail
     exact end_qc rfl rfl rfl rfl hbr (show w.heap.size ≤ pr by have := HP.out; omega) hm hbf
    have hqc : qcode l = 3 := by unfold qcode; rw [HCA.out, HCB.out, if_neg (by decide), if_neg (by decide), if_neg HN0.out, if_pos (by rw [← HT.out]; exact ht)]
    obtain rfl : c9 = 3 := hc9.out.trans hqc
    obtain rfl : q9 = 0 := hq9.out.trans (by unfold qval; rw [hqc]; simp)
    clear hqc
    have hbeq : (T == l) = false := by simpa using ht
    clear ht
    have er0 := hbr.c0
    have fr0 := hbr.f0
    have er1 := hbr.c1
    have fr1 := hbr.f1
    have er2 := hbr.c2
    have fr2 := hbr.f2
    go_wp2_with fail
    exact end_qc rfl rfl rfl rfl hbr (show w.heap.size ≤ pr by have := HP.out; omega) (QIs.zero _) hbf
   ·skip
    have hqc : qcode l = 2 := by unfold qcode; simp [HCA.out, HCB.out]
    obtain rfl : c9 = 2 := hc9.out.trans hqc
    obtain rfl : q9 = 0 := hq9.out.trans (by unfold qval; rw [hqc]; simp)
    clear hqc
    have er0 := hbr.c0
    have fr0 := hbr.f0
    have er1 := hbr.c1
    have fr1 := hbr.f1
    have er2 := hbr.c2
    have fr2 := hbr.f2
    go_wp2_with fail
    exact end_qc rfl rfl rfl rfl hbr (show w.heap.size ≤ pr by have := HP.out; omega) (QIs.zero _) hbf
   ·skip
    have hqc : qcode l = 3 := by unfold qcode; simp [HCA.out, HCB.out]
    obtain rfl : c9 = 3 := hc9.out.trans hqc
    obtain rfl : q9 = 0 := hq9.out.trans (by unfold qval; rw [hqc]; simp)
    clear hqc
    have er0 := hbr.c0
    have fr0 := hbr.f0
    have er1 := hbr.c1
    have fr1 := hbr.f1
    have er2 := hbr.c2
    have fr2 := hbr.f2
    go_wp2_with fail
    exact end_qc rfl rfl rfl rfl hbr (show w.heap.size ≤ pr by have := HP.out; omega) (QIs.zero _) hbf
  ·rcases H3B.out with rfl | rfl | rfl
   ·skip
    have hqc : qcode l = 2 := by unfold qcode; simp [HCA.out, HCB.out]
    obtain rfl : c9 = 2 := hc9.out.trans hqc
    obtain rfl : q9 = 0 := hq9.out.trans (by unfold qval; rw [hqc]; simp)
    clear hqc
    have er0 := hbr.c0
    have fr0 := hbr.f0
    have er1 := hbr.c1
    have fr1 := hbr.f1
    have er2 := hbr.c2
    have fr2 := hbr.f2
    go_wp2_with fail
    exact end_qc rfl rfl rfl rfl hbr (show w.heap.size ≤ pr by have := HP.out; omega) (QIs.zero _) hbf
   ·skip
    have hqc : qcode l = 2 := by unfold qcode; simp [HCA.out, HCB.out]
    obtain rfl : c9 = 2 := hc9.out.trans hqc
    obtain rfl : q9 = 0 := hq9.out.trans (by unfold qval; rw [hqc]; simp)
    clear hqc
    have er0 := hbr.c0
    have fr0 := hbr.f0
    have er1 := hbr.c1
    have fr1 := hbr.f1
    have er2 := hbr.c2
    have fr2 := hbr.f2
    go_wp2_with fail
    exact end_qc rfl rfl rfl rfl hbr (show w.heap.size ≤ pr by have := HP.out; omega) (QIs.zero _) hbf
   ·skip
    have hqc : qcode l = 3 := by unfold qcode; simp [HCA.out, HCB.out]
    obtain rfl : c9 = 3 := hc9.out.trans hqc
    obtain rfl : q9 = 0 := hq9.out.trans (by unfold qval; rw [hqc]; simp)
    clear hqc
    have er0 := hbr.c0
    have fr0 := hbr.f0
    have er1 := hbr.c1
    have fr1 := hbr.f1
    have er2 := hbr.c2
    have fr2 := hbr.f2
    go_wp2_with fail
    exact end_qc rfl rfl rfl rfl hbr (show w.heap.size ≤ pr by have := HP.out; omega) (QIs.zero _) hbf
  ·rcases H3B.out with rfl | rfl | rfl
   ·skip
    have hqc : qcode l = 3 := by unfold qcode; simp [HCA.out, HCB.out]
    obtain rfl : c9 = 3 := hc9.out.trans hqc
    obtain rfl : q9 = 0 := hq9.out.trans (by unfold qval; rw [hqc]; simp)
    clear hqc
    have er0 := hbr.c0
    have fr0 := hbr.f0
    have er1 := hbr.c1
    have fr1 := hbr.f1
    have er2 := hbr.c2
    have fr2 := hbr.f2
    go_wp2_with fail
    exact end_qc rfl rfl rfl rfl hbr (show w.heap.size ≤ pr by have := HP.out; omega) (QIs.zero _) hbf
   ·skip
    have hqc : qcode l = 3 := by unfold qcode; simp [HCA.out, HCB.out]
    obtain rfl : c9 = 3 := hc9.out.trans hqc
    obtain rfl : q9 = 0 := hq9.out.trans (by unfold qval; rw [hqc]; simp)
    clear hqc
    have er0 := hbr.c0
    have fr0 := hbr.f0
    have er1 := hbr.c1
    have fr1 := hbr.f1
    have er2 := hbr.c2
    have fr2 := hbr.f2
    go_wp2_with fail
    exact end_qc rfl rfl rfl rfl hbr (show w.heap.size ≤ pr by have := HP.out; omega) (QIs.zero _) hbf
   ·skip
    have hqc : qcode l = 3 := by unfold qcode; simp [HCA.out, HCB.out]
    obtain rfl : c9 = 3 := hc9.out.trans hqc
    obtain rfl : q9 = 0 := hq9.out.trans (by unfold qval; rw [hqc]; simp)
    clear hqc
    have er0 := hbr.c0
    have fr0 := hbr.f0
    have er1 := hbr.c1
    have fr1 := hbr.f1
    have er2 := hbr.c2
    have fr2 := hbr.f2
    go_wp2_with fail
    exact end_qc rfl rfl rfl rfl hbr (show w.heap.size ≤ pr by have := HP.out; omega) (QIs.zero _) hbf
 have hB1 : qden l = [49] := by rw [← hB]; unfold cutOn; rw [if_neg h47]
 rw [if_neg h47, decide_eq_false h47]
 have HB1 := Lib.hid hB1
 clear h47 hA hB hB1
 go_wp2_with fail
 refine (parse_c _ ca _ hl1 HCA).mono ?_
 rintro e w3 ⟨r9, rfl, hn, hb⟩
 replace hbr := hbr.kept hb
 replace hbf := hbf.trans (hb.mono hbf.size)
 clear hb
 obtain ⟨nO, nL, nC, rfl⟩ := hn.form
 obtain ⟨w4, hwE⟩ : ∃ W, W = (w3.alloc (.cells #[.slice nO nL nC] 111)) := ⟨_, rfl⟩
 have hb : Below w3.heap.size w3 w4 := by rw [hwE]; exact ((Below.refl _ w3).alloc (Nat.le_refl _) _)
 obtain ⟨pn, hpn⟩ : ∃ p, p = w3.heap.size := ⟨_, rfl⟩
 have hbn : Box w4 pn (Value.slice nO nL nC) := by rw [hwE, hpn]; exact ⟨by go_simp, by go_simp, by simp <;> omega⟩
 replace HP : Hid (w.heap.size ≤ pr ∧ pr < pn) := Lib.hid (by have h1 := HP.out; have h9 := hbf.size; have h2r := hbr.lt; omega)
 have HW := Lib.hid hwE; clear hwE
 go_upto_region 6 with fail
 rw [← HW.out, ← hpn]
 clear hpn HW
 replace hbr := hbr.kept hb
 replace hn := hn.below hb
 replace hbf := hbf.trans (hb.mono hbf.size)
 clear hb
 go_wp2_with fail
 refine (parse_d l cb _ hl2 HCB HB1).mono ?_
 rintro e w5 ⟨r9, rfl, hd, hb⟩
 replace hbr := hbr.kept hb
 replace hbn := hbn.kept hb
 replace hn := hn.below hb
 replace hbf := hbf.trans (hb.mono hbf.size)
 clear hb
 obtain ⟨dO, dL, dC, rfl⟩ := hd.form
 obtain ⟨w6, hwE⟩ : ∃ W, W = (w5.alloc (.cells #[.slice dO dL dC] 111)) := ⟨_, rfl⟩
 have hb : Below w5.heap.size w5 w6 := by rw [hwE]; exact ((Below.refl _ w5).alloc (Nat.le_refl _) _)
 obtain ⟨pd, hpd⟩ : ∃ p, p = w5.heap.size := ⟨_, rfl⟩
 have hbd : Box w6 pd (Value.slice dO dL dC) := by rw [hwE, hpd]; exact ⟨by go_simp, by go_simp, by simp <;> omega⟩
 replace HP : Hid (w.heap.size ≤ pr ∧ pr < pn ∧ pn < pd) := Lib.hid (by have h1 := HP.out; have h9 := hbf.size; have h2n := hbn.lt; omega)
 have HW := Lib.hid hwE; clear hwE
 go_upto_region 7 with fail
 rw [← HW.out, ← hpd]
 clear hpd HW
 replace hbr := hbr.kept hb
 replace hbn := hbn.kept hb
 replace hn := hn.below hb
 replace hd := hd.below hb
 replace hbf := hbf.trans (hb.mono hbf.size)
 clear hb
 rcases H3A.out with rfl | rfl | rfl
 ·rcases H3B.out with rfl | rfl | rfl
  ·skip
   by_cases hd0 : pval (qden l) = 0
   case pos =>
    have hqc : qcode l = 3 := by unfold qcode; simp [HCA.out, HCB.out, hd0]
    obtain rfl : c9 = 3 := hc9.out.trans hqc
    obtain rfl : q9 = 0 := hq9.out.trans (by unfold qval; rw [hqc]; simp)
    clear hqc
    rw [hd0] at hd
    clear hd0
    have en := hbn.cell
    have ed := hbd.cell
    go_wp2_with fail
    refine (make_zero sg _ _ (pval (qnum l)) _ hn hd (by omega)).mono ?_
    rintro e w7 ⟨r9, rfl, hm, hb⟩
    clear en ed
    replace hbr := hbr.kept hb
    replace hbn := hbn.kept hb
    replace hbd := hbd.kept hb
    replace hn := hn.below hb
    replace hd := hd.below hb
    replace hbf := hbf.trans (hb.mono hbf.size)
    clear hb
    obtain ⟨ms, mxO, mxL, mxC, myO, myL, myC, rfl, -, -, -⟩ := hm.form
    obtain ⟨w8, hwE⟩ : ∃ W, W = (w7.alloc (.cells #[.bool ms, .slice mxO mxL mxC, .slice myO myL myC] 113)) := ⟨_, rfl⟩
    have hb : Below w7.heap.size w7 w8 := by rw [hwE]; exact ((Below.refl _ w7).alloc (Nat.le_refl _) _)
    obtain ⟨pm, hpm⟩ : ∃ p, p = w7.heap.size := ⟨_, rfl⟩
    have hbm : Box3 w8 pm (Value.bool ms) (Value.slice mxO mxL mxC) (Value.slice myO myL myC) := by rw [hwE, hpm]; exact ⟨by go_simp, by go_simp, by go_simp, by go_simp, by go_simp, by go_simp⟩
    replace HP : Hid (w.heap.size ≤ pr ∧ pr < pn ∧ pn < pd ∧ pd < pm) := Lib.hid (by have h1 := HP.out; have h9 := hbf.size; have h2d := hbd.lt; omega)
    have HW := Lib.hid hwE; clear hwE
    go_upto_region 12 with fail
    rw [← HW.out, ← hpm]
    clear hpm HW
    replace hbr := hbr.kept hb
    replace hbn := hbn.kept hb
    replace hbd := hbd.kept hb
    replace hn := hn.below hb
    replace hd := hd.below hb
    replace hm := hm.below hb
    replace hbf := hbf.trans (hb.mono hbf.size)
    clear hb
    have er0 := hbr.c0
    have fr0 := hbr.f0
    have er1 := hbr.c1
    have fr1 := hbr.f1
    have er2 := hbr.c2
    have fr2 := hbr.f2
    go_wp2_with fail
    exact end_qc rfl rfl rfl rfl hbr (show w.heap.size ≤ pr by have := HP.out; omega) (QIs.zero _) hbf
   have hmk : qOf sg (pval (qnum l)) (pval (qden l)) = qmade l := by rw [HSG.out]; rfl
   have HM : Hid (qmade l = qmade l ∧ 0 < pval (qden l)) := Lib.hid ⟨rfl, by omega⟩
   have HN0 := Lib.hid hd0; clear hd0
   have en := hbn.cell
   have ed := hbd.cell
   go_wp2_with fail
   refine (make_ok sg _ _ _ _ _ hn hd (by omega) (by omega) HM.out.2).mono ?_
   rintro e w7 ⟨r9, rfl, hm, hb⟩
   rw [hmk] at hm
   clear hmk
   obtain ⟨mB, mxO, mxL, mxC, myO, myL, myC, rfl, -, -, -⟩ := hm.form
   clear en ed
   replace hbr := hbr.kept hb
   replace hbn := hbn.kept hb
   replace hbd := hbd.kept hb
   replace hn := hn.below hb
   replace hd := hd.below hb
   replace hbf := hbf.trans (hb.mono hbf.size)
   clear hb
   obtain ⟨w8, hwE⟩ : ∃ W, W = (w7.alloc (.cells #[.bool mB, .slice mxO mxL mxC, .slice myO myL myC] 113)) := ⟨_, rfl⟩
   have hb : Below w7.heap.size w7 w8 := by rw [hwE]; exact ((Below.refl _ w7).alloc (Nat.le_refl _) _)
   obtain ⟨pm, hpm⟩ : ∃ p, p = w7.heap.size := ⟨_, rfl⟩
   have hbm : Box3 w8 pm (Value.bool mB) (Value.slice mxO mxL mxC) (Value.slice myO myL myC) := by rw [hwE, hpm]; exact ⟨by go_simp, by go_simp, by go_simp, by go_simp, by go_simp, by go_simp⟩
   replace HP : Hid (w.heap.size ≤ pr ∧ pr < pn ∧ pn < pd ∧ pd < pm) := Lib.hid (by have h1 := HP.out; have h9 := hbf.size; have h2d := hbd.lt; omega)
   have HW := Lib.hid hwE; clear hwE
   go_upto_region 12 with fail
   rw [← HW.out, ← hpm]
   clear hpm HW
   replace hbr := hbr.kept hb
   replace hbn := hbn.kept hb
   replace hbd := hbd.kept hb
   replace hn := hn.below hb
   replace hd := hd.below hb
   replace hm := hm.below hb
   replace hbf := hbf.trans (hb.mono hbf.size)
   clear hb
   have hmb : QB (qmade l) 100000 := QB.of _ (by omega) (by omega) HM.out.2
   have em0 := hbm.c0
   have em1 := hbm.c1
   have em2 := hbm.c2
   go_wp2_with fail
   refine (qtext_any _ _ _ hm hmb).mono ?_
   rintro e w9 ⟨rfl, hb⟩
   clear em0 em1 em2
   replace hbr := hbr.kept hb
   replace hbn := hbn.kept hb
   replace hbd := hbd.kept hb
   replace hbm := hbm.kept hb
   replace hn := hn.below hb
   replace hd := hd.below hb
   replace hm := hm.below hb
   replace hbf := hbf.trans (hb.mono hbf.size)
   clear hb
   obtain ⟨T, hT⟩ : ∃ T, T = qtext (qmade l) := ⟨_, rfl⟩
   rw [← hT]
   have HT := Lib.hid hT; clear hT
   by_cases ht : T = l
   case pos =>
    have hqc : qcode l = 0 := by unfold qcode; rw [HCA.out, HCB.out, if_neg (by decide), if_neg (by decide), if_neg HN0.out, if_neg (by rw [← HT.out, ht]; simp)]
    obtain rfl : c9 = 0 := hc9.out.trans hqc
    obtain rfl : q9 = qmade l := hq9.out.trans (by unfold qval; rw [hqc, if_pos rfl])
    clear hqc
    subst ht
    have em0 := hbm.c0
    have em1 := hbm.c1
    have em2 := hbm.c2
    have er0 := hbr.c0
    have fr0 := hbr.f0
    have er1 := hbr.c1
    have fr1 := hbr.f1
    have er2 := hbr.c2
    have fr2 := hbr.f2
    go_wp2_with fail
    exact end_qc rfl rfl rfl rfl hbr (show w.heap.size ≤ pr by have := HP.out; omega) hm hbf
   have hqc : qcode l = 3 := by unfold qcode; rw [HCA.out, HCB.out, if_neg (by decide), if_neg (by decide), if_neg HN0.out, if_pos (by rw [← HT.out]; exact ht)]
   obtain rfl : c9 = 3 := hc9.out.trans hqc
   obtain rfl : q9 = 0 := hq9.out.trans (by unfold qval; rw [hqc]; simp)
   clear hqc
   have hbeq : (T == l) = false := by simpa using ht
   clear ht
   have er0 := hbr.c0
   have fr0 := hbr.f0
   have er1 := hbr.c1
   have fr1 := hbr.f1
   have er2 := hbr.c2
   have fr2 := hbr.f2
   go_wp2_with fail
   exact end_qc rfl rfl rfl rfl hbr (show w.heap.size ≤ pr by have := HP.out; omega) (QIs.zero _) hbf
  ·skip
   have hqc : qcode l = 2 := by unfold qcode; simp [HCA.out, HCB.out]
   obtain rfl : c9 = 2 := hc9.out.trans hqc
   obtain rfl : q9 = 0 := hq9.out.trans (by unfold qval; rw [hqc]; simp)
   clear hqc
   have er0 := hbr.c0
   have fr0 := hbr.f0
   have er1 := hbr.c1
   have fr1 := hbr.f1
   have er2 := hbr.c2
   have fr2 := hbr.f2
   go_wp2_with fail
   exact end_qc rfl rfl rfl rfl hbr (show w.heap.size ≤ pr by have := HP.out; omega) (QIs.zero _) hbf
  ·skip
   have hqc : qcode l = 3 := by unfold qcode; simp [HCA.out, HCB.out]
   obtain rfl : c9 = 3 := hc9.out.trans hqc
   obtain rfl : q9 = 0 := hq9.out.trans (by unfold qval; rw [hqc]; simp)
   clear hqc
   have er0 := hbr.c0
   have fr0 := hbr.f0
   have er1 := hbr.c1
   have fr1 := hbr.f1
   have er2 := hbr.c2
   have fr2 := hbr.f2
   go_wp2_with fail
   exact end_qc rfl rfl rfl rfl hbr (show w.heap.size ≤ pr by have := HP.out; omega) (QIs.zero _) hbf
 ·rcases H3B.out with rfl | rfl | rfl
  ·skip
   have hqc : qcode l = 2 := by unfold qcode; simp [HCA.out, HCB.out]
   obtain rfl : c9 = 2 := hc9.out.trans hqc
   obtain rfl : q9 = 0 := hq9.out.trans (by unfold qval; rw [hqc]; simp)
   clear hqc
   have er0 := hbr.c0
   have fr0 := hbr.f0
   have er1 := hbr.c1
   have fr1 := hbr.f1
   have er2 := hbr.c2
   have fr2 := hbr.f2
   go_wp2_with fail
   exact end_qc rfl rfl rfl rfl hbr (show w.heap.size ≤ pr by have := HP.out; omega) (QIs.zero _) hbf
  ·skip
   have hqc : qcode l = 2 := by unfold qcode; simp [HCA.out, HCB.out]
   obtain rfl : c9 = 2 := hc9.out.trans hqc
   obtain rfl : q9 = 0 := hq9.out.trans (by unfold qval; rw [hqc]; simp)
   clear hqc
   have er0 := hbr.c0
   have fr0 := hbr.f0
   have er1 := hbr.c1
   have fr1 := hbr.f1
   have er2 := hbr.c2
   have fr2 := hbr.f2
   go_wp2_with fail
   exact end_qc rfl rfl rfl rfl hbr (show w.heap.size ≤ pr by have := HP.out; omega) (QIs.zero _) hbf
  ·skip
   have hqc : qcode l = 3 := by unfold qcode; simp [HCA.out, HCB.out]
   obtain rfl : c9 = 3 := hc9.out.trans hqc
   obtain rfl : q9 = 0 := hq9.out.trans (by unfold qval; rw [hqc]; simp)
   clear hqc
   have er0 := hbr.c0
   have fr0 := hbr.f0
   have er1 := hbr.c1
   have fr1 := hbr.f1
   have er2 := hbr.c2
   have fr2 := hbr.f2
   go_wp2_with fail
   exact end_qc rfl rfl rfl rfl hbr (show w.heap.size ≤ pr by have := HP.out; omega) (QIs.zero _) hbf
 ·rcases H3B.out with rfl | rfl | rfl
  ·skip
   have hqc : qcode l = 3 := by unfold qcode; simp [HCA.out, HCB.out]
   obtain rfl : c9 = 3 := hc9.out.trans hqc
   obtain rfl : q9 = 0 := hq9.out.trans (by unfold qval; rw [hqc]; simp)
   clear hqc
   have er0 := hbr.c0
   have fr0 := hbr.f0
   have er1 := hbr.c1
   have fr1 := hbr.f1
   have er2 := hbr.c2
   have fr2 := hbr.f2
   go_wp2_with fail
   exact end_qc rfl rfl rfl rfl hbr (show w.heap.size ≤ pr by have := HP.out; omega) (QIs.zero _) hbf
  ·skip
   have hqc : qcode l = 3 := by unfold qcode; simp [HCA.out, HCB.out]
   obtain rfl : c9 = 3 := hc9.out.trans hqc
   obtain rfl : q9 = 0 := hq9.out.trans (by unfold qval; rw [hqc]; simp)
   clear hqc
   have er0 := hbr.c0
   have fr0 := hbr.f0
   have er1 := hbr.c1
   have fr1 := hbr.f1
   have er2 := hbr.c2
   have fr2 := hbr.f2
   go_wp2_with fail
   exact end_qc rfl rfl rfl rfl hbr (show w.heap.size ≤ pr by have := HP.out; omega) (QIs.zero _) hbf
  ·skip
   have hqc : qcode l = 3 := by unfold qcode; simp [HCA.out, HCB.out]
   obtain rfl : c9 = 3 := hc9.out.trans hqc
   obtain rfl : q9 = 0 := hq9.out.trans (by unfold qval; rw [hqc]; simp)
   clear hqc
   have er0 := hbr.c0
   have fr0 := hbr.f0
   have er1 := hbr.c1
   have fr1 := hbr.f1
   have er2 := hbr.c2
   have fr2 := hbr.f2
   go_wp2_with fail
   exact end_qc rfl rfl rfl rfl hbr (show w.heap.size ≤ pr by have := HP.out; omega) (QIs.zero _) hbf
end Go.Proofs.YtcpfanpcdkoiaaaGreatDoor

namespace Go.Proofs.YtcpfanpcdkoiaaaGreatDoor
open Go.RowKit


structure Box5 (w : World) (b : Nat) (x0 x1 x2 x3 x4 : Value) : Prop where
 c0 : w.cell? ⟨b, 0, none⟩ = some x0
 c1 : w.cell? ⟨b, 1, none⟩ = some x1
 c2 : w.cell? ⟨b, 2, none⟩ = some x2
 c3 : w.cell? ⟨b, 3, none⟩ = some x3
 c4 : w.cell? ⟨b, 4, none⟩ = some x4
 f0 : w.frozen? ⟨b, 0, none⟩ = false
 f1 : w.frozen? ⟨b, 1, none⟩ = false
 f2 : w.frozen? ⟨b, 2, none⟩ = false
 f3 : w.frozen? ⟨b, 3, none⟩ = false
 f4 : w.frozen? ⟨b, 4, none⟩ = false
theorem Box5.block {w w' : World} {b : Nat} {x0 x1 x2 x3 x4 : Value} (h : Box5 w b x0 x1 x2 x3 x4) (hg : w'.heap[b]? = w.heap[b]?) : Box5 w' b x0 x1 x2 x3 x4 :=
 ⟨(World.cell?_of_block (w := w) (a := ⟨b, 0, none⟩) hg).trans h.c0, (World.cell?_of_block (w := w) (a := ⟨b, 1, none⟩) hg).trans h.c1, (World.cell?_of_block (w := w) (a := ⟨b, 2, none⟩) hg).trans h.c2, (World.cell?_of_block (w := w) (a := ⟨b, 3, none⟩) hg).trans h.c3, (World.cell?_of_block (w := w) (a := ⟨b, 4, none⟩) hg).trans h.c4,
  (World.frozen?_of_block (w := w) (a := ⟨b, 0, none⟩) hg).trans h.f0, (World.frozen?_of_block (w := w) (a := ⟨b, 1, none⟩) hg).trans h.f1, (World.frozen?_of_block (w := w) (a := ⟨b, 2, none⟩) hg).trans h.f2, (World.frozen?_of_block (w := w) (a := ⟨b, 3, none⟩) hg).trans h.f3, (World.frozen?_of_block (w := w) (a := ⟨b, 4, none⟩) hg).trans h.f4⟩
theorem Box5.lt {w : World} {b : Nat} {x0 x1 x2 x3 x4 : Value} (h : Box5 w b x0 x1 x2 x3 x4) : b < w.heap.size := World.block_lt_of_cell? w ⟨b, 0, none⟩ h.c0
theorem Box5.kept {w w' : World} {b : Nat} {x0 x1 x2 x3 x4 : Value} (h : Box5 w b x0 x1 x2 x3 x4) (hb : Below w.heap.size w w') : Box5 w' b x0 x1 x2 x3 x4 := h.block (hb.block b h.lt)
theorem Box5.drew {w : World} {b : Nat} {x0 x1 x2 x3 x4 : Value} (h : Box5 w b x0 x1 x2 x3 x4) : Box5 w.drew b x0 x1 x2 x3 x4 := ⟨h.c0, h.c1, h.c2, h.c3, h.c4, h.f0, h.f1, h.f2, h.f3, h.f4⟩
theorem Box5.setOther {w : World} {b g : Nat} {x0 x1 x2 x3 x4 : Value} (h : Box5 w b x0 x1 x2 x3 x4) (hne : b ≠ g) (j : Nat) (u : Value) : Box5 (w.setCell ⟨g, j, none⟩ u) b x0 x1 x2 x3 x4 :=
 h.block ((grownBy_set (grownBy_refl w (some g)) j u).block b h.lt (by simpa using hne))
end Go.Proofs.YtcpfanpcdkoiaaaGreatDoor

namespace Go.Proofs.YtcpfanpcdkoiaaaGreatDoor
open Go.RowKit


def pAt (l : List UInt8) : List UInt8 := l.takeWhile (· != 46)
def pOn (l : List UInt8) : List UInt8 := (l.dropWhile (· != 46)).tail
theorem on_none {l : List UInt8} (h : 46 ∉ l) : pOn l = [] := by
 have h1 := takeWhile_all l 46 h
 have h2 : l.takeWhile (· != 46) ++ l.dropWhile (· != 46) = l := List.takeWhile_append_dropWhile
 rw [h1] at h2
 unfold pOn
 rw [List.append_right_eq_self.1 h2]
 rfl
set_option maxHeartbeats 1000000 in
theorem pindex_any (l : List UInt8) (w : World) :
    Calls Tryz.prog 232 #[.string ⟨l.toArray⟩, .string ⟨#[46]⟩] w fun e w' => e = .returned (.int .i64 (Lib.indexByte l 46)) ∧ w' = w := by
  go_enter Tryz.func232, Tryz.ntmps232
  go_wp2_with fail
  · rename_i h
    have h1 : l = [46] := by have h0 : [46] = l := by simpa using h
                             exact h0.symm
    subst h1
    go_ret
    exact ⟨rfl, rfl⟩
  · refine (ibyte_any l _ w).mono ?_
    rintro e w' ⟨rfl, rfl⟩
    go_wp2_with fail
    go_ret
    exact ⟨rfl, rfl⟩
set_option maxHeartbeats 1000000 in
theorem pcut_no (l : List UInt8) (w : World) (h : 46 ∉ l) :
  Calls Tryz.prog 203 #[.string ⟨l.toArray⟩, .string ⟨#[46]⟩] w fun e w' => e = .returned (.tuple #[.string ⟨l.toArray⟩, .string ⟨#[]⟩, .bool false]) ∧ w' = w := by
 have hi := index_no h
 have HI := Lib.hid hi; clear hi
 go_enter Tryz.func203, Tryz.ntmps203
 go_wp2_with fail
 refine (pindex_any l _).mono ?_
 rintro e w' ⟨rfl, rfl⟩
 rw [HI.out]
 go_wp2_with fail
 go_ret3
 exact ⟨rfl, rfl⟩
set_option maxHeartbeats 1000000 in
theorem pcut_yes (l : List UInt8) (w : World) (h : 46 ∈ l) (hl : l.length ≤ 9223372036854775807) :
  Calls Tryz.prog 203 #[.string ⟨l.toArray⟩, .string ⟨#[46]⟩] w fun e w' => e = .returned (.tuple #[.string ⟨(pAt l).toArray⟩, .string ⟨(pOn l).toArray⟩, .bool true]) ∧ Below w.heap.size w w' := by
 obtain ⟨k, hk, hlt, h1, h2⟩ := index_yes h
 have HI := Lib.hid hk; clear hk
 have h3 : ((⟨l.toArray⟩ : ByteArray).extract 0 k) = ⟨(pAt l).toArray⟩ := by rw [bytes_extract]; unfold pAt; rw [← h1]; simp
 have h4 : ((⟨l.toArray⟩ : ByteArray).extract (k + 1) l.length) = ⟨(pOn l).toArray⟩ := by rw [bytes_extract]; unfold pOn; rw [← h2]; simp
 have hk1 : ((k : Nat) : Int) ≤ ((l.length : Nat) : Int) := by omega
 have hk2 : (0 : Int) ≤ ((k : Nat) : Int) := by omega
 have hk3 : ((k : Nat) : Int) + 1 ≤ ((l.length : Nat) : Int) := by omega
 have hk4 : (0 : Int) ≤ ((k : Nat) : Int) + 1 := by omega
 have hk5 : IntKind.i64.wrap (((k : Nat) : Int) + 1) = ((k : Nat) : Int) + 1 := by simp [IntKind.wrap, IntKind.bits, IntKind.signed]; omega
 have hk6 : (((k : Nat) : Int) + 1).toNat = k + 1 := by omega
 go_enter Tryz.func203, Tryz.ntmps203
 go_wp2_with fail
 refine (pindex_any l _).mono ?_
 rintro e w' ⟨rfl, rfl⟩
 rw [HI.out]
 go_wp2_with fail
 refine wp_region_seq (S := fun _ => True) [(true, 0), (true, 1), (true, 2), (true, 3), (true, 4), (true, 5), (true, 6), (true, 7), (true, 8), (true, 9), (true, 10), (true, 11)] (by kernel_rfl) (by kernel_rfl) (by kernel_rfl) (by kernel_rfl) (by kernel_rfl) (fun d _ _ _ _ h => by cases d <;> exact h) True.intro (fun _ => ?_)
 simp only [pickOps, List.append_eq, List.cons_append, List.nil_append, List.getElem?_toArray, List.getElem?_cons_succ, List.getElem?_cons_zero]
 repeat (first | (refine seq_take (v := ?_) (by rfl) ?_ ?_; rotate_left; (· intro w hSw; go_simp; all_goals with_reducible rfl); (try simp only [Act.put, List.setIfInBounds_toArray, List.set_cons_zero, List.set_cons_succ])))
 refine seq_end ?_
 go_wp2_with fail
 go_ret3
 exact ⟨rfl, (Below.refl _ _).drew⟩
set_option maxHeartbeats 1000000 in
theorem pcutat_any (l : List UInt8) (w : World) (hl : l.length ≤ 9223372036854775807) :
  Calls Tryz.prog 158 #[.string ⟨l.toArray⟩, .string ⟨#[46]⟩] w fun e w' => e = .returned (.tuple #[.string ⟨(pAt l).toArray⟩, .string ⟨(pOn l).toArray⟩, .bool (decide (46 ∈ l))]) ∧ Below w.heap.size w w' := by
 by_cases h : 46 ∈ l
 ·rw [decide_eq_true h]
  have hc := pcut_yes l w h hl
  go_enter Tryz.func158, Tryz.ntmps158
  go_wp2_with fail
  refine hc.mono ?_
  rintro e w' ⟨rfl, hb⟩
  go_wp2_with fail
  go_ret3
  exact ⟨rfl, hb⟩
 ·rw [decide_eq_false h]
  have hc := pcut_no l w h
  have ha : pAt l = l := takeWhile_all l 46 h
  have hb : pOn l = [] := on_none h
  rw [ha, hb]
  go_enter Tryz.func158, Tryz.ntmps158
  go_wp2_with fail
  refine hc.mono ?_
  rintro e w' ⟨rfl, rfl⟩
  go_wp2_with fail
  go_ret3
  exact ⟨rfl, Below.refl _ _⟩
end Go.Proofs.YtcpfanpcdkoiaaaGreatDoor
