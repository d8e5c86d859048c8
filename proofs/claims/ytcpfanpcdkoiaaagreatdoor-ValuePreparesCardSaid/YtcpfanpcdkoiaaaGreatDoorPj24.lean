/-
  Pj24: RefS (what is needed of them).
-/
import Derived.Test.YtcpfanpcdkoiaaaGreatDoorPj14
set_option maxRecDepth 100000
set_option linter.unusedVariables false
set_option linter.unusedSimpArgs false

namespace Go.Proofs.YtcpfanpcdkoiaaaGreatDoor
open Go.RowKit


attribute [local go_sem] field_nat
theorem first_at {l : List UInt8} {k : Nat} (h : 47 ∉ l.take k) (hk : k < l.length) (hc : l[k]?.getD 0 = 47) : l.take k = cutAt l ∧ l.drop (k + 1) = cutOn l ∧ 47 ∈ l := by
 have h1 : l[k] = 47 := by rw [List.getElem?_eq_getElem hk] at hc; exact hc
 have h2 : l = l.take k ++ 47 :: l.drop (k + 1) := by
  conv => lhs; rw [← List.take_append_drop k l]
  rw [List.drop_eq_getElem_cons hk, h1]
 have h3 := takeWhile_stop (l.take k) (l.drop (k + 1)) 47 h
 rw [← h2] at h3
 have h4 : 47 ∈ l := by rw [h2]; simp
 refine ⟨h3.1.symm, ?_, h4⟩
 unfold cutOn
 rw [if_pos h4, h3.2]
 rfl
theorem not_more {l : List UInt8} {k : Nat} (h : 47 ∉ l.take k) (hk : k < l.length) (hc : l[k]?.getD 0 ≠ 47) : 47 ∉ l.take (k + 1) := by
 rw [List.take_succ_eq_append_getElem hk]
 rw [List.getElem?_eq_getElem hk] at hc
 simp only [List.mem_append, List.mem_singleton, not_or]
 exact ⟨h, fun e => hc e.symm⟩
theorem rparse_c (l : List UInt8) (c : Int) (w : World) (hl : l.length ≤ 1000000000) (hc : Hid (pcode l = c)) :
  Calls Tryz.prog 213 #[.string ⟨l.toArray⟩] w fun e w' => ∃ r, e = .returned (.tuple #[r, .int .i64 c]) ∧ RIs w' r (pval l) ∧ Below w.heap.size w w' := by
 have := rparse_any l w hl
 unfold RPost at this
 rwa [hc.out] at this
theorem rparse_d (l : List UInt8) (c : Int) (w : World) (hl : (qden l).length ≤ 1000000000) (hc : Hid (pcode (qden l) = c)) (h1 : Hid (qden l = [49])) :
  Calls Tryz.prog 213 #[.string ⟨#[49]⟩] w fun e w' => ∃ r, e = .returned (.tuple #[r, .int .i64 c]) ∧ RIs w' r (pval (qden l)) ∧ Below w.heap.size w w' := by
 have := rparse_c (qden l) c w hl hc
 rw [h1.out] at this ⊢
 exact this
theorem rparse_l (b l : List UInt8) (c : Int) (w : World) (hl : (qnum l).length ≤ 1000000000) (hc : Hid (pcode (qnum l) = c)) (h : Hid (b = qnum l)) :
  Calls Tryz.prog 213 #[.string ⟨b.toArray⟩] w fun e w' => ∃ r, e = .returned (.tuple #[r, .int .i64 c]) ∧ RIs w' r (pval (qnum l)) ∧ Below w.heap.size w w' := by
 have := rparse_c (qnum l) c w hl hc
 rwa [← h.out] at this ⊢
theorem cutNeg_yes {l : List UInt8} (h : 0 < l.length) (hc : l[0]?.getD 0 = 45) : cutNeg l = (true, l.tail) := by
 cases l with
 | nil => simp at h
 | cons c t => simp at hc; subst hc; rfl
theorem cutNeg_no {l : List UInt8} (h : 0 < l.length) (hc : l[0]?.getD 0 ≠ 45) : cutNeg l = (false, l) := by
 cases l with
 | nil => simp at h
 | cons c t => simp at hc; unfold cutNeg; rw [if_neg (by simpa using hc)]
set_option maxHeartbeats 1000000 in
theorem rqparse_nil (l : List UInt8) (w : World) (q9 : Rat) (c9 : Int) (hQ9 : Hid (q9 = qval l)) (hC9 : Hid (c9 = qcode l)) (hl : l.length ≤ 100000000) (h0 : l.length = 0) :
  Calls Tryz.prog 167 #[.string ⟨l.toArray⟩] w (RQPostC w q9 c9) := by
 obtain ⟨body, hbody⟩ : ∃ b, b = (cutNeg l).2 := ⟨_, rfl⟩
 have hbl : body.length ≤ 100000000 := by rw [hbody]; exact Nat.le_trans (cutNeg_le l) hl
 have hA : cutAt body = qnum l := by rw [hbody]; rfl
 have hB : cutOn body = qden l := by rw [hbody]; rfl
 have HA := Lib.hid hA
 have HB := Lib.hid hB
 clear hA hB
 obtain ⟨ca, hca⟩ : ∃ c, c = pcode (qnum l) := ⟨_, rfl⟩
 obtain ⟨cb, hcb⟩ : ∃ c, c = pcode (qden l) := ⟨_, rfl⟩
 have HCA := Lib.hid hca.symm
 have HCB := Lib.hid hcb.symm
 have h3a := pcode_cases (qnum l)
 have h3b := pcode_cases (qden l)
 rw [← hca] at h3a
 rw [← hcb] at h3b
 have H3A := Lib.hid h3a
 have H3B := Lib.hid h3b
 clear hca hcb h3a h3b
 have hln := pval_lim (qnum l)
 have hld := pval_lim (qden l)
 have hrn := rlimbs_of_limbs hln
 have hrd := rlimbs_of_limbs hld
 have hl1 : (qnum l).length ≤ 1000000000 := by have := qnum_le l; omega
 have hl2 : (qden l).length ≤ 1000000000 := by have := qden_le l; omega
 obtain ⟨w0, hw0⟩ : ∃ w0, w0 = (w.alloc (.cells #[.bool false, .slice none 0 0, .slice none 0 0] 98)) := ⟨_, rfl⟩
 have hbf : Below w.heap.size w w0 := by rw [hw0]; exact ((Below.refl _ w).alloc (Nat.le_refl _) _)
 obtain ⟨pr, hpr⟩ : ∃ p, p = w.heap.size := ⟨_, rfl⟩
 have hbr : Box3 w0 pr (Value.bool false) (Value.slice none 0 0) (Value.slice none 0 0) := by rw [hw0, hpr]; exact ⟨by go_simp, by go_simp, by go_simp, by go_simp, by go_simp, by go_simp⟩
 have HP : Hid (w.heap.size ≤ pr) := Lib.hid (by omega)
 have HW := Lib.hid hw0; clear hw0
 go_enter Tryz.func167, Tryz.ntmps167
 go_upto_region 1 with fail
 rw [← HW.out, ← hpr]
 clear hpr HW
 have h0i : ¬ (0 : Int) < ((l.length : Nat) : Int) := by omega
 have hbe : (cutNeg l) = (false, l) := by rw [List.eq_nil_of_length_eq_zero h0]; rfl
 have HSG : Hid (false = qneg l) := Lib.hid (by unfold qneg; rw [hbe])
 rw [hbe] at hbody
 have hb2 : l = body := hbody.symm
 clear hbody hbe
 subst hb2
 go_upto_region 5 with fail
 clear h0i h0
 go_wp2_with fail
 go_loopg [7, 8] l.length (fun gg cv iv wr => ∃ k : Nat, w0 = wr ∧ ((k + gg = l.length ∧ iv = .int .i64 k ∧ cv = .int .i64 (-1) ∧ 47 ∉ l.take k) ∨ (k + 1 + gg = l.length ∧ iv = .int .i64 ((k + 1 : Nat) : Int) ∧ cv = .int .i64 k ∧ l.take k = cutAt l ∧ l.drop (k + 1) = cutOn l ∧ 47 ∈ l)))
 case atStart => exact ⟨0, rfl, .inl ⟨by omega, rfl, rfl, by simp⟩⟩
 case round =>
  obtain ⟨k, rfl, ⟨hk, rfl, rfl, hno⟩ | ⟨hk, rfl, rfl, hf1, hf2, hf3⟩⟩ := hrel
  ·have HNO := Lib.hid hno; clear hno
   by_cases hkl : k < l.length
   case pos =>
    have hby := byte_at l k hkl (by simpa [ByteArray.size] using hkl)
    have hmo := fun h => not_more (l := l) HNO.out hkl h
    have hfi := fun h => first_at (l := l) HNO.out hkl h
    generalize l[k]?.getD 0 = c at *
    have HMO := Lib.hid hmo
    have HFI := Lib.hid hfi
    clear hmo hfi
    by_cases hc : c.toNat = 47
    case pos =>
     have hc0 : c = 47 := UInt8.toNat_inj.1 hc
     have hcb : ((c.toNat : Int) == 47) = true := by rw [beq_iff_eq]; omega
     have HF := Lib.hid (HFI.out hc0)
     go_wp2_with fail
     go_roundg (gk - 1)
     case measure => omega
     case rel => exact ⟨k, rfl, .inr ⟨by omega, by go_num, rfl, HF.out.1, HF.out.2.1, HF.out.2.2⟩⟩
    have hc0 : c ≠ 47 := fun h => hc (by rw [h]; rfl)
    have hcb : ((c.toNat : Int) == 47) = false := by rw [beq_eq_false_iff_ne]; omega
    have HF := Lib.hid (HMO.out hc0)
    go_wp2_with fail
    go_roundg (gk - 1)
    case measure => omega
    case rel => exact ⟨k + 1, rfl, .inl ⟨by omega, by go_num, rfl, HF.out⟩⟩
   have hkb : k = l.length := by omega
   have h47 : 47 ∉ l := by have := HNO.out; rwa [hkb, List.take_length] at this
   have hB1 : qden l = [49] := by rw [← HB.out]; unfold cutOn; rw [if_neg h47]
   have HB1 := Lib.hid hB1
   have hAb : cutAt l = l := takeWhile_all l 47 h47
   have hAb2 : l = qnum l := by rw [← HA.out, hAb]
   have HAB2 := Lib.hid hAb2
   clear hB1 hAb h47 hk hkb hAb2
   go_wp2_with fail
   clear hkl
   refine (rparse_l l l ca _ hl1 HCA HAB2).mono ?_
   rintro e w1 ⟨r9, rfl, hn, hb⟩
   replace hbr := hbr.kept hb
   replace hbf := hbf.trans (hb.mono hbf.size)
   clear hb
   obtain ⟨nO, nL, nC, rfl⟩ := hn.form
   go_wp2_with fail
   refine (rparse_d l cb _ hl2 HCB HB1).mono ?_
   rintro e w2 ⟨r9, rfl, hd, hb⟩
   replace hbr := hbr.kept hb
   replace hn := hn.below hb
   replace hbf := hbf.trans (hb.mono hbf.size)
   clear hb
   obtain ⟨dO, dL, dC, rfl⟩ := hd.form
   rcases H3A.out with rfl | rfl | rfl
   ·rcases H3B.out with rfl | rfl | rfl
    ·skip
     have hdl := hd.len
     by_cases hd0 : pval (qden l) = 0
     case pos =>
      obtain rfl : dL = 0 := by rw [hdl, hd0]; simp [rlimbs_zero]
      clear hdl
      have hqc : qcode l = 3 := by unfold qcode; simp [HCA.out, HCB.out, hd0]
      obtain rfl : c9 = 3 := hC9.out.trans hqc
      obtain rfl : q9 = 0 := hQ9.out.trans (by unfold qval; rw [hqc]; simp)
      clear hqc hd0
      have hal : Below w2.heap.size w2 (w2.alloc (.cells #[.int .i64 1] 3)) := (Below.refl _ _).alloc (Nat.le_refl _) _
      have hbr9 := hbr.kept hal
      have er0 := hbr9.c0
      have er1 := hbr9.c1
      have er2 := hbr9.c2
      have fr0 := hbr9.f0
      have fr1 := hbr9.f1
      have fr2 := hbr9.f2
      go_wp2_with fail
      exact end_rc rfl rfl rfl rfl hbr9 (show w.heap.size ≤ pr by have := HP.out; omega) (RQIs.zero (one_is w2 (x := 1) (by omega) (by omega))) (hbf.trans (hal.mono hbf.size))
     have hdp : 0 < dL := by rw [hdl]; exact List.length_pos_iff.2 (fun h => hd0 (rlimbs_eq_nil.1 h))
     have hdn : ¬ (dL : Int) = 0 := by omega
     have hdb : ((dL : Int) == 0) = false := by simpa using hdn
     have HN0 := Lib.hid hd0
     have HDP : Hid (0 < pval (qden l)) := Lib.hid (by omega)
     clear hdl hd0
     have hmk : qOf false (pval (qnum l)) (pval (qden l)) = qmade l := by rw [HSG.out]; rfl
     have HMK := Lib.hid hmk; clear hmk
     go_wp2_with fail
     refine (rmake_any false _ _ _ _ _ hn hd (by omega) (by omega) HDP.out).mono ?_
     rintro e w3 hq9
     obtain ⟨mB, mxO, mxL, mxC, myO, myL, myC, rfl, hS, hmx, hmy, hm, hb⟩ := hq9.out
     have HmS := Lib.hid hS; clear hS
     replace hbr := hbr.kept hb
     replace hn := hn.below hb
     replace hd := hd.below hb
     replace hbf := hbf.trans (hb.mono hbf.size)
     clear hb
     rw [HMK.out] at hm
     obtain ⟨w4, hwE⟩ : ∃ W, W = (w3.alloc (.cells #[.bool mB, .slice mxO mxL mxC, .slice myO myL myC] 98)) := ⟨_, rfl⟩
     have hb : Below w3.heap.size w3 w4 := by rw [hwE]; exact ((Below.refl _ w3).alloc (Nat.le_refl _) _)
     obtain ⟨pm, hpm⟩ : ∃ p, p = w3.heap.size := ⟨_, rfl⟩
     have hbm : Box3 w4 pm (Value.bool mB) (Value.slice mxO mxL mxC) (Value.slice myO myL myC) := by rw [hwE, hpm]; exact ⟨by go_simp, by go_simp, by go_simp, by go_simp, by go_simp, by go_simp⟩
     replace HP : Hid (w.heap.size ≤ pr ∧ pr < pm) := Lib.hid (by have h1 := HP.out; have h9 := hbf.size; have h2r := hbr.lt; omega)
     have HW := Lib.hid hwE; clear hwE
     go_upto_region 23 with fail
     rw [← HW.out, ← hpm]
     clear hpm HW
     replace hbr := hbr.kept hb
     replace hn := hn.below hb
     replace hd := hd.below hb
     replace hmx := hmx.below hb
     replace hmy := hmy.below hb
     replace hm := hm.below hb
     replace hbf := hbf.trans (hb.mono hbf.size)
     clear hb
     have hmb : QB (qmade l) 30000 := QB.of _ (by omega) (by omega) HDP.out
     have em0 := hbm.c0
     have em1 := hbm.c1
     have em2 := hbm.c2
     go_wp2_with fail
     refine (rqtext_any _ _ _ hm hmb).mono ?_
     rintro e w5 ⟨rfl, hb⟩
     clear em0 em1 em2
     replace hbr := hbr.kept hb
     replace hbm := hbm.kept hb
     replace hn := hn.below hb
     replace hd := hd.below hb
     replace hmx := hmx.below hb
     replace hmy := hmy.below hb
     replace hm := hm.below hb
     replace hbf := hbf.trans (hb.mono hbf.size)
     clear hb
     obtain ⟨T, hT⟩ : ∃ T, T = qtext (qmade l) := ⟨_, rfl⟩
     rw [← hT]
     have HT := Lib.hid hT; clear hT
     by_cases ht : T = l
     case pos =>
      have hqc : qcode l = 0 := by unfold qcode; rw [HCA.out, HCB.out, if_neg (by decide), if_neg (by decide), if_neg HN0.out, if_neg (by rw [← HT.out, ht]; simp)]
      obtain rfl : c9 = 0 := hC9.out.trans hqc
      obtain rfl : q9 = qmade l := hQ9.out.trans (by unfold qval; rw [hqc, if_pos rfl])
      clear hqc
      subst ht
      have em0 := hbm.c0
      have em1 := hbm.c1
      have em2 := hbm.c2
      have er0 := hbr.c0
      have fr0 := hbr.f0
      have er1 := hbr.c1
      have fr1 := hbr.f1
      have er2 := hbr.c2
      have fr2 := hbr.f2
      go_wp2_with fail
      exact end_rc rfl rfl rfl rfl hbr (show w.heap.size ≤ pr by have := HP.out; omega) hm hbf
     have hqc : qcode l = 3 := by unfold qcode; rw [HCA.out, HCB.out, if_neg (by decide), if_neg (by decide), if_neg HN0.out, if_pos (by rw [← HT.out]; exact ht)]
     obtain rfl : c9 = 3 := hC9.out.trans hqc
     obtain rfl : q9 = 0 := hQ9.out.trans (by unfold qval; rw [hqc]; simp)
     clear hqc
     have hbeq : (T == l) = false := by simpa using ht
     clear ht
     have hal : Below w5.heap.size w5 (w5.alloc (.cells #[.int .i64 1] 3)) := (Below.refl _ _).alloc (Nat.le_refl _) _
     have hbr9 := hbr.kept hal
     have er0 := hbr9.c0
     have er1 := hbr9.c1
     have er2 := hbr9.c2
     have fr0 := hbr9.f0
     have fr1 := hbr9.f1
     have fr2 := hbr9.f2
     go_wp2_with fail
     exact end_rc rfl rfl rfl rfl hbr9 (show w.heap.size ≤ pr by have := HP.out; omega) (RQIs.zero (one_is w5 (x := 1) (by omega) (by omega))) (hbf.trans (hal.mono hbf.size))
    ·skip
     have hqc : qcode l = 2 := by unfold qcode; simp [HCA.out, HCB.out]
     obtain rfl : c9 = 2 := hC9.out.trans hqc
     obtain rfl : q9 = 0 := hQ9.out.trans (by unfold qval; rw [hqc]; simp)
     clear hqc
     have hal : Below w2.heap.size w2 (w2.alloc (.cells #[.int .i64 1] 3)) := (Below.refl _ _).alloc (Nat.le_refl _) _
     have hbr9 := hbr.kept hal
     have er0 := hbr9.c0
     have er1 := hbr9.c1
     have er2 := hbr9.c2
     have fr0 := hbr9.f0
     have fr1 := hbr9.f1
     have fr2 := hbr9.f2
     go_wp2_with fail
     exact end_rc rfl rfl rfl rfl hbr9 (show w.heap.size ≤ pr by have := HP.out; omega) (RQIs.zero (one_is w2 (x := 1) (by omega) (by omega))) (hbf.trans (hal.mono hbf.size))
    ·skip
     have hqc : qcode l = 3 := by unfold qcode; simp [HCA.out, HCB.out]
     obtain rfl : c9 = 3 := hC9.out.trans hqc
     obtain rfl : q9 = 0 := hQ9.out.trans (by unfold qval; rw [hqc]; simp)
     clear hqc
     have hal : Below w2.heap.size w2 (w2.alloc (.cells #[.int .i64 1] 3)) := (Below.refl _ _).alloc (Nat.le_refl _) _
     have hbr9 := hbr.kept hal
     have er0 := hbr9.c0
     have er1 := hbr9.c1
     have er2 := hbr9.c2
     have fr0 := hbr9.f0
     have fr1 := hbr9.f1
     have fr2 := hbr9.f2
     go_wp2_with fail
     exact end_rc rfl rfl rfl rfl hbr9 (show w.heap.size ≤ pr by have := HP.out; omega) (RQIs.zero (one_is w2 (x := 1) (by omega) (by omega))) (hbf.trans (hal.mono hbf.size))
   ·rcases H3B.out with rfl | rfl | rfl
    ·skip
     have hqc : qcode l = 2 := by unfold qcode; simp [HCA.out, HCB.out]
     obtain rfl : c9 = 2 := hC9.out.trans hqc
     obtain rfl : q9 = 0 := hQ9.out.trans (by unfold qval; rw [hqc]; simp)
     clear hqc
     have hal : Below w2.heap.size w2 (w2.alloc (.cells #[.int .i64 1] 3)) := (Below.refl _ _).alloc (Nat.le_refl _) _
     have hbr9 := hbr.kept hal
     have er0 := hbr9.c0
     have er1 := hbr9.c1
     have er2 := hbr9.c2
     have fr0 := hbr9.f0
     have fr1 := hbr9.f1
     have fr2 := hbr9.f2
     go_wp2_with fail
     exact end_rc rfl rfl rfl rfl hbr9 (show w.heap.size ≤ pr by have := HP.out; omega) (RQIs.zero (one_is w2 (x := 1) (by omega) (by omega))) (hbf.trans (hal.mono hbf.size))
    ·skip
     have hqc : qcode l = 2 := by unfold qcode; simp [HCA.out, HCB.out]
     obtain rfl : c9 = 2 := hC9.out.trans hqc
     obtain rfl : q9 = 0 := hQ9.out.trans (by unfold qval; rw [hqc]; simp)
     clear hqc
     have hal : Below w2.heap.size w2 (w2.alloc (.cells #[.int .i64 1] 3)) := (Below.refl _ _).alloc (Nat.le_refl _) _
     have hbr9 := hbr.kept hal
     have er0 := hbr9.c0
     have er1 := hbr9.c1
     have er2 := hbr9.c2
     have fr0 := hbr9.f0
     have fr1 := hbr9.f1
     have fr2 := hbr9.f2
     go_wp2_with fail
     exact end_rc rfl rfl rfl rfl hbr9 (show w.heap.size ≤ pr by have := HP.out; omega) (RQIs.zero (one_is w2 (x := 1) (by omega) (by omega))) (hbf.trans (hal.mono hbf.size))
    ·skip
     have hqc : qcode l = 3 := by unfold qcode; simp [HCA.out, HCB.out]
     obtain rfl : c9 = 3 := hC9.out.trans hqc
     obtain rfl : q9 = 0 := hQ9.out.trans (by unfold qval; rw [hqc]; simp)
     clear hqc
     have hal : Below w2.heap.size w2 (w2.alloc (.cells #[.int .i64 1] 3)) := (Below.refl _ _).alloc (Nat.le_refl _) _
     have hbr9 := hbr.kept hal
     have er0 := hbr9.c0
     have er1 := hbr9.c1
     have er2 := hbr9.c2
     have fr0 := hbr9.f0
     have fr1 := hbr9.f1
     have fr2 := hbr9.f2
     go_wp2_with fail
     exact end_rc rfl rfl rfl rfl hbr9 (show w.heap.size ≤ pr by have := HP.out; omega) (RQIs.zero (one_is w2 (x := 1) (by omega) (by omega))) (hbf.trans (hal.mono hbf.size))
   ·rcases H3B.out with rfl | rfl | rfl
    ·skip
     have hqc : qcode l = 3 := by unfold qcode; simp [HCA.out, HCB.out]
     obtain rfl : c9 = 3 := hC9.out.trans hqc
     obtain rfl : q9 = 0 := hQ9.out.trans (by unfold qval; rw [hqc]; simp)
     clear hqc
     have hal : Below w2.heap.size w2 (w2.alloc (.cells #[.int .i64 1] 3)) := (Below.refl _ _).alloc (Nat.le_refl _) _
     have hbr9 := hbr.kept hal
     have er0 := hbr9.c0
     have er1 := hbr9.c1
     have er2 := hbr9.c2
     have fr0 := hbr9.f0
     have fr1 := hbr9.f1
     have fr2 := hbr9.f2
     go_wp2_with fail
     exact end_rc rfl rfl rfl rfl hbr9 (show w.heap.size ≤ pr by have := HP.out; omega) (RQIs.zero (one_is w2 (x := 1) (by omega) (by omega))) (hbf.trans (hal.mono hbf.size))
    ·skip
     have hqc : qcode l = 3 := by unfold qcode; simp [HCA.out, HCB.out]
     obtain rfl : c9 = 3 := hC9.out.trans hqc
     obtain rfl : q9 = 0 := hQ9.out.trans (by unfold qval; rw [hqc]; simp)
     clear hqc
     have hal : Below w2.heap.size w2 (w2.alloc (.cells #[.int .i64 1] 3)) := (Below.refl _ _).alloc (Nat.le_refl _) _
     have hbr9 := hbr.kept hal
     have er0 := hbr9.c0
     have er1 := hbr9.c1
     have er2 := hbr9.c2
     have fr0 := hbr9.f0
     have fr1 := hbr9.f1
     have fr2 := hbr9.f2
     go_wp2_with fail
     exact end_rc rfl rfl rfl rfl hbr9 (show w.heap.size ≤ pr by have := HP.out; omega) (RQIs.zero (one_is w2 (x := 1) (by omega) (by omega))) (hbf.trans (hal.mono hbf.size))
    ·skip
     have hqc : qcode l = 3 := by unfold qcode; simp [HCA.out, HCB.out]
     obtain rfl : c9 = 3 := hC9.out.trans hqc
     obtain rfl : q9 = 0 := hQ9.out.trans (by unfold qval; rw [hqc]; simp)
     clear hqc
     have hal : Below w2.heap.size w2 (w2.alloc (.cells #[.int .i64 1] 3)) := (Below.refl _ _).alloc (Nat.le_refl _) _
     have hbr9 := hbr.kept hal
     have er0 := hbr9.c0
     have er1 := hbr9.c1
     have er2 := hbr9.c2
     have fr0 := hbr9.f0
     have fr1 := hbr9.f1
     have fr2 := hbr9.f2
     go_wp2_with fail
     exact end_rc rfl rfl rfl rfl hbr9 (show w.heap.size ≤ pr by have := HP.out; omega) (RQIs.zero (one_is w2 (x := 1) (by omega) (by omega))) (hbf.trans (hal.mono hbf.size))
  ·skip
   have hkl : k < l.length := by omega
   have h3 : ((⟨l.toArray⟩ : ByteArray).extract 0 k) = ⟨(qnum l).toArray⟩ := by rw [bytes_extract, ← HA.out, ← hf1]; simp
   have h4 : ((⟨l.toArray⟩ : ByteArray).extract (k + 1) l.length) = ⟨(qden l).toArray⟩ := by rw [bytes_extract, ← HB.out, ← hf2]; simp
   have hk1 : ((k : Nat) : Int) ≤ ((l.length : Nat) : Int) := by omega
   have hk2 : (0 : Int) ≤ ((k : Nat) : Int) := by omega
   have hk3 : ((k : Nat) : Int) + 1 ≤ ((l.length : Nat) : Int) := by omega
   have hk4 : (0 : Int) ≤ ((k : Nat) : Int) + 1 := by omega
   have hk5 : IntKind.i64.wrap (((k : Nat) : Int) + 1) = ((k : Nat) : Int) + 1 := by simp [IntKind.wrap, IntKind.bits, IntKind.signed]; omega
   have hk6 : (((k : Nat) : Int) + 1).toNat = k + 1 := by omega
   have hk7 : ¬ ((k : Nat) : Int) < 0 := by omega
   clear hf1 hf2 hf3 hk
   by_cases hkk : ((k : Nat) : Int) + 1 < ((l.length : Nat) : Int)
   all_goals
    go_wp2_with fail
    clear hkk
    refine wp_region_seq (S := fun w' => True) [(true, 0), (true, 1), (true, 2), (true, 3), (true, 4), (true, 5), (true, 6), (true, 7), (true, 8)] (by kernel_rfl) (by kernel_rfl) (by kernel_rfl) (by kernel_rfl) (by kernel_rfl) (fun d _ _ _ _ h => by cases d <;> exact h) True.intro (fun _ => ?_)
    simp only [pickOps, List.append_eq, List.cons_append, List.nil_append, List.getElem?_toArray, List.getElem?_cons_succ, List.getElem?_cons_zero]
    have hb : Below w0.heap.size w0 w0.drew := (Below.refl _ _).drew
    generalize w0.drew = w1 at hb ⊢
    replace hbr := hbr.kept hb
    replace hbf := hbf.trans (hb.mono hbf.size)
    clear hb
    repeat (first | (refine seq_take (v := ?_) (by rfl) ?_ ?_; rotate_left; (· intro w hSw; (try dsimp only at hSw); go_simp; all_goals with_reducible rfl); (try simp only [Act.put, List.setIfInBounds_toArray, List.set_cons_zero, List.set_cons_succ])) | (refine seq_leave (by rfl) ?_; (try simp only [Act.put, List.setIfInBounds_toArray, List.set_cons_zero, List.set_cons_succ])))
    refine seq_end ?_
    clear h3 h4 hk1 hk2 hk3 hk4 hk5 hk6 hk7 hkl
    go_wp2_with fail
    refine (rparse_c _ ca _ hl1 HCA).mono ?_
    rintro e w2 ⟨r9, rfl, hn, hb⟩
    replace hbr := hbr.kept hb
    replace hbf := hbf.trans (hb.mono hbf.size)
    clear hb
    obtain ⟨nO, nL, nC, rfl⟩ := hn.form
    go_wp2_with fail
    refine (rparse_c _ cb _ hl2 HCB).mono ?_
    rintro e w3 ⟨r9, rfl, hd, hb⟩
    replace hbr := hbr.kept hb
    replace hn := hn.below hb
    replace hbf := hbf.trans (hb.mono hbf.size)
    clear hb
    obtain ⟨dO, dL, dC, rfl⟩ := hd.form
    rcases H3A.out with rfl | rfl | rfl
    ·rcases H3B.out with rfl | rfl | rfl
     ·skip
      have hdl := hd.len
      by_cases hd0 : pval (qden l) = 0
      case pos =>
       obtain rfl : dL = 0 := by rw [hdl, hd0]; simp [rlimbs_zero]
       clear hdl
       have hqc : qcode l = 3 := by unfold qcode; simp [HCA.out, HCB.out, hd0]
       obtain rfl : c9 = 3 := hC9.out.trans hqc
       obtain rfl : q9 = 0 := hQ9.out.trans (by unfold qval; rw [hqc]; simp)
       clear hqc hd0
       have hal : Below w3.heap.size w3 (w3.alloc (.cells #[.int .i64 1] 3)) := (Below.refl _ _).alloc (Nat.le_refl _) _
       have hbr9 := hbr.kept hal
       have er0 := hbr9.c0
       have er1 := hbr9.c1
       have er2 := hbr9.c2
       have fr0 := hbr9.f0
       have fr1 := hbr9.f1
       have fr2 := hbr9.f2
       go_wp2_with fail
       exact end_rc rfl rfl rfl rfl hbr9 (show w.heap.size ≤ pr by have := HP.out; omega) (RQIs.zero (one_is w3 (x := 1) (by omega) (by omega))) (hbf.trans (hal.mono hbf.size))
      have hdp : 0 < dL := by rw [hdl]; exact List.length_pos_iff.2 (fun h => hd0 (rlimbs_eq_nil.1 h))
      have hdn : ¬ (dL : Int) = 0 := by omega
      have hdb : ((dL : Int) == 0) = false := by simpa using hdn
      have HN0 := Lib.hid hd0
      have HDP : Hid (0 < pval (qden l)) := Lib.hid (by omega)
      clear hdl hd0
      have hmk : qOf false (pval (qnum l)) (pval (qden l)) = qmade l := by rw [HSG.out]; rfl
      have HMK := Lib.hid hmk; clear hmk
      go_wp2_with fail
      refine (rmake_any false _ _ _ _ _ hn hd (by omega) (by omega) HDP.out).mono ?_
      rintro e w4 hq9
      obtain ⟨mB, mxO, mxL, mxC, myO, myL, myC, rfl, hS, hmx, hmy, hm, hb⟩ := hq9.out
      have HmS := Lib.hid hS; clear hS
      replace hbr := hbr.kept hb
      replace hn := hn.below hb
      replace hd := hd.below hb
      replace hbf := hbf.trans (hb.mono hbf.size)
      clear hb
      rw [HMK.out] at hm
      obtain ⟨w5, hwE⟩ : ∃ W, W = (w4.alloc (.cells #[.bool mB, .slice mxO mxL mxC, .slice myO myL myC] 98)) := ⟨_, rfl⟩
      have hb : Below w4.heap.size w4 w5 := by rw [hwE]; exact ((Below.refl _ w4).alloc (Nat.le_refl _) _)
      obtain ⟨pm, hpm⟩ : ∃ p, p = w4.heap.size := ⟨_, rfl⟩
      have hbm : Box3 w5 pm (Value.bool mB) (Value.slice mxO mxL mxC) (Value.slice myO myL myC) := by rw [hwE, hpm]; exact ⟨by go_simp, by go_simp, by go_simp, by go_simp, by go_simp, by go_simp⟩
      replace HP : Hid (w.heap.size ≤ pr ∧ pr < pm) := Lib.hid (by have h1 := HP.out; have h9 := hbf.size; have h2r := hbr.lt; omega)
      have HW := Lib.hid hwE; clear hwE
      go_upto_region 23 with fail
      rw [← HW.out, ← hpm]
      clear hpm HW
      replace hbr := hbr.kept hb
      replace hn := hn.below hb
      replace hd := hd.below hb
      replace hmx := hmx.below hb
      replace hmy := hmy.below hb
      replace hm := hm.below hb
      replace hbf := hbf.trans (hb.mono hbf.size)
      clear hb
      have hmb : QB (qmade l) 30000 := QB.of _ (by omega) (by omega) HDP.out
      have em0 := hbm.c0
      have em1 := hbm.c1
      have em2 := hbm.c2
      go_wp2_with fail
      refine (rqtext_any _ _ _ hm hmb).mono ?_
      rintro e w6 ⟨rfl, hb⟩
      clear em0 em1 em2
      replace hbr := hbr.kept hb
      replace hbm := hbm.kept hb
      replace hn := hn.below hb
      replace hd := hd.below hb
      replace hmx := hmx.below hb
      replace hmy := hmy.below hb
      replace hm := hm.below hb
      replace hbf := hbf.trans (hb.mono hbf.size)
      clear hb
      obtain ⟨T, hT⟩ : ∃ T, T = qtext (qmade l) := ⟨_, rfl⟩
      rw [← hT]
      have HT := Lib.hid hT; clear hT
      by_cases ht : T = l
      case pos =>
       have hqc : qcode l = 0 := by unfold qcode; rw [HCA.out, HCB.out, if_neg (by decide), if_neg (by decide), if_neg HN0.out, if_neg (by rw [← HT.out, ht]; simp)]
       obtain rfl : c9 = 0 := hC9.out.trans hqc
       obtain rfl : q9 = qmade l := hQ9.out.trans (by unfold qval; rw [hqc, if_pos rfl])
       clear hqc
       subst ht
       have em0 := hbm.c0
       have em1 := hbm.c1
       have em2 := hbm.c2
       have er0 := hbr.c0
       have fr0 := hbr.f0
       have er1 := hbr.c1
       have fr1 := hbr.f1
       have er2 := hbr.c2
       have fr2 := hbr.f2
       go_wp2_with fail
       exact end_rc rfl rfl rfl rfl hbr (show w.heap.size ≤ pr by have := HP.out; omega) hm hbf
      have hqc : qcode l = 3 := by unfold qcode; rw [HCA.out, HCB.out, if_neg (by decide), if_neg (by decide), if_neg HN0.out, if_pos (by rw [← HT.out]; exact ht)]
      obtain rfl : c9 = 3 := hC9.out.trans hqc
      obtain rfl : q9 = 0 := hQ9.out.trans (by unfold qval; rw [hqc]; simp)
      clear hqc
      have hbeq : (T == l) = false := by simpa using ht
      clear ht
      have hal : Below w6.heap.size w6 (w6.alloc (.cells #[.int .i64 1] 3)) := (Below.refl _ _).alloc (Nat.le_refl _) _
      have hbr9 := hbr.kept hal
      have er0 := hbr9.c0
      have er1 := hbr9.c1
      have er2 := hbr9.c2
      have fr0 := hbr9.f0
      have fr1 := hbr9.f1
      have fr2 := hbr9.f2
      go_wp2_with fail
      exact end_rc rfl rfl rfl rfl hbr9 (show w.heap.size ≤ pr by have := HP.out; omega) (RQIs.zero (one_is w6 (x := 1) (by omega) (by omega))) (hbf.trans (hal.mono hbf.size))
     ·skip
      have hqc : qcode l = 2 := by unfold qcode; simp [HCA.out, HCB.out]
      obtain rfl : c9 = 2 := hC9.out.trans hqc
      obtain rfl : q9 = 0 := hQ9.out.trans (by unfold qval; rw [hqc]; simp)
      clear hqc
      have hal : Below w3.heap.size w3 (w3.alloc (.cells #[.int .i64 1] 3)) := (Below.refl _ _).alloc (Nat.le_refl _) _
      have hbr9 := hbr.kept hal
      have er0 := hbr9.c0
      have er1 := hbr9.c1
      have er2 := hbr9.c2
      have fr0 := hbr9.f0
      have fr1 := hbr9.f1
      have fr2 := hbr9.f2
      go_wp2_with fail
      exact end_rc rfl rfl rfl rfl hbr9 (show w.heap.size ≤ pr by have := HP.out; omega) (RQIs.zero (one_is w3 (x := 1) (by omega) (by omega))) (hbf.trans (hal.mono hbf.size))
     ·skip
      have hqc : qcode l = 3 := by unfold qcode; simp [HCA.out, HCB.out]
      obtain rfl : c9 = 3 := hC9.out.trans hqc
      obtain rfl : q9 = 0 := hQ9.out.trans (by unfold qval; rw [hqc]; simp)
      clear hqc
      have hal : Below w3.heap.size w3 (w3.alloc (.cells #[.int .i64 1] 3)) := (Below.refl _ _).alloc (Nat.le_refl _) _
      have hbr9 := hbr.kept hal
      have er0 := hbr9.c0
      have er1 := hbr9.c1
      have er2 := hbr9.c2
      have fr0 := hbr9.f0
      have fr1 := hbr9.f1
      have fr2 := hbr9.f2
      go_wp2_with fail
      exact end_rc rfl rfl rfl rfl hbr9 (show w.heap.size ≤ pr by have := HP.out; omega) (RQIs.zero (one_is w3 (x := 1) (by omega) (by omega))) (hbf.trans (hal.mono hbf.size))
    ·rcases H3B.out with rfl | rfl | rfl
     ·skip
      have hqc : qcode l = 2 := by unfold qcode; simp [HCA.out, HCB.out]
      obtain rfl : c9 = 2 := hC9.out.trans hqc
      obtain rfl : q9 = 0 := hQ9.out.trans (by unfold qval; rw [hqc]; simp)
      clear hqc
      have hal : Below w3.heap.size w3 (w3.alloc (.cells #[.int .i64 1] 3)) := (Below.refl _ _).alloc (Nat.le_refl _) _
      have hbr9 := hbr.kept hal
      have er0 := hbr9.c0
      have er1 := hbr9.c1
      have er2 := hbr9.c2
      have fr0 := hbr9.f0
      have fr1 := hbr9.f1
      have fr2 := hbr9.f2
      go_wp2_with fail
      exact end_rc rfl rfl rfl rfl hbr9 (show w.heap.size ≤ pr by have := HP.out; omega) (RQIs.zero (one_is w3 (x := 1) (by omega) (by omega))) (hbf.trans (hal.mono hbf.size))
     ·skip
      have hqc : qcode l = 2 := by unfold qcode; simp [HCA.out, HCB.out]
      obtain rfl : c9 = 2 := hC9.out.trans hqc
      obtain rfl : q9 = 0 := hQ9.out.trans (by unfold qval; rw [hqc]; simp)
      clear hqc
      have hal : Below w3.heap.size w3 (w3.alloc (.cells #[.int .i64 1] 3)) := (Below.refl _ _).alloc (Nat.le_refl _) _
      have hbr9 := hbr.kept hal
      have er0 := hbr9.c0
      have er1 := hbr9.c1
      have er2 := hbr9.c2
      have fr0 := hbr9.f0
      have fr1 := hbr9.f1
      have fr2 := hbr9.f2
      go_wp2_with fail
      exact end_rc rfl rfl rfl rfl hbr9 (show w.heap.size ≤ pr by have := HP.out; omega) (RQIs.zero (one_is w3 (x := 1) (by omega) (by omega))) (hbf.trans (hal.mono hbf.size))
     ·skip
      have hqc : qcode l = 3 := by unfold qcode; simp [HCA.out, HCB.out]
      obtain rfl : c9 = 3 := hC9.out.trans hqc
      obtain rfl : q9 = 0 := hQ9.out.trans (by unfold qval; rw [hqc]; simp)
      clear hqc
      have hal : Below w3.heap.size w3 (w3.alloc (.cells #[.int .i64 1] 3)) := (Below.refl _ _).alloc (Nat.le_refl _) _
      have hbr9 := hbr.kept hal
      have er0 := hbr9.c0
      have er1 := hbr9.c1
      have er2 := hbr9.c2
      have fr0 := hbr9.f0
      have fr1 := hbr9.f1
      have fr2 := hbr9.f2
      go_wp2_with fail
      exact end_rc rfl rfl rfl rfl hbr9 (show w.heap.size ≤ pr by have := HP.out; omega) (RQIs.zero (one_is w3 (x := 1) (by omega) (by omega))) (hbf.trans (hal.mono hbf.size))
    ·rcases H3B.out with rfl | rfl | rfl
     ·skip
      have hqc : qcode l = 3 := by unfold qcode; simp [HCA.out, HCB.out]
      obtain rfl : c9 = 3 := hC9.out.trans hqc
      obtain rfl : q9 = 0 := hQ9.out.trans (by unfold qval; rw [hqc]; simp)
      clear hqc
      have hal : Below w3.heap.size w3 (w3.alloc (.cells #[.int .i64 1] 3)) := (Below.refl _ _).alloc (Nat.le_refl _) _
      have hbr9 := hbr.kept hal
      have er0 := hbr9.c0
      have er1 := hbr9.c1
      have er2 := hbr9.c2
      have fr0 := hbr9.f0
      have fr1 := hbr9.f1
      have fr2 := hbr9.f2
      go_wp2_with fail
      exact end_rc rfl rfl rfl rfl hbr9 (show w.heap.size ≤ pr by have := HP.out; omega) (RQIs.zero (one_is w3 (x := 1) (by omega) (by omega))) (hbf.trans (hal.mono hbf.size))
     ·skip
      have hqc : qcode l = 3 := by unfold qcode; simp [HCA.out, HCB.out]
      obtain rfl : c9 = 3 := hC9.out.trans hqc
      obtain rfl : q9 = 0 := hQ9.out.trans (by unfold qval; rw [hqc]; simp)
      clear hqc
      have hal : Below w3.heap.size w3 (w3.alloc (.cells #[.int .i64 1] 3)) := (Below.refl _ _).alloc (Nat.le_refl _) _
      have hbr9 := hbr.kept hal
      have er0 := hbr9.c0
      have er1 := hbr9.c1
      have er2 := hbr9.c2
      have fr0 := hbr9.f0
      have fr1 := hbr9.f1
      have fr2 := hbr9.f2
      go_wp2_with fail
      exact end_rc rfl rfl rfl rfl hbr9 (show w.heap.size ≤ pr by have := HP.out; omega) (RQIs.zero (one_is w3 (x := 1) (by omega) (by omega))) (hbf.trans (hal.mono hbf.size))
     ·skip
      have hqc : qcode l = 3 := by unfold qcode; simp [HCA.out, HCB.out]
      obtain rfl : c9 = 3 := hC9.out.trans hqc
      obtain rfl : q9 = 0 := hQ9.out.trans (by unfold qval; rw [hqc]; simp)
      clear hqc
      have hal : Below w3.heap.size w3 (w3.alloc (.cells #[.int .i64 1] 3)) := (Below.refl _ _).alloc (Nat.le_refl _) _
      have hbr9 := hbr.kept hal
      have er0 := hbr9.c0
      have er1 := hbr9.c1
      have er2 := hbr9.c2
      have fr0 := hbr9.f0
      have fr1 := hbr9.f1
      have fr2 := hbr9.f2
      go_wp2_with fail
      exact end_rc rfl rfl rfl rfl hbr9 (show w.heap.size ≤ pr by have := HP.out; omega) (RQIs.zero (one_is w3 (x := 1) (by omega) (by omega))) (hbf.trans (hal.mono hbf.size))
set_option maxHeartbeats 1000000 in
theorem rqparse_neg (l : List UInt8) (w : World) (q9 : Rat) (c9 : Int) (hQ9 : Hid (q9 = qval l)) (hC9 : Hid (c9 = qcode l)) (hl : l.length ≤ 100000000) (hl0 : 0 < l.length) (hc : (l[0]?.getD 0).toNat = 45) :
  Calls Tryz.prog 167 #[.string ⟨l.toArray⟩] w (RQPostC w q9 c9) := by
 obtain ⟨body, hbody⟩ : ∃ b, b = (cutNeg l).2 := ⟨_, rfl⟩
 have hbl : body.length ≤ 100000000 := by rw [hbody]; exact Nat.le_trans (cutNeg_le l) hl
 have hA : cutAt body = qnum l := by rw [hbody]; rfl
 have hB : cutOn body = qden l := by rw [hbody]; rfl
 have HA := Lib.hid hA
 have HB := Lib.hid hB
 clear hA hB
 obtain ⟨ca, hca⟩ : ∃ c, c = pcode (qnum l) := ⟨_, rfl⟩
 obtain ⟨cb, hcb⟩ : ∃ c, c = pcode (qden l) := ⟨_, rfl⟩
 have HCA := Lib.hid hca.symm
 have HCB := Lib.hid hcb.symm
 have h3a := pcode_cases (qnum l)
 have h3b := pcode_cases (qden l)
 rw [← hca] at h3a
 rw [← hcb] at h3b
 have H3A := Lib.hid h3a
 have H3B := Lib.hid h3b
 clear hca hcb h3a h3b
 have hln := pval_lim (qnum l)
 have hld := pval_lim (qden l)
 have hrn := rlimbs_of_limbs hln
 have hrd := rlimbs_of_limbs hld
 have hl1 : (qnum l).length ≤ 1000000000 := by have := qnum_le l; omega
 have hl2 : (qden l).length ≤ 1000000000 := by have := qden_le l; omega
 obtain ⟨w0, hw0⟩ : ∃ w0, w0 = (w.alloc (.cells #[.bool false, .slice none 0 0, .slice none 0 0] 98)) := ⟨_, rfl⟩
 have hbf : Below w.heap.size w w0 := by rw [hw0]; exact ((Below.refl _ w).alloc (Nat.le_refl _) _)
 obtain ⟨pr, hpr⟩ : ∃ p, p = w.heap.size := ⟨_, rfl⟩
 have hbr : Box3 w0 pr (Value.bool false) (Value.slice none 0 0) (Value.slice none 0 0) := by rw [hw0, hpr]; exact ⟨by go_simp, by go_simp, by go_simp, by go_simp, by go_simp, by go_simp⟩
 have HP : Hid (w.heap.size ≤ pr) := Lib.hid (by omega)
 have HW := Lib.hid hw0; clear hw0
 go_enter Tryz.func167, Tryz.ntmps167
 go_upto_region 1 with fail
 rw [← HW.out, ← hpr]
 clear hpr HW
 have hl0i : (0 : Int) < ((l.length : Nat) : Int) := by omega
 have hby := byte_at l 0 hl0 (by simpa [ByteArray.size] using hl0)
 have hyes := cutNeg_yes hl0
 have hnot := cutNeg_no hl0
 generalize l[0]?.getD 0 = c at *
 have hc0 : c = 45 := UInt8.toNat_inj.1 hc
 have hcb : ((c.toNat : Int) == 45) = true := by rw [beq_iff_eq]; omega
 rw [hyes hc0] at hbody
 have HSG : Hid (true = qneg l) := Lib.hid (by unfold qneg; rw [hyes hc0])
 have hex : ((⟨l.toArray⟩ : ByteArray).extract 1 l.length) = ⟨body.toArray⟩ := by rw [bytes_extract, hbody]; simp
 have h1i : (1 : Int) ≤ ((l.length : Nat) : Int) := by omega
 clear hyes hnot hbody hc0
 go_upto_region 5 with fail
 clear hby hex hcb hc hl0 hl0i h1i
 go_wp2_with fail
 go_loopg [7, 8] body.length (fun gg cv iv wr => ∃ k : Nat, w0 = wr ∧ ((k + gg = body.length ∧ iv = .int .i64 k ∧ cv = .int .i64 (-1) ∧ 47 ∉ body.take k) ∨ (k + 1 + gg = body.length ∧ iv = .int .i64 ((k + 1 : Nat) : Int) ∧ cv = .int .i64 k ∧ body.take k = cutAt body ∧ body.drop (k + 1) = cutOn body ∧ 47 ∈ body)))
 case atStart => exact ⟨0, rfl, .inl ⟨by omega, rfl, rfl, by simp⟩⟩
 case round =>
  obtain ⟨k, rfl, ⟨hk, rfl, rfl, hno⟩ | ⟨hk, rfl, rfl, hf1, hf2, hf3⟩⟩ := hrel
  ·have HNO := Lib.hid hno; clear hno
   by_cases hkl : k < body.length
   case pos =>
    have hby := byte_at body k hkl (by simpa [ByteArray.size] using hkl)
    have hmo := fun h => not_more (l := body) HNO.out hkl h
    have hfi := fun h => first_at (l := body) HNO.out hkl h
    generalize body[k]?.getD 0 = c at *
    have HMO := Lib.hid hmo
    have HFI := Lib.hid hfi
    clear hmo hfi
    by_cases hc : c.toNat = 47
    case pos =>
     have hc0 : c = 47 := UInt8.toNat_inj.1 hc
     have hcb : ((c.toNat : Int) == 47) = true := by rw [beq_iff_eq]; omega
     have HF := Lib.hid (HFI.out hc0)
     go_wp2_with fail
     go_roundg (gk - 1)
     case measure => omega
     case rel => exact ⟨k, rfl, .inr ⟨by omega, by go_num, rfl, HF.out.1, HF.out.2.1, HF.out.2.2⟩⟩
    have hc0 : c ≠ 47 := fun h => hc (by rw [h]; rfl)
    have hcb : ((c.toNat : Int) == 47) = false := by rw [beq_eq_false_iff_ne]; omega
    have HF := Lib.hid (HMO.out hc0)
    go_wp2_with fail
    go_roundg (gk - 1)
    case measure => omega
    case rel => exact ⟨k + 1, rfl, .inl ⟨by omega, by go_num, rfl, HF.out⟩⟩
   have hkb : k = body.length := by omega
   have h47 : 47 ∉ body := by have := HNO.out; rwa [hkb, List.take_length] at this
   have hB1 : qden l = [49] := by rw [← HB.out]; unfold cutOn; rw [if_neg h47]
   have HB1 := Lib.hid hB1
   have hAb : cutAt body = body := takeWhile_all body 47 h47
   have hAb2 : body = qnum l := by rw [← HA.out, hAb]
   have HAB2 := Lib.hid hAb2
   clear hB1 hAb h47 hk hkb hAb2
   go_wp2_with fail
   clear hkl
   refine (rparse_l body l ca _ hl1 HCA HAB2).mono ?_
   rintro e w1 ⟨r9, rfl, hn, hb⟩
   replace hbr := hbr.kept hb
   replace hbf := hbf.trans (hb.mono hbf.size)
   clear hb
   obtain ⟨nO, nL, nC, rfl⟩ := hn.form
   go_wp2_with fail
   refine (rparse_d l cb _ hl2 HCB HB1).mono ?_
   rintro e w2 ⟨r9, rfl, hd, hb⟩
   replace hbr := hbr.kept hb
   replace hn := hn.below hb
   replace hbf := hbf.trans (hb.mono hbf.size)
   clear hb
   obtain ⟨dO, dL, dC, rfl⟩ := hd.form
   rcases H3A.out with rfl | rfl | rfl
   ·rcases H3B.out with rfl | rfl | rfl
    ·skip
     have hdl := hd.len
     by_cases hd0 : pval (qden l) = 0
     case pos =>
      obtain rfl : dL = 0 := by rw [hdl, hd0]; simp [rlimbs_zero]
      clear hdl
      have hqc : qcode l = 3 := by unfold qcode; simp [HCA.out, HCB.out, hd0]
      obtain rfl : c9 = 3 := hC9.out.trans hqc
      obtain rfl : q9 = 0 := hQ9.out.trans (by unfold qval; rw [hqc]; simp)
      clear hqc hd0
      have hal : Below w2.heap.size w2 (w2.alloc (.cells #[.int .i64 1] 3)) := (Below.refl _ _).alloc (Nat.le_refl _) _
      have hbr9 := hbr.kept hal
      have er0 := hbr9.c0
      have er1 := hbr9.c1
      have er2 := hbr9.c2
      have fr0 := hbr9.f0
      have fr1 := hbr9.f1
      have fr2 := hbr9.f2
      go_wp2_with fail
      exact end_rc rfl rfl rfl rfl hbr9 (show w.heap.size ≤ pr by have := HP.out; omega) (RQIs.zero (one_is w2 (x := 1) (by omega) (by omega))) (hbf.trans (hal.mono hbf.size))
     have hdp : 0 < dL := by rw [hdl]; exact List.length_pos_iff.2 (fun h => hd0 (rlimbs_eq_nil.1 h))
     have hdn : ¬ (dL : Int) = 0 := by omega
     have hdb : ((dL : Int) == 0) = false := by simpa using hdn
     have HN0 := Lib.hid hd0
     have HDP : Hid (0 < pval (qden l)) := Lib.hid (by omega)
     clear hdl hd0
     have hmk : qOf true (pval (qnum l)) (pval (qden l)) = qmade l := by rw [HSG.out]; rfl
     have HMK := Lib.hid hmk; clear hmk
     go_wp2_with fail
     refine (rmake_any true _ _ _ _ _ hn hd (by omega) (by omega) HDP.out).mono ?_
     rintro e w3 hq9
     obtain ⟨mB, mxO, mxL, mxC, myO, myL, myC, rfl, hS, hmx, hmy, hm, hb⟩ := hq9.out
     have HmS := Lib.hid hS; clear hS
     replace hbr := hbr.kept hb
     replace hn := hn.below hb
     replace hd := hd.below hb
     replace hbf := hbf.trans (hb.mono hbf.size)
     clear hb
     rw [HMK.out] at hm
     obtain ⟨w4, hwE⟩ : ∃ W, W = (w3.alloc (.cells #[.bool mB, .slice mxO mxL mxC, .slice myO myL myC] 98)) := ⟨_, rfl⟩
     have hb : Below w3.heap.size w3 w4 := by rw [hwE]; exact ((Below.refl _ w3).alloc (Nat.le_refl _) _)
     obtain ⟨pm, hpm⟩ : ∃ p, p = w3.heap.size := ⟨_, rfl⟩
     have hbm : Box3 w4 pm (Value.bool mB) (Value.slice mxO mxL mxC) (Value.slice myO myL myC) := by rw [hwE, hpm]; exact ⟨by go_simp, by go_simp, by go_simp, by go_simp, by go_simp, by go_simp⟩
     replace HP : Hid (w.heap.size ≤ pr ∧ pr < pm) := Lib.hid (by have h1 := HP.out; have h9 := hbf.size; have h2r := hbr.lt; omega)
     have HW := Lib.hid hwE; clear hwE
     go_upto_region 23 with fail
     rw [← HW.out, ← hpm]
     clear hpm HW
     replace hbr := hbr.kept hb
     replace hn := hn.below hb
     replace hd := hd.below hb
     replace hmx := hmx.below hb
     replace hmy := hmy.below hb
     replace hm := hm.below hb
     replace hbf := hbf.trans (hb.mono hbf.size)
     clear hb
     have hmb : QB (qmade l) 30000 := QB.of _ (by omega) (by omega) HDP.out
     have em0 := hbm.c0
     have em1 := hbm.c1
     have em2 := hbm.c2
     go_wp2_with fail
     refine (rqtext_any _ _ _ hm hmb).mono ?_
     rintro e w5 ⟨rfl, hb⟩
     clear em0 em1 em2
     replace hbr := hbr.kept hb
     replace hbm := hbm.kept hb
     replace hn := hn.below hb
     replace hd := hd.below hb
     replace hmx := hmx.below hb
     replace hmy := hmy.below hb
     replace hm := hm.below hb
     replace hbf := hbf.trans (hb.mono hbf.size)
     clear hb
     obtain ⟨T, hT⟩ : ∃ T, T = qtext (qmade l) := ⟨_, rfl⟩
     rw [← hT]
     have HT := Lib.hid hT; clear hT
     by_cases ht : T = l
     case pos =>
      have hqc : qcode l = 0 := by unfold qcode; rw [HCA.out, HCB.out, if_neg (by decide), if_neg (by decide), if_neg HN0.out, if_neg (by rw [← HT.out, ht]; simp)]
      obtain rfl : c9 = 0 := hC9.out.trans hqc
      obtain rfl : q9 = qmade l := hQ9.out.trans (by unfold qval; rw [hqc, if_pos rfl])
      clear hqc
      subst ht
      have em0 := hbm.c0
      have em1 := hbm.c1
      have em2 := hbm.c2
      have er0 := hbr.c0
      have fr0 := hbr.f0
      have er1 := hbr.c1
      have fr1 := hbr.f1
      have er2 := hbr.c2
      have fr2 := hbr.f2
      go_wp2_with fail
      exact end_rc rfl rfl rfl rfl hbr (show w.heap.size ≤ pr by have := HP.out; omega) hm hbf
     have hqc : qcode l = 3 := by unfold qcode; rw [HCA.out, HCB.out, if_neg (by decide), if_neg (by decide), if_neg HN0.out, if_pos (by rw [← HT.out]; exact ht)]
     obtain rfl : c9 = 3 := hC9.out.trans hqc
     obtain rfl : q9 = 0 := hQ9.out.trans (by unfold qval; rw [hqc]; simp)
     clear hqc
     have hbeq : (T == l) = false := by simpa using ht
     clear ht
     have hal : Below w5.heap.size w5 (w5.alloc (.cells #[.int .i64 1] 3)) := (Below.refl _ _).alloc (Nat.le_refl _) _
     have hbr9 := hbr.kept hal
     have er0 := hbr9.c0
     have er1 := hbr9.c1
     have er2 := hbr9.c2
     have fr0 := hbr9.f0
     have fr1 := hbr9.f1
     have fr2 := hbr9.f2
     go_wp2_with fail
     exact end_rc rfl rfl rfl rfl hbr9 (show w.heap.size ≤ pr by have := HP.out; omega) (RQIs.zero (one_is w5 (x := 1) (by omega) (by omega))) (hbf.trans (hal.mono hbf.size))
    ·skip
     have hqc : qcode l = 2 := by unfold qcode; simp [HCA.out, HCB.out]
     obtain rfl : c9 = 2 := hC9.out.trans hqc
     obtain rfl : q9 = 0 := hQ9.out.trans (by unfold qval; rw [hqc]; simp)
     clear hqc
     have hal : Below w2.heap.size w2 (w2.alloc (.cells #[.int .i64 1] 3)) := (Below.refl _ _).alloc (Nat.le_refl _) _
     have hbr9 := hbr.kept hal
     have er0 := hbr9.c0
     have er1 := hbr9.c1
     have er2 := hbr9.c2
     have fr0 := hbr9.f0
     have fr1 := hbr9.f1
     have fr2 := hbr9.f2
     go_wp2_with fail
     exact end_rc rfl rfl rfl rfl hbr9 (show w.heap.size ≤ pr by have := HP.out; omega) (RQIs.zero (one_is w2 (x := 1) (by omega) (by omega))) (hbf.trans (hal.mono hbf.size))
    ·skip
     have hqc : qcode l = 3 := by unfold qcode; simp [HCA.out, HCB.out]
     obtain rfl : c9 = 3 := hC9.out.trans hqc
     obtain rfl : q9 = 0 := hQ9.out.trans (by unfold qval; rw [hqc]; simp)
     clear hqc
     have hal : Below w2.heap.size w2 (w2.alloc (.cells #[.int .i64 1] 3)) := (Below.refl _ _).alloc (Nat.le_refl _) _
     have hbr9 := hbr.kept hal
     have er0 := hbr9.c0
     have er1 := hbr9.c1
     have er2 := hbr9.c2
     have fr0 := hbr9.f0
     have fr1 := hbr9.f1
     have fr2 := hbr9.f2
     go_wp2_with fail
     exact end_rc rfl rfl rfl rfl hbr9 (show w.heap.size ≤ pr by have := HP.out; omega) (RQIs.zero (one_is w2 (x := 1) (by omega) (by omega))) (hbf.trans (hal.mono hbf.size))
   ·rcases H3B.out with rfl | rfl | rfl
    ·skip
     have hqc : qcode l = 2 := by unfold qcode; simp [HCA.out, HCB.out]
     obtain rfl : c9 = 2 := hC9.out.trans hqc
     obtain rfl : q9 = 0 := hQ9.out.trans (by unfold qval; rw [hqc]; simp)
     clear hqc
     have hal : Below w2.heap.size w2 (w2.alloc (.cells #[.int .i64 1] 3)) := (Below.refl _ _).alloc (Nat.le_refl _) _
     have hbr9 := hbr.kept hal
     have er0 := hbr9.c0
     have er1 := hbr9.c1
     have er2 := hbr9.c2
     have fr0 := hbr9.f0
     have fr1 := hbr9.f1
     have fr2 := hbr9.f2
     go_wp2_with fail
     exact end_rc rfl rfl rfl rfl hbr9 (show w.heap.size ≤ pr by have := HP.out; omega) (RQIs.zero (one_is w2 (x := 1) (by omega) (by omega))) (hbf.trans (hal.mono hbf.size))
    ·skip
     have hqc : qcode l = 2 := by unfold qcode; simp [HCA.out, HCB.out]
     obtain rfl : c9 = 2 := hC9.out.trans hqc
     obtain rfl : q9 = 0 := hQ9.out.trans (by unfold qval; rw [hqc]; simp)
     clear hqc
     have hal : Below w2.heap.size w2 (w2.alloc (.cells #[.int .i64 1] 3)) := (Below.refl _ _).alloc (Nat.le_refl _) _
     have hbr9 := hbr.kept hal
     have er0 := hbr9.c0
     have er1 := hbr9.c1
     have er2 := hbr9.c2
     have fr0 := hbr9.f0
     have fr1 := hbr9.f1
     have fr2 := hbr9.f2
     go_wp2_with fail
     exact end_rc rfl rfl rfl rfl hbr9 (show w.heap.size ≤ pr by have := HP.out; omega) (RQIs.zero (one_is w2 (x := 1) (by omega) (by omega))) (hbf.trans (hal.mono hbf.size))
    ·skip
     have hqc : qcode l = 3 := by unfold qcode; simp [HCA.out, HCB.out]
     obtain rfl : c9 = 3 := hC9.out.trans hqc
     obtain rfl : q9 = 0 := hQ9.out.trans (by unfold qval; rw [hqc]; simp)
     clear hqc
     have hal : Below w2.heap.size w2 (w2.alloc (.cells #[.int .i64 1] 3)) := (Below.refl _ _).alloc (Nat.le_refl _) _
     have hbr9 := hbr.kept hal
     have er0 := hbr9.c0
     have er1 := hbr9.c1
     have er2 := hbr9.c2
     have fr0 := hbr9.f0
     have fr1 := hbr9.f1
     have fr2 := hbr9.f2
     go_wp2_with fail
     exact end_rc rfl rfl rfl rfl hbr9 (show w.heap.size ≤ pr by have := HP.out; omega) (RQIs.zero (one_is w2 (x := 1) (by omega) (by omega))) (hbf.trans (hal.mono hbf.size))
   ·rcases H3B.out with rfl | rfl | rfl
    ·skip
     have hqc : qcode l = 3 := by unfold qcode; simp [HCA.out, HCB.out]
     obtain rfl : c9 = 3 := hC9.out.trans hqc
     obtain rfl : q9 = 0 := hQ9.out.trans (by unfold qval; rw [hqc]; simp)
     clear hqc
     have hal : Below w2.heap.size w2 (w2.alloc (.cells #[.int .i64 1] 3)) := (Below.refl _ _).alloc (Nat.le_refl _) _
     have hbr9 := hbr.kept hal
     have er0 := hbr9.c0
     have er1 := hbr9.c1
     have er2 := hbr9.c2
     have fr0 := hbr9.f0
     have fr1 := hbr9.f1
     have fr2 := hbr9.f2
     go_wp2_with fail
     exact end_rc rfl rfl rfl rfl hbr9 (show w.heap.size ≤ pr by have := HP.out; omega) (RQIs.zero (one_is w2 (x := 1) (by omega) (by omega))) (hbf.trans (hal.mono hbf.size))
    ·skip
     have hqc : qcode l = 3 := by unfold qcode; simp [HCA.out, HCB.out]
     obtain rfl : c9 = 3 := hC9.out.trans hqc
     obtain rfl : q9 = 0 := hQ9.out.trans (by unfold qval; rw [hqc]; simp)
     clear hqc
     have hal : Below w2.heap.size w2 (w2.alloc (.cells #[.int .i64 1] 3)) := (Below.refl _ _).alloc (Nat.le_refl _) _
     have hbr9 := hbr.kept hal
     have er0 := hbr9.c0
     have er1 := hbr9.c1
     have er2 := hbr9.c2
     have fr0 := hbr9.f0
     have fr1 := hbr9.f1
     have fr2 := hbr9.f2
     go_wp2_with fail
     exact end_rc rfl rfl rfl rfl hbr9 (show w.heap.size ≤ pr by have := HP.out; omega) (RQIs.zero (one_is w2 (x := 1) (by omega) (by omega))) (hbf.trans (hal.mono hbf.size))
    ·skip
     have hqc : qcode l = 3 := by unfold qcode; simp [HCA.out, HCB.out]
     obtain rfl : c9 = 3 := hC9.out.trans hqc
     obtain rfl : q9 = 0 := hQ9.out.trans (by unfold qval; rw [hqc]; simp)
     clear hqc
     have hal : Below w2.heap.size w2 (w2.alloc (.cells #[.int .i64 1] 3)) := (Below.refl _ _).alloc (Nat.le_refl _) _
     have hbr9 := hbr.kept hal
     have er0 := hbr9.c0
     have er1 := hbr9.c1
     have er2 := hbr9.c2
     have fr0 := hbr9.f0
     have fr1 := hbr9.f1
     have fr2 := hbr9.f2
     go_wp2_with fail
     exact end_rc rfl rfl rfl rfl hbr9 (show w.heap.size ≤ pr by have := HP.out; omega) (RQIs.zero (one_is w2 (x := 1) (by omega) (by omega))) (hbf.trans (hal.mono hbf.size))
  ·skip
   have hkl : k < body.length := by omega
   have h3 : ((⟨body.toArray⟩ : ByteArray).extract 0 k) = ⟨(qnum l).toArray⟩ := by rw [bytes_extract, ← HA.out, ← hf1]; simp
   have h4 : ((⟨body.toArray⟩ : ByteArray).extract (k + 1) body.length) = ⟨(qden l).toArray⟩ := by rw [bytes_extract, ← HB.out, ← hf2]; simp
   have hk1 : ((k : Nat) : Int) ≤ ((body.length : Nat) : Int) := by omega
   have hk2 : (0 : Int) ≤ ((k : Nat) : Int) := by omega
   have hk3 : ((k : Nat) : Int) + 1 ≤ ((body.length : Nat) : Int) := by omega
   have hk4 : (0 : Int) ≤ ((k : Nat) : Int) + 1 := by omega
   have hk5 : IntKind.i64.wrap (((k : Nat) : Int) + 1) = ((k : Nat) : Int) + 1 := by simp [IntKind.wrap, IntKind.bits, IntKind.signed]; omega
   have hk6 : (((k : Nat) : Int) + 1).toNat = k + 1 := by omega
   have hk7 : ¬ ((k : Nat) : Int) < 0 := by omega
   clear hf1 hf2 hf3 hk
   by_cases hkk : ((k : Nat) : Int) + 1 < ((body.length : Nat) : Int)
   all_goals
    go_wp2_with fail
    clear hkk
    refine wp_region_seq (S := fun w' => True) [(true, 0), (true, 1), (true, 2), (true, 3), (true, 4), (true, 5), (true, 6), (true, 7), (true, 8)] (by kernel_rfl) (by kernel_rfl) (by kernel_rfl) (by kernel_rfl) (by kernel_rfl) (fun d _ _ _ _ h => by cases d <;> exact h) True.intro (fun _ => ?_)
    simp only [pickOps, List.append_eq, List.cons_append, List.nil_append, List.getElem?_toArray, List.getElem?_cons_succ, List.getElem?_cons_zero]
    have hb : Below w0.heap.size w0 w0.drew := (Below.refl _ _).drew
    generalize w0.drew = w1 at hb ⊢
    replace hbr := hbr.kept hb
    replace hbf := hbf.trans (hb.mono hbf.size)
    clear hb
    repeat (first | (refine seq_take (v := ?_) (by rfl) ?_ ?_; rotate_left; (· intro w hSw; (try dsimp only at hSw); go_simp; all_goals with_reducible rfl); (try simp only [Act.put, List.setIfInBounds_toArray, List.set_cons_zero, List.set_cons_succ])) | (refine seq_leave (by rfl) ?_; (try simp only [Act.put, List.setIfInBounds_toArray, List.set_cons_zero, List.set_cons_succ])))
    refine seq_end ?_
    clear h3 h4 hk1 hk2 hk3 hk4 hk5 hk6 hk7 hkl
    go_wp2_with fail
    refine (rparse_c _ ca _ hl1 HCA).mono ?_
    rintro e w2 ⟨r9, rfl, hn, hb⟩
    replace hbr := hbr.kept hb
    replace hbf := hbf.trans (hb.mono hbf.size)
    clear hb
    obtain ⟨nO, nL, nC, rfl⟩ := hn.form
    go_wp2_with fail
    refine (rparse_c _ cb _ hl2 HCB).mono ?_
    rintro e w3 ⟨r9, rfl, hd, hb⟩
    replace hbr := hbr.kept hb
    replace hn := hn.below hb
    replace hbf := hbf.trans (hb.mono hbf.size)
    clear hb
    obtain ⟨dO, dL, dC, rfl⟩ := hd.form
    rcases H3A.out with rfl | rfl | rfl
    ·rcases H3B.out with rfl | rfl | rfl
     ·skip
      have hdl := hd.len
      by_cases hd0 : pval (qden l) = 0
      case pos =>
       obtain rfl : dL = 0 := by rw [hdl, hd0]; simp [rlimbs_zero]
       clear hdl
       have hqc : qcode l = 3 := by unfold qcode; simp [HCA.out, HCB.out, hd0]
       obtain rfl : c9 = 3 := hC9.out.trans hqc
       obtain rfl : q9 = 0 := hQ9.out.trans (by unfold qval; rw [hqc]; simp)
       clear hqc hd0
       have hal : Below w3.heap.size w3 (w3.alloc (.cells #[.int .i64 1] 3)) := (Below.refl _ _).alloc (Nat.le_refl _) _
       have hbr9 := hbr.kept hal
       have er0 := hbr9.c0
       have er1 := hbr9.c1
       have er2 := hbr9.c2
       have fr0 := hbr9.f0
       have fr1 := hbr9.f1
       have fr2 := hbr9.f2
       go_wp2_with fail
       exact end_rc rfl rfl rfl rfl hbr9 (show w.heap.size ≤ pr by have := HP.out; omega) (RQIs.zero (one_is w3 (x := 1) (by omega) (by omega))) (hbf.trans (hal.mono hbf.size))
      have hdp : 0 < dL := by rw [hdl]; exact List.length_pos_iff.2 (fun h => hd0 (rlimbs_eq_nil.1 h))
      have hdn : ¬ (dL : Int) = 0 := by omega
      have hdb : ((dL : Int) == 0) = false := by simpa using hdn
      have HN0 := Lib.hid hd0
      have HDP : Hid (0 < pval (qden l)) := Lib.hid (by omega)
      clear hdl hd0
      have hmk : qOf true (pval (qnum l)) (pval (qden l)) = qmade l := by rw [HSG.out]; rfl
      have HMK := Lib.hid hmk; clear hmk
      go_wp2_with fail
      refine (rmake_any true _ _ _ _ _ hn hd (by omega) (by omega) HDP.out).mono ?_
      rintro e w4 hq9
      obtain ⟨mB, mxO, mxL, mxC, myO, myL, myC, rfl, hS, hmx, hmy, hm, hb⟩ := hq9.out
      have HmS := Lib.hid hS; clear hS
      replace hbr := hbr.kept hb
      replace hn := hn.below hb
      replace hd := hd.below hb
      replace hbf := hbf.trans (hb.mono hbf.size)
      clear hb
      rw [HMK.out] at hm
      obtain ⟨w5, hwE⟩ : ∃ W, W = (w4.alloc (.cells #[.bool mB, .slice mxO mxL mxC, .slice myO myL myC] 98)) := ⟨_, rfl⟩
      have hb : Below w4.heap.size w4 w5 := by rw [hwE]; exact ((Below.refl _ w4).alloc (Nat.le_refl _) _)
      obtain ⟨pm, hpm⟩ : ∃ p, p = w4.heap.size := ⟨_, rfl⟩
      have hbm : Box3 w5 pm (Value.bool mB) (Value.slice mxO mxL mxC) (Value.slice myO myL myC) := by rw [hwE, hpm]; exact ⟨by go_simp, by go_simp, by go_simp, by go_simp, by go_simp, by go_simp⟩
      replace HP : Hid (w.heap.size ≤ pr ∧ pr < pm) := Lib.hid (by have h1 := HP.out; have h9 := hbf.size; have h2r := hbr.lt; omega)
      have HW := Lib.hid hwE; clear hwE
      go_upto_region 23 with fail
      rw [← HW.out, ← hpm]
      clear hpm HW
      replace hbr := hbr.kept hb
      replace hn := hn.below hb
      replace hd := hd.below hb
      replace hmx := hmx.below hb
      replace hmy := hmy.below hb
      replace hm := hm.below hb
      replace hbf := hbf.trans (hb.mono hbf.size)
      clear hb
      have hmb : QB (qmade l) 30000 := QB.of _ (by omega) (by omega) HDP.out
      have em0 := hbm.c0
      have em1 := hbm.c1
      have em2 := hbm.c2
      go_wp2_with fail
      refine (rqtext_any _ _ _ hm hmb).mono ?_
      rintro e w6 ⟨rfl, hb⟩
      clear em0 em1 em2
      replace hbr := hbr.kept hb
      replace hbm := hbm.kept hb
      replace hn := hn.below hb
      replace hd := hd.below hb
      replace hmx := hmx.below hb
      replace hmy := hmy.below hb
      replace hm := hm.below hb
      replace hbf := hbf.trans (hb.mono hbf.size)
      clear hb
      obtain ⟨T, hT⟩ : ∃ T, T = qtext (qmade l) := ⟨_, rfl⟩
      rw [← hT]
      have HT := Lib.hid hT; clear hT
      by_cases ht : T = l
      case pos =>
       have hqc : qcode l = 0 := by unfold qcode; rw [HCA.out, HCB.out, if_neg (by decide), if_neg (by decide), if_neg HN0.out, if_neg (by rw [← HT.out, ht]; simp)]
       obtain rfl : c9 = 0 := hC9.out.trans hqc
       obtain rfl : q9 = qmade l := hQ9.out.trans (by unfold qval; rw [hqc, if_pos rfl])
       clear hqc
       subst ht
       have em0 := hbm.c0
       have em1 := hbm.c1
       have em2 := hbm.c2
       have er0 := hbr.c0
       have fr0 := hbr.f0
       have er1 := hbr.c1
       have fr1 := hbr.f1
       have er2 := hbr.c2
       have fr2 := hbr.f2
       go_wp2_with fail
       exact end_rc rfl rfl rfl rfl hbr (show w.heap.size ≤ pr by have := HP.out; omega) hm hbf
      have hqc : qcode l = 3 := by unfold qcode; rw [HCA.out, HCB.out, if_neg (by decide), if_neg (by decide), if_neg HN0.out, if_pos (by rw [← HT.out]; exact ht)]
      obtain rfl : c9 = 3 := hC9.out.trans hqc
      obtain rfl : q9 = 0 := hQ9.out.trans (by unfold qval; rw [hqc]; simp)
      clear hqc
      have hbeq : (T == l) = false := by simpa using ht
      clear ht
      have hal : Below w6.heap.size w6 (w6.alloc (.cells #[.int .i64 1] 3)) := (Below.refl _ _).alloc (Nat.le_refl _) _
      have hbr9 := hbr.kept hal
      have er0 := hbr9.c0
      have er1 := hbr9.c1
      have er2 := hbr9.c2
      have fr0 := hbr9.f0
      have fr1 := hbr9.f1
      have fr2 := hbr9.f2
      go_wp2_with fail
      exact end_rc rfl rfl rfl rfl hbr9 (show w.heap.size ≤ pr by have := HP.out; omega) (RQIs.zero (one_is w6 (x := 1) (by omega) (by omega))) (hbf.trans (hal.mono hbf.size))
     ·skip
      have hqc : qcode l = 2 := by unfold qcode; simp [HCA.out, HCB.out]
      obtain rfl : c9 = 2 := hC9.out.trans hqc
      obtain rfl : q9 = 0 := hQ9.out.trans (by unfold qval; rw [hqc]; simp)
      clear hqc
      have hal : Below w3.heap.size w3 (w3.alloc (.cells #[.int .i64 1] 3)) := (Below.refl _ _).alloc (Nat.le_refl _) _
      have hbr9 := hbr.kept hal
      have er0 := hbr9.c0
      have er1 := hbr9.c1
      have er2 := hbr9.c2
      have fr0 := hbr9.f0
      have fr1 := hbr9.f1
      have fr2 := hbr9.f2
      go_wp2_with fail
      exact end_rc rfl rfl rfl rfl hbr9 (show w.heap.size ≤ pr by have := HP.out; omega) (RQIs.zero (one_is w3 (x := 1) (by omega) (by omega))) (hbf.trans (hal.mono hbf.size))
     ·skip
      have hqc : qcode l = 3 := by unfold qcode; simp [HCA.out, HCB.out]
      obtain rfl : c9 = 3 := hC9.out.trans hqc
      obtain rfl : q9 = 0 := hQ9.out.trans (by unfold qval; rw [hqc]; simp)
      clear hqc
      have hal : Below w3.heap.size w3 (w3.alloc (.cells #[.int .i64 1] 3)) := (Below.refl _ _).alloc (Nat.le_refl _) _
      have hbr9 := hbr.kept hal
      have er0 := hbr9.c0
      have er1 := hbr9.c1
      have er2 := hbr9.c2
      have fr0 := hbr9.f0
      have fr1 := hbr9.f1
      have fr2 := hbr9.f2
      go_wp2_with fail
      exact end_rc rfl rfl rfl rfl hbr9 (show w.heap.size ≤ pr by have := HP.out; omega) (RQIs.zero (one_is w3 (x := 1) (by omega) (by omega))) (hbf.trans (hal.mono hbf.size))
    ·rcases H3B.out with rfl | rfl | rfl
     ·skip
      have hqc : qcode l = 2 := by unfold qcode; simp [HCA.out, HCB.out]
      obtain rfl : c9 = 2 := hC9.out.trans hqc
      obtain rfl : q9 = 0 := hQ9.out.trans (by unfold qval; rw [hqc]; simp)
      clear hqc
      have hal : Below w3.heap.size w3 (w3.alloc (.cells #[.int .i64 1] 3)) := (Below.refl _ _).alloc (Nat.le_refl _) _
      have hbr9 := hbr.kept hal
      have er0 := hbr9.c0
      have er1 := hbr9.c1
      have er2 := hbr9.c2
      have fr0 := hbr9.f0
      have fr1 := hbr9.f1
      have fr2 := hbr9.f2
      go_wp2_with fail
      exact end_rc rfl rfl rfl rfl hbr9 (show w.heap.size ≤ pr by have := HP.out; omega) (RQIs.zero (one_is w3 (x := 1) (by omega) (by omega))) (hbf.trans (hal.mono hbf.size))
     ·skip
      have hqc : qcode l = 2 := by unfold qcode; simp [HCA.out, HCB.out]
      obtain rfl : c9 = 2 := hC9.out.trans hqc
      obtain rfl : q9 = 0 := hQ9.out.trans (by unfold qval; rw [hqc]; simp)
      clear hqc
      have hal : Below w3.heap.size w3 (w3.alloc (.cells #[.int .i64 1] 3)) := (Below.refl _ _).alloc (Nat.le_refl _) _
      have hbr9 := hbr.kept hal
      have er0 := hbr9.c0
      have er1 := hbr9.c1
      have er2 := hbr9.c2
      have fr0 := hbr9.f0
      have fr1 := hbr9.f1
      have fr2 := hbr9.f2
      go_wp2_with fail
      exact end_rc rfl rfl rfl rfl hbr9 (show w.heap.size ≤ pr by have := HP.out; omega) (RQIs.zero (one_is w3 (x := 1) (by omega) (by omega))) (hbf.trans (hal.mono hbf.size))
     ·skip
      have hqc : qcode l = 3 := by unfold qcode; simp [HCA.out, HCB.out]
      obtain rfl : c9 = 3 := hC9.out.trans hqc
      obtain rfl : q9 = 0 := hQ9.out.trans (by unfold qval; rw [hqc]; simp)
      clear hqc
      have hal : Below w3.heap.size w3 (w3.alloc (.cells #[.int .i64 1] 3)) := (Below.refl _ _).alloc (Nat.le_refl _) _
      have hbr9 := hbr.kept hal
      have er0 := hbr9.c0
      have er1 := hbr9.c1
      have er2 := hbr9.c2
      have fr0 := hbr9.f0
      have fr1 := hbr9.f1
      have fr2 := hbr9.f2
      go_wp2_with fail
      exact end_rc rfl rfl rfl rfl hbr9 (show w.heap.size ≤ pr by have := HP.out; omega) (RQIs.zero (one_is w3 (x := 1) (by omega) (by omega))) (hbf.trans (hal.mono hbf.size))
    ·rcases H3B.out with rfl | rfl | rfl
     ·skip
      have hqc : qcode l = 3 := by unfold qcode; simp [HCA.out, HCB.out]
      obtain rfl : c9 = 3 := hC9.out.trans hqc
      obtain rfl : q9 = 0 := hQ9.out.trans (by unfold qval; rw [hqc]; simp)
      clear hqc
      have hal : Below w3.heap.size w3 (w3.alloc (.cells #[.int .i64 1] 3)) := (Below.refl _ _).alloc (Nat.le_refl _) _
      have hbr9 := hbr.kept hal
      have er0 := hbr9.c0
      have er1 := hbr9.c1
      have er2 := hbr9.c2
      have fr0 := hbr9.f0
      have fr1 := hbr9.f1
      have fr2 := hbr9.f2
      go_wp2_with fail
      exact end_rc rfl rfl rfl rfl hbr9 (show w.heap.size ≤ pr by have := HP.out; omega) (RQIs.zero (one_is w3 (x := 1) (by omega) (by omega))) (hbf.trans (hal.mono hbf.size))
     ·skip
      have hqc : qcode l = 3 := by unfold qcode; simp [HCA.out, HCB.out]
      obtain rfl : c9 = 3 := hC9.out.trans hqc
      obtain rfl : q9 = 0 := hQ9.out.trans (by unfold qval; rw [hqc]; simp)
      clear hqc
      have hal : Below w3.heap.size w3 (w3.alloc (.cells #[.int .i64 1] 3)) := (Below.refl _ _).alloc (Nat.le_refl _) _
      have hbr9 := hbr.kept hal
      have er0 := hbr9.c0
      have er1 := hbr9.c1
      have er2 := hbr9.c2
      have fr0 := hbr9.f0
      have fr1 := hbr9.f1
      have fr2 := hbr9.f2
      go_wp2_with fail
      exact end_rc rfl rfl rfl rfl hbr9 (show w.heap.size ≤ pr by have := HP.out; omega) (RQIs.zero (one_is w3 (x := 1) (by omega) (by omega))) (hbf.trans (hal.mono hbf.size))
     ·skip
      have hqc : qcode l = 3 := by unfold qcode; simp [HCA.out, HCB.out]
      obtain rfl : c9 = 3 := hC9.out.trans hqc
      obtain rfl : q9 = 0 := hQ9.out.trans (by unfold qval; rw [hqc]; simp)
      clear hqc
      have hal : Below w3.heap.size w3 (w3.alloc (.cells #[.int .i64 1] 3)) := (Below.refl _ _).alloc (Nat.le_refl _) _
      have hbr9 := hbr.kept hal
      have er0 := hbr9.c0
      have er1 := hbr9.c1
      have er2 := hbr9.c2
      have fr0 := hbr9.f0
      have fr1 := hbr9.f1
      have fr2 := hbr9.f2
      go_wp2_with fail
      exact end_rc rfl rfl rfl rfl hbr9 (show w.heap.size ≤ pr by have := HP.out; omega) (RQIs.zero (one_is w3 (x := 1) (by omega) (by omega))) (hbf.trans (hal.mono hbf.size))
set_option maxHeartbeats 1000000 in
theorem rqparse_pos (l : List UInt8) (w : World) (q9 : Rat) (c9 : Int) (hQ9 : Hid (q9 = qval l)) (hC9 : Hid (c9 = qcode l)) (hl : l.length ≤ 100000000) (hl0 : 0 < l.length) (hc : ¬ (l[0]?.getD 0).toNat = 45) :
  Calls Tryz.prog 167 #[.string ⟨l.toArray⟩] w (RQPostC w q9 c9) := by
 obtain ⟨body, hbody⟩ : ∃ b, b = (cutNeg l).2 := ⟨_, rfl⟩
 have hbl : body.length ≤ 100000000 := by rw [hbody]; exact Nat.le_trans (cutNeg_le l) hl
 have hA : cutAt body = qnum l := by rw [hbody]; rfl
 have hB : cutOn body = qden l := by rw [hbody]; rfl
 have HA := Lib.hid hA
 have HB := Lib.hid hB
 clear hA hB
 obtain ⟨ca, hca⟩ : ∃ c, c = pcode (qnum l) := ⟨_, rfl⟩
 obtain ⟨cb, hcb⟩ : ∃ c, c = pcode (qden l) := ⟨_, rfl⟩
 have HCA := Lib.hid hca.symm
 have HCB := Lib.hid hcb.symm
 have h3a := pcode_cases (qnum l)
 have h3b := pcode_cases (qden l)
 rw [← hca] at h3a
 rw [← hcb] at h3b
 have H3A := Lib.hid h3a
 have H3B := Lib.hid h3b
 clear hca hcb h3a h3b
 have hln := pval_lim (qnum l)
 have hld := pval_lim (qden l)
 have hrn := rlimbs_of_limbs hln
 have hrd := rlimbs_of_limbs hld
 have hl1 : (qnum l).length ≤ 1000000000 := by have := qnum_le l; omega
 have hl2 : (qden l).length ≤ 1000000000 := by have := qden_le l; omega
 obtain ⟨w0, hw0⟩ : ∃ w0, w0 = (w.alloc (.cells #[.bool false, .slice none 0 0, .slice none 0 0] 98)) := ⟨_, rfl⟩
 have hbf : Below w.heap.size w w0 := by rw [hw0]; exact ((Below.refl _ w).alloc (Nat.le_refl _) _)
 obtain ⟨pr, hpr⟩ : ∃ p, p = w.heap.size := ⟨_, rfl⟩
 have hbr : Box3 w0 pr (Value.bool false) (Value.slice none 0 0) (Value.slice none 0 0) := by rw [hw0, hpr]; exact ⟨by go_simp, by go_simp, by go_simp, by go_simp, by go_simp, by go_simp⟩
 have HP : Hid (w.heap.size ≤ pr) := Lib.hid (by omega)
 have HW := Lib.hid hw0; clear hw0
 go_enter Tryz.func167, Tryz.ntmps167
 go_upto_region 1 with fail
 rw [← HW.out, ← hpr]
 clear hpr HW
 have hl0i : (0 : Int) < ((l.length : Nat) : Int) := by omega
 have hby := byte_at l 0 hl0 (by simpa [ByteArray.size] using hl0)
 have hyes := cutNeg_yes hl0
 have hnot := cutNeg_no hl0
 generalize l[0]?.getD 0 = c at *
 have hc0 : c ≠ 45 := fun h => hc (by rw [h]; rfl)
 have hcb : ((c.toNat : Int) == 45) = false := by rw [beq_eq_false_iff_ne]; omega
 rw [hnot hc0] at hbody
 have HSG : Hid (false = qneg l) := Lib.hid (by unfold qneg; rw [hnot hc0])
 have hb2 : l = body := hbody.symm
 clear hyes hnot hbody hc0
 subst hb2
 go_upto_region 5 with fail
 clear hby hcb hc hl0 hl0i
 go_wp2_with fail
 go_loopg [7, 8] l.length (fun gg cv iv wr => ∃ k : Nat, w0 = wr ∧ ((k + gg = l.length ∧ iv = .int .i64 k ∧ cv = .int .i64 (-1) ∧ 47 ∉ l.take k) ∨ (k + 1 + gg = l.length ∧ iv = .int .i64 ((k + 1 : Nat) : Int) ∧ cv = .int .i64 k ∧ l.take k = cutAt l ∧ l.drop (k + 1) = cutOn l ∧ 47 ∈ l)))
 case atStart => exact ⟨0, rfl, .inl ⟨by omega, rfl, rfl, by simp⟩⟩
 case round =>
  obtain ⟨k, rfl, ⟨hk, rfl, rfl, hno⟩ | ⟨hk, rfl, rfl, hf1, hf2, hf3⟩⟩ := hrel
  ·have HNO := Lib.hid hno; clear hno
   by_cases hkl : k < l.length
   case pos =>
    have hby := byte_at l k hkl (by simpa [ByteArray.size] using hkl)
    have hmo := fun h => not_more (l := l) HNO.out hkl h
    have hfi := fun h => first_at (l := l) HNO.out hkl h
    generalize l[k]?.getD 0 = c at *
    have HMO := Lib.hid hmo
    have HFI := Lib.hid hfi
    clear hmo hfi
    by_cases hc : c.toNat = 47
    case pos =>
     have hc0 : c = 47 := UInt8.toNat_inj.1 hc
     have hcb : ((c.toNat : Int) == 47) = true := by rw [beq_iff_eq]; omega
     have HF := Lib.hid (HFI.out hc0)
     go_wp2_with fail
     go_roundg (gk - 1)
     case measure => omega
     case rel => exact ⟨k, rfl, .inr ⟨by omega, by go_num, rfl, HF.out.1, HF.out.2.1, HF.out.2.2⟩⟩
    have hc0 : c ≠ 47 := fun h => hc (by rw [h]; rfl)
    have hcb : ((c.toNat : Int) == 47) = false := by rw [beq_eq_false_iff_ne]; omega
    have HF := Lib.hid (HMO.out hc0)
    go_wp2_with fail
    go_roundg (gk - 1)
    case measure => omega
    case rel => exact ⟨k + 1, rfl, .inl ⟨by omega, by go_num, rfl, HF.out⟩⟩
   have hkb : k = l.length := by omega
   have h47 : 47 ∉ l := by have := HNO.out; rwa [hkb, List.take_length] at this
   have hB1 : qden l = [49] := by rw [← HB.out]; unfold cutOn; rw [if_neg h47]
   have HB1 := Lib.hid hB1
   have hAb : cutAt l = l := takeWhile_all l 47 h47
   have hAb2 : l = qnum l := by rw [← HA.out, hAb]
   have HAB2 := Lib.hid hAb2
   clear hB1 hAb h47 hk hkb hAb2
   go_wp2_with fail
   clear hkl
   refine (rparse_l l l ca _ hl1 HCA HAB2).mono ?_
   rintro e w1 ⟨r9, rfl, hn, hb⟩
   replace hbr := hbr.kept hb
   replace hbf := hbf.trans (hb.mono hbf.size)
   clear hb
   obtain ⟨nO, nL, nC, rfl⟩ := hn.form
   go_wp2_with fail
   refine (rparse_d l cb _ hl2 HCB HB1).mono ?_
   rintro e w2 ⟨r9, rfl, hd, hb⟩
   replace hbr := hbr.kept hb
   replace hn := hn.below hb
   replace hbf := hbf.trans (hb.mono hbf.size)
   clear hb
   obtain ⟨dO, dL, dC, rfl⟩ := hd.form
   rcases H3A.out with rfl | rfl | rfl
   ·rcases H3B.out with rfl | rfl | rfl
    ·skip
     have hdl := hd.len
     by_cases hd0 : pval (qden l) = 0
     case pos =>
      obtain rfl : dL = 0 := by rw [hdl, hd0]; simp [rlimbs_zero]
      clear hdl
      have hqc : qcode l = 3 := by unfold qcode; simp [HCA.out, HCB.out, hd0]
      obtain rfl : c9 = 3 := hC9.out.trans hqc
      obtain rfl : q9 = 0 := hQ9.out.trans (by unfold qval; rw [hqc]; simp)
      clear hqc hd0
      have hal : Below w2.heap.size w2 (w2.alloc (.cells #[.int .i64 1] 3)) := (Below.refl _ _).alloc (Nat.le_refl _) _
      have hbr9 := hbr.kept hal
      have er0 := hbr9.c0
      have er1 := hbr9.c1
      have er2 := hbr9.c2
      have fr0 := hbr9.f0
      have fr1 := hbr9.f1
      have fr2 := hbr9.f2
      go_wp2_with fail
      exact end_rc rfl rfl rfl rfl hbr9 (show w.heap.size ≤ pr by have := HP.out; omega) (RQIs.zero (one_is w2 (x := 1) (by omega) (by omega))) (hbf.trans (hal.mono hbf.size))
     have hdp : 0 < dL := by rw [hdl]; exact List.length_pos_iff.2 (fun h => hd0 (rlimbs_eq_nil.1 h))
     have hdn : ¬ (dL : Int) = 0 := by omega
     have hdb : ((dL : Int) == 0) = false := by simpa using hdn
     have HN0 := Lib.hid hd0
     have HDP : Hid (0 < pval (qden l)) := Lib.hid (by omega)
     clear hdl hd0
     have hmk : qOf false (pval (qnum l)) (pval (qden l)) = qmade l := by rw [HSG.out]; rfl
     have HMK := Lib.hid hmk; clear hmk
     go_wp2_with fail
     refine (rmake_any false _ _ _ _ _ hn hd (by omega) (by omega) HDP.out).mono ?_
     rintro e w3 hq9
     obtain ⟨mB, mxO, mxL, mxC, myO, myL, myC, rfl, hS, hmx, hmy, hm, hb⟩ := hq9.out
     have HmS := Lib.hid hS; clear hS
     replace hbr := hbr.kept hb
     replace hn := hn.below hb
     replace hd := hd.below hb
     replace hbf := hbf.trans (hb.mono hbf.size)
     clear hb
     rw [HMK.out] at hm
     obtain ⟨w4, hwE⟩ : ∃ W, W = (w3.alloc (.cells #[.bool mB, .slice mxO mxL mxC, .slice myO myL myC] 98)) := ⟨_, rfl⟩
     have hb : Below w3.heap.size w3 w4 := by rw [hwE]; exact ((Below.refl _ w3).alloc (Nat.le_refl _) _)
     obtain ⟨pm, hpm⟩ : ∃ p, p = w3.heap.size := ⟨_, rfl⟩
     have hbm : Box3 w4 pm (Value.bool mB) (Value.slice mxO mxL mxC) (Value.slice myO myL myC) := by rw [hwE, hpm]; exact ⟨by go_simp, by go_simp, by go_simp, by go_simp, by go_simp, by go_simp⟩
     replace HP : Hid (w.heap.size ≤ pr ∧ pr < pm) := Lib.hid (by have h1 := HP.out; have h9 := hbf.size; have h2r := hbr.lt; omega)
     have HW := Lib.hid hwE; clear hwE
     go_upto_region 23 with fail
     rw [← HW.out, ← hpm]
     clear hpm HW
     replace hbr := hbr.kept hb
     replace hn := hn.below hb
     replace hd := hd.below hb
     replace hmx := hmx.below hb
     replace hmy := hmy.below hb
     replace hm := hm.below hb
     replace hbf := hbf.trans (hb.mono hbf.size)
     clear hb
     have hmb : QB (qmade l) 30000 := QB.of _ (by omega) (by omega) HDP.out
     have em0 := hbm.c0
     have em1 := hbm.c1
     have em2 := hbm.c2
     go_wp2_with fail
     refine (rqtext_any _ _ _ hm hmb).mono ?_
     rintro e w5 ⟨rfl, hb⟩
     clear em0 em1 em2
     replace hbr := hbr.kept hb
     replace hbm := hbm.kept hb
     replace hn := hn.below hb
     replace hd := hd.below hb
     replace hmx := hmx.below hb
     replace hmy := hmy.below hb
     replace hm := hm.below hb
     replace hbf := hbf.trans (hb.mono hbf.size)
     clear hb
     obtain ⟨T, hT⟩ : ∃ T, T = qtext (qmade l) := ⟨_, rfl⟩
     rw [← hT]
     have HT := Lib.hid hT; clear hT
     by_cases ht : T = l
     case pos =>
      have hqc : qcode l = 0 := by unfold qcode; rw [HCA.out, HCB.out, if_neg (by decide), if_neg (by decide), if_neg HN0.out, if_neg (by rw [← HT.out, ht]; simp)]
      obtain rfl : c9 = 0 := hC9.out.trans hqc
      obtain rfl : q9 = qmade l := hQ9.out.trans (by unfold qval; rw [hqc, if_pos rfl])
      clear hqc
      subst ht
      have em0 := hbm.c0
      have em1 := hbm.c1
      have em2 := hbm.c2
      have er0 := hbr.c0
      have fr0 := hbr.f0
      have er1 := hbr.c1
      have fr1 := hbr.f1
      have er2 := hbr.c2
      have fr2 := hbr.f2
      go_wp2_with fail
      exact end_rc rfl rfl rfl rfl hbr (show w.heap.size ≤ pr by have := HP.out; omega) hm hbf
     have hqc : qcode l = 3 := by unfold qcode; rw [HCA.out, HCB.out, if_neg (by decide), if_neg (by decide), if_neg HN0.out, if_pos (by rw [← HT.out]; exact ht)]
     obtain rfl : c9 = 3 := hC9.out.trans hqc
     obtain rfl : q9 = 0 := hQ9.out.trans (by unfold qval; rw [hqc]; simp)
     clear hqc
     have hbeq : (T == l) = false := by simpa using ht
     clear ht
     have hal : Below w5.heap.size w5 (w5.alloc (.cells #[.int .i64 1] 3)) := (Below.refl _ _).alloc (Nat.le_refl _) _
     have hbr9 := hbr.kept hal
     have er0 := hbr9.c0
     have er1 := hbr9.c1
     have er2 := hbr9.c2
     have fr0 := hbr9.f0
     have fr1 := hbr9.f1
     have fr2 := hbr9.f2
     go_wp2_with fail
     exact end_rc rfl rfl rfl rfl hbr9 (show w.heap.size ≤ pr by have := HP.out; omega) (RQIs.zero (one_is w5 (x := 1) (by omega) (by omega))) (hbf.trans (hal.mono hbf.size))
    ·skip
     have hqc : qcode l = 2 := by unfold qcode; simp [HCA.out, HCB.out]
     obtain rfl : c9 = 2 := hC9.out.trans hqc
     obtain rfl : q9 = 0 := hQ9.out.trans (by unfold qval; rw [hqc]; simp)
     clear hqc
     have hal : Below w2.heap.size w2 (w2.alloc (.cells #[.int .i64 1] 3)) := (Below.refl _ _).alloc (Nat.le_refl _) _
     have hbr9 := hbr.kept hal
     have er0 := hbr9.c0
     have er1 := hbr9.c1
     have er2 := hbr9.c2
     have fr0 := hbr9.f0
     have fr1 := hbr9.f1
     have fr2 := hbr9.f2
     go_wp2_with fail
     exact end_rc rfl rfl rfl rfl hbr9 (show w.heap.size ≤ pr by have := HP.out; omega) (RQIs.zero (one_is w2 (x := 1) (by omega) (by omega))) (hbf.trans (hal.mono hbf.size))
    ·skip
     have hqc : qcode l = 3 := by unfold qcode; simp [HCA.out, HCB.out]
     obtain rfl : c9 = 3 := hC9.out.trans hqc
     obtain rfl : q9 = 0 := hQ9.out.trans (by unfold qval; rw [hqc]; simp)
     clear hqc
     have hal : Below w2.heap.size w2 (w2.alloc (.cells #[.int .i64 1] 3)) := (Below.refl _ _).alloc (Nat.le_refl _) _
     have hbr9 := hbr.kept hal
     have er0 := hbr9.c0
     have er1 := hbr9.c1
     have er2 := hbr9.c2
     have fr0 := hbr9.f0
     have fr1 := hbr9.f1
     have fr2 := hbr9.f2
     go_wp2_with fail
     exact end_rc rfl rfl rfl rfl hbr9 (show w.heap.size ≤ pr by have := HP.out; omega) (RQIs.zero (one_is w2 (x := 1) (by omega) (by omega))) (hbf.trans (hal.mono hbf.size))
   ·rcases H3B.out with rfl | rfl | rfl
    ·skip
     have hqc : qcode l = 2 := by unfold qcode; simp [HCA.out, HCB.out]
     obtain rfl : c9 = 2 := hC9.out.trans hqc
     obtain rfl : q9 = 0 := hQ9.out.trans (by unfold qval; rw [hqc]; simp)
     clear hqc
     have hal : Below w2.heap.size w2 (w2.alloc (.cells #[.int .i64 1] 3)) := (Below.refl _ _).alloc (Nat.le_refl _) _
     have hbr9 := hbr.kept hal
     have er0 := hbr9.c0
     have er1 := hbr9.c1
     have er2 := hbr9.c2
     have fr0 := hbr9.f0
     have fr1 := hbr9.f1
     have fr2 := hbr9.f2
     go_wp2_with fail
     exact end_rc rfl rfl rfl rfl hbr9 (show w.heap.size ≤ pr by have := HP.out; omega) (RQIs.zero (one_is w2 (x := 1) (by omega) (by omega))) (hbf.trans (hal.mono hbf.size))
    ·skip
     have hqc : qcode l = 2 := by unfold qcode; simp [HCA.out, HCB.out]
     obtain rfl : c9 = 2 := hC9.out.trans hqc
     obtain rfl : q9 = 0 := hQ9.out.trans (by unfold qval; rw [hqc]; simp)
     clear hqc
     have hal : Below w2.heap.size w2 (w2.alloc (.cells #[.int .i64 1] 3)) := (Below.refl _ _).alloc (Nat.le_refl _) _
     have hbr9 := hbr.kept hal
     have er0 := hbr9.c0
     have er1 := hbr9.c1
     have er2 := hbr9.c2
     have fr0 := hbr9.f0
     have fr1 := hbr9.f1
     have fr2 := hbr9.f2
     go_wp2_with fail
     exact end_rc rfl rfl rfl rfl hbr9 (show w.heap.size ≤ pr by have := HP.out; omega) (RQIs.zero (one_is w2 (x := 1) (by omega) (by omega))) (hbf.trans (hal.mono hbf.size))
    ·skip
     have hqc : qcode l = 3 := by unfold qcode; simp [HCA.out, HCB.out]
     obtain rfl : c9 = 3 := hC9.out.trans hqc
     obtain rfl : q9 = 0 := hQ9.out.trans (by unfold qval; rw [hqc]; simp)
     clear hqc
     have hal : Below w2.heap.size w2 (w2.alloc (.cells #[.int .i64 1] 3)) := (Below.refl _ _).alloc (Nat.le_refl _) _
     have hbr9 := hbr.kept hal
     have er0 := hbr9.c0
     have er1 := hbr9.c1
     have er2 := hbr9.c2
     have fr0 := hbr9.f0
     have fr1 := hbr9.f1
     have fr2 := hbr9.f2
     go_wp2_with fail
     exact end_rc rfl rfl rfl rfl hbr9 (show w.heap.size ≤ pr by have := HP.out; omega) (RQIs.zero (one_is w2 (x := 1) (by omega) (by omega))) (hbf.trans (hal.mono hbf.size))
   ·rcases H3B.out with rfl | rfl | rfl
    ·skip
     have hqc : qcode l = 3 := by unfold qcode; simp [HCA.out, HCB.out]
     obtain rfl : c9 = 3 := hC9.out.trans hqc
     obtain rfl : q9 = 0 := hQ9.out.trans (by unfold qval; rw [hqc]; simp)
     clear hqc
     have hal : Below w2.heap.size w2 (w2.alloc (.cells #[.int .i64 1] 3)) := (Below.refl _ _).alloc (Nat.le_refl _) _
     have hbr9 := hbr.kept hal
     have er0 := hbr9.c0
     have er1 := hbr9.c1
     have er2 := hbr9.c2
     have fr0 := hbr9.f0
     have fr1 := hbr9.f1
     have fr2 := hbr9.f2
     go_wp2_with fail
     exact end_rc rfl rfl rfl rfl hbr9 (show w.heap.size ≤ pr by have := HP.out; omega) (RQIs.zero (one_is w2 (x := 1) (by omega) (by omega))) (hbf.trans (hal.mono hbf.size))
    ·skip
     have hqc : qcode l = 3 := by unfold qcode; simp [HCA.out, HCB.out]
     obtain rfl : c9 = 3 := hC9.out.trans hqc
     obtain rfl : q9 = 0 := hQ9.out.trans (by unfold qval; rw [hqc]; simp)
     clear hqc
     have hal : Below w2.heap.size w2 (w2.alloc (.cells #[.int .i64 1] 3)) := (Below.refl _ _).alloc (Nat.le_refl _) _
     have hbr9 := hbr.kept hal
     have er0 := hbr9.c0
     have er1 := hbr9.c1
     have er2 := hbr9.c2
     have fr0 := hbr9.f0
     have fr1 := hbr9.f1
     have fr2 := hbr9.f2
     go_wp2_with fail
     exact end_rc rfl rfl rfl rfl hbr9 (show w.heap.size ≤ pr by have := HP.out; omega) (RQIs.zero (one_is w2 (x := 1) (by omega) (by omega))) (hbf.trans (hal.mono hbf.size))
    ·skip
     have hqc : qcode l = 3 := by unfold qcode; simp [HCA.out, HCB.out]
     obtain rfl : c9 = 3 := hC9.out.trans hqc
     obtain rfl : q9 = 0 := hQ9.out.trans (by unfold qval; rw [hqc]; simp)
     clear hqc
     have hal : Below w2.heap.size w2 (w2.alloc (.cells #[.int .i64 1] 3)) := (Below.refl _ _).alloc (Nat.le_refl _) _
     have hbr9 := hbr.kept hal
     have er0 := hbr9.c0
     have er1 := hbr9.c1
     have er2 := hbr9.c2
     have fr0 := hbr9.f0
     have fr1 := hbr9.f1
     have fr2 := hbr9.f2
     go_wp2_with fail
     exact end_rc rfl rfl rfl rfl hbr9 (show w.heap.size ≤ pr by have := HP.out; omega) (RQIs.zero (one_is w2 (x := 1) (by omega) (by omega))) (hbf.trans (hal.mono hbf.size))
  ·skip
   have hkl : k < l.length := by omega
   have h3 : ((⟨l.toArray⟩ : ByteArray).extract 0 k) = ⟨(qnum l).toArray⟩ := by rw [bytes_extract, ← HA.out, ← hf1]; simp
   have h4 : ((⟨l.toArray⟩ : ByteArray).extract (k + 1) l.length) = ⟨(qden l).toArray⟩ := by rw [bytes_extract, ← HB.out, ← hf2]; simp
   have hk1 : ((k : Nat) : Int) ≤ ((l.length : Nat) : Int) := by omega
   have hk2 : (0 : Int) ≤ ((k : Nat) : Int) := by omega
   have hk3 : ((k : Nat) : Int) + 1 ≤ ((l.length : Nat) : Int) := by omega
   have hk4 : (0 : Int) ≤ ((k : Nat) : Int) + 1 := by omega
   have hk5 : IntKind.i64.wrap (((k : Nat) : Int) + 1) = ((k : Nat) : Int) + 1 := by simp [IntKind.wrap, IntKind.bits, IntKind.signed]; omega
   have hk6 : (((k : Nat) : Int) + 1).toNat = k + 1 := by omega
   have hk7 : ¬ ((k : Nat) : Int) < 0 := by omega
   clear hf1 hf2 hf3 hk
   by_cases hkk : ((k : Nat) : Int) + 1 < ((l.length : Nat) : Int)
   all_goals
    go_wp2_with fail
    clear hkk
    refine wp_region_seq (S := fun w' => True) [(true, 0), (true, 1), (true, 2), (true, 3), (true, 4), (true, 5), (true, 6), (true, 7), (true, 8)] (by kernel_rfl) (by kernel_rfl) (by kernel_rfl) (by kernel_rfl) (by kernel_rfl) (fun d _ _ _ _ h => by cases d <;> exact h) True.intro (fun _ => ?_)
    simp only [pickOps, List.append_eq, List.cons_append, List.nil_append, List.getElem?_toArray, List.getElem?_cons_succ, List.getElem?_cons_zero]
    have hb : Below w0.heap.size w0 w0.drew := (Below.refl _ _).drew
    generalize w0.drew = w1 at hb ⊢
    replace hbr := hbr.kept hb
    replace hbf := hbf.trans (hb.mono hbf.size)
    clear hb
    repeat (first | (refine seq_take (v := ?_) (by rfl) ?_ ?_; rotate_left; (· intro w hSw; (try dsimp only at hSw); go_simp; all_goals with_reducible rfl); (try simp only [Act.put, List.setIfInBounds_toArray, List.set_cons_zero, List.set_cons_succ])) | (refine seq_leave (by rfl) ?_; (try simp only [Act.put, List.setIfInBounds_toArray, List.set_cons_zero, List.set_cons_succ])))
    refine seq_end ?_
    clear h3 h4 hk1 hk2 hk3 hk4 hk5 hk6 hk7 hkl
    go_wp2_with fail
    refine (rparse_c _ ca _ hl1 HCA).mono ?_
    rintro e w2 ⟨r9, rfl, hn, hb⟩
    replace hbr := hbr.kept hb
    replace hbf := hbf.trans (hb.mono hbf.size)
    clear hb
    obtain ⟨nO, nL, nC, rfl⟩ := hn.form
    go_wp2_with fail
    refine (rparse_c _ cb _ hl2 HCB).mono ?_
    rintro e w3 ⟨r9, rfl, hd, hb⟩
    replace hbr := hbr.kept hb
    replace hn := hn.below hb
    replace hbf := hbf.trans (hb.mono hbf.size)
    clear hb
    obtain ⟨dO, dL, dC, rfl⟩ := hd.form
    rcases H3A.out with rfl | rfl | rfl
    ·rcases H3B.out with rfl | rfl | rfl
     ·skip
      have hdl := hd.len
      by_cases hd0 : pval (qden l) = 0
      case pos =>
       obtain rfl : dL = 0 := by rw [hdl, hd0]; simp [rlimbs_zero]
       clear hdl
       have hqc : qcode l = 3 := by unfold qcode; simp [HCA.out, HCB.out, hd0]
       obtain rfl : c9 = 3 := hC9.out.trans hqc
       obtain rfl : q9 = 0 := hQ9.out.trans (by unfold qval; rw [hqc]; simp)
       clear hqc hd0
       have hal : Below w3.heap.size w3 (w3.alloc (.cells #[.int .i64 1] 3)) := (Below.refl _ _).alloc (Nat.le_refl _) _
       have hbr9 := hbr.kept hal
       have er0 := hbr9.c0
       have er1 := hbr9.c1
       have er2 := hbr9.c2
       have fr0 := hbr9.f0
       have fr1 := hbr9.f1
       have fr2 := hbr9.f2
       go_wp2_with fail
       exact end_rc rfl rfl rfl rfl hbr9 (show w.heap.size ≤ pr by have := HP.out; omega) (RQIs.zero (one_is w3 (x := 1) (by omega) (by omega))) (hbf.trans (hal.mono hbf.size))
      have hdp : 0 < dL := by rw [hdl]; exact List.length_pos_iff.2 (fun h => hd0 (rlimbs_eq_nil.1 h))
      have hdn : ¬ (dL : Int) = 0 := by omega
      have hdb : ((dL : Int) == 0) = false := by simpa using hdn
      have HN0 := Lib.hid hd0
      have HDP : Hid (0 < pval (qden l)) := Lib.hid (by omega)
      clear hdl hd0
      have hmk : qOf false (pval (qnum l)) (pval (qden l)) = qmade l := by rw [HSG.out]; rfl
      have HMK := Lib.hid hmk; clear hmk
      go_wp2_with fail
      refine (rmake_any false _ _ _ _ _ hn hd (by omega) (by omega) HDP.out).mono ?_
      rintro e w4 hq9
      obtain ⟨mB, mxO, mxL, mxC, myO, myL, myC, rfl, hS, hmx, hmy, hm, hb⟩ := hq9.out
      have HmS := Lib.hid hS; clear hS
      replace hbr := hbr.kept hb
      replace hn := hn.below hb
      replace hd := hd.below hb
      replace hbf := hbf.trans (hb.mono hbf.size)
      clear hb
      rw [HMK.out] at hm
      obtain ⟨w5, hwE⟩ : ∃ W, W = (w4.alloc (.cells #[.bool mB, .slice mxO mxL mxC, .slice myO myL myC] 98)) := ⟨_, rfl⟩
      have hb : Below w4.heap.size w4 w5 := by rw [hwE]; exact ((Below.refl _ w4).alloc (Nat.le_refl _) _)
      obtain ⟨pm, hpm⟩ : ∃ p, p = w4.heap.size := ⟨_, rfl⟩
      have hbm : Box3 w5 pm (Value.bool mB) (Value.slice mxO mxL mxC) (Value.slice myO myL myC) := by rw [hwE, hpm]; exact ⟨by go_simp, by go_simp, by go_simp, by go_simp, by go_simp, by go_simp⟩
      replace HP : Hid (w.heap.size ≤ pr ∧ pr < pm) := Lib.hid (by have h1 := HP.out; have h9 := hbf.size; have h2r := hbr.lt; omega)
      have HW := Lib.hid hwE; clear hwE
      go_upto_region 23 with fail
      rw [← HW.out, ← hpm]
      clear hpm HW
      replace hbr := hbr.kept hb
      replace hn := hn.below hb
      replace hd := hd.below hb
      replace hmx := hmx.below hb
      replace hmy := hmy.below hb
      replace hm := hm.below hb
      replace hbf := hbf.trans (hb.mono hbf.size)
      clear hb
      have hmb : QB (qmade l) 30000 := QB.of _ (by omega) (by omega) HDP.out
      have em0 := hbm.c0
      have em1 := hbm.c1
      have em2 := hbm.c2
      go_wp2_with fail
      refine (rqtext_any _ _ _ hm hmb).mono ?_
      rintro e w6 ⟨rfl, hb⟩
      clear em0 em1 em2
      replace hbr := hbr.kept hb
      replace hbm := hbm.kept hb
      replace hn := hn.below hb
      replace hd := hd.below hb
      replace hmx := hmx.below hb
      replace hmy := hmy.below hb
      replace hm := hm.below hb
      replace hbf := hbf.trans (hb.mono hbf.size)
      clear hb
      obtain ⟨T, hT⟩ : ∃ T, T = qtext (qmade l) := ⟨_, rfl⟩
      rw [← hT]
      have HT := Lib.hid hT; clear hT
      by_cases ht : T = l
      case pos =>
       have hqc : qcode l = 0 := by unfold qcode; rw [HCA.out, HCB.out, if_neg (by decide), if_neg (by decide), if_neg HN0.out, if_neg (by rw [← HT.out, ht]; simp)]
       obtain rfl : c9 = 0 := hC9.out.trans hqc
       obtain rfl : q9 = qmade l := hQ9.out.trans (by unfold qval; rw [hqc, if_pos rfl])
       clear hqc
       subst ht
       have em0 := hbm.c0
       have em1 := hbm.c1
       have em2 := hbm.c2
       have er0 := hbr.c0
       have fr0 := hbr.f0
       have er1 := hbr.c1
       have fr1 := hbr.f1
       have er2 := hbr.c2
       have fr2 := hbr.f2
       go_wp2_with fail
       exact end_rc rfl rfl rfl rfl hbr (show w.heap.size ≤ pr by have := HP.out; omega) hm hbf
      have hqc : qcode l = 3 := by unfold qcode; rw [HCA.out, HCB.out, if_neg (by decide), if_neg (by decide), if_neg HN0.out, if_pos (by rw [← HT.out]; exact ht)]
      obtain rfl : c9 = 3 := hC9.out.trans hqc
      obtain rfl : q9 = 0 := hQ9.out.trans (by unfold qval; rw [hqc]; simp)
      clear hqc
      have hbeq : (T == l) = false := by simpa using ht
      clear ht
      have hal : Below w6.heap.size w6 (w6.alloc (.cells #[.int .i64 1] 3)) := (Below.refl _ _).alloc (Nat.le_refl _) _
      have hbr9 := hbr.kept hal
      have er0 := hbr9.c0
      have er1 := hbr9.c1
      have er2 := hbr9.c2
      have fr0 := hbr9.f0
      have fr1 := hbr9.f1
      have fr2 := hbr9.f2
      go_wp2_with fail
      exact end_rc rfl rfl rfl rfl hbr9 (show w.heap.size ≤ pr by have := HP.out; omega) (RQIs.zero (one_is w6 (x := 1) (by omega) (by omega))) (hbf.trans (hal.mono hbf.size))
     ·skip
      have hqc : qcode l = 2 := by unfold qcode; simp [HCA.out, HCB.out]
      obtain rfl : c9 = 2 := hC9.out.trans hqc
      obtain rfl : q9 = 0 := hQ9.out.trans (by unfold qval; rw [hqc]; simp)
      clear hqc
      have hal : Below w3.heap.size w3 (w3.alloc (.cells #[.int .i64 1] 3)) := (Below.refl _ _).alloc (Nat.le_refl _) _
      have hbr9 := hbr.kept hal
      have er0 := hbr9.c0
      have er1 := hbr9.c1
      have er2 := hbr9.c2
      have fr0 := hbr9.f0
      have fr1 := hbr9.f1
      have fr2 := hbr9.f2
      go_wp2_with fail
      exact end_rc rfl rfl rfl rfl hbr9 (show w.heap.size ≤ pr by have := HP.out; omega) (RQIs.zero (one_is w3 (x := 1) (by omega) (by omega))) (hbf.trans (hal.mono hbf.size))
     ·skip
      have hqc : qcode l = 3 := by unfold qcode; simp [HCA.out, HCB.out]
      obtain rfl : c9 = 3 := hC9.out.trans hqc
      obtain rfl : q9 = 0 := hQ9.out.trans (by unfold qval; rw [hqc]; simp)
      clear hqc
      have hal : Below w3.heap.size w3 (w3.alloc (.cells #[.int .i64 1] 3)) := (Below.refl _ _).alloc (Nat.le_refl _) _
      have hbr9 := hbr.kept hal
      have er0 := hbr9.c0
      have er1 := hbr9.c1
      have er2 := hbr9.c2
      have fr0 := hbr9.f0
      have fr1 := hbr9.f1
      have fr2 := hbr9.f2
      go_wp2_with fail
      exact end_rc rfl rfl rfl rfl hbr9 (show w.heap.size ≤ pr by have := HP.out; omega) (RQIs.zero (one_is w3 (x := 1) (by omega) (by omega))) (hbf.trans (hal.mono hbf.size))
    ·rcases H3B.out with rfl | rfl | rfl
     ·skip
      have hqc : qcode l = 2 := by unfold qcode; simp [HCA.out, HCB.out]
      obtain rfl : c9 = 2 := hC9.out.trans hqc
      obtain rfl : q9 = 0 := hQ9.out.trans (by unfold qval; rw [hqc]; simp)
      clear hqc
      have hal : Below w3.heap.size w3 (w3.alloc (.cells #[.int .i64 1] 3)) := (Below.refl _ _).alloc (Nat.le_refl _) _
      have hbr9 := hbr.kept hal
      have er0 := hbr9.c0
      have er1 := hbr9.c1
      have er2 := hbr9.c2
      have fr0 := hbr9.f0
      have fr1 := hbr9.f1
      have fr2 := hbr9.f2
      go_wp2_with fail
      exact end_rc rfl rfl rfl rfl hbr9 (show w.heap.size ≤ pr by have := HP.out; omega) (RQIs.zero (one_is w3 (x := 1) (by omega) (by omega))) (hbf.trans (hal.mono hbf.size))
     ·skip
      have hqc : qcode l = 2 := by unfold qcode; simp [HCA.out, HCB.out]
      obtain rfl : c9 = 2 := hC9.out.trans hqc
      obtain rfl : q9 = 0 := hQ9.out.trans (by unfold qval; rw [hqc]; simp)
      clear hqc
      have hal : Below w3.heap.size w3 (w3.alloc (.cells #[.int .i64 1] 3)) := (Below.refl _ _).alloc (Nat.le_refl _) _
      have hbr9 := hbr.kept hal
      have er0 := hbr9.c0
      have er1 := hbr9.c1
      have er2 := hbr9.c2
      have fr0 := hbr9.f0
      have fr1 := hbr9.f1
      have fr2 := hbr9.f2
      go_wp2_with fail
      exact end_rc rfl rfl rfl rfl hbr9 (show w.heap.size ≤ pr by have := HP.out; omega) (RQIs.zero (one_is w3 (x := 1) (by omega) (by omega))) (hbf.trans (hal.mono hbf.size))
     ·skip
      have hqc : qcode l = 3 := by unfold qcode; simp [HCA.out, HCB.out]
      obtain rfl : c9 = 3 := hC9.out.trans hqc
      obtain rfl : q9 = 0 := hQ9.out.trans (by unfold qval; rw [hqc]; simp)
      clear hqc
      have hal : Below w3.heap.size w3 (w3.alloc (.cells #[.int .i64 1] 3)) := (Below.refl _ _).alloc (Nat.le_refl _) _
      have hbr9 := hbr.kept hal
      have er0 := hbr9.c0
      have er1 := hbr9.c1
      have er2 := hbr9.c2
      have fr0 := hbr9.f0
      have fr1 := hbr9.f1
      have fr2 := hbr9.f2
      go_wp2_with fail
      exact end_rc rfl rfl rfl rfl hbr9 (show w.heap.size ≤ pr by have := HP.out; omega) (RQIs.zero (one_is w3 (x := 1) (by omega) (by omega))) (hbf.trans (hal.mono hbf.size))
    ·rcases H3B.out with rfl | rfl | rfl
     ·skip
      have hqc : qcode l = 3 := by unfold qcode; simp [HCA.out, HCB.out]
      obtain rfl : c9 = 3 := hC9.out.trans hqc
      obtain rfl : q9 = 0 := hQ9.out.trans (by unfold qval; rw [hqc]; simp)
      clear hqc
      have hal : Below w3.heap.size w3 (w3.alloc (.cells #[.int .i64 1] 3)) := (Below.refl _ _).alloc (Nat.le_refl _) _
      have hbr9 := hbr.kept hal
      have er0 := hbr9.c0
      have er1 := hbr9.c1
      have er2 := hbr9.c2
      have fr0 := hbr9.f0
      have fr1 := hbr9.f1
      have fr2 := hbr9.f2
      go_wp2_with fail
      exact end_rc rfl rfl rfl rfl hbr9 (show w.heap.size ≤ pr by have := HP.out; omega) (RQIs.zero (one_is w3 (x := 1) (by omega) (by omega))) (hbf.trans (hal.mono hbf.size))
     ·skip
      have hqc : qcode l = 3 := by unfold qcode; simp [HCA.out, HCB.out]
      obtain rfl : c9 = 3 := hC9.out.trans hqc
      obtain rfl : q9 = 0 := hQ9.out.trans (by unfold qval; rw [hqc]; simp)
      clear hqc
      have hal : Below w3.heap.size w3 (w3.alloc (.cells #[.int .i64 1] 3)) := (Below.refl _ _).alloc (Nat.le_refl _) _
      have hbr9 := hbr.kept hal
      have er0 := hbr9.c0
      have er1 := hbr9.c1
      have er2 := hbr9.c2
      have fr0 := hbr9.f0
      have fr1 := hbr9.f1
      have fr2 := hbr9.f2
      go_wp2_with fail
      exact end_rc rfl rfl rfl rfl hbr9 (show w.heap.size ≤ pr by have := HP.out; omega) (RQIs.zero (one_is w3 (x := 1) (by omega) (by omega))) (hbf.trans (hal.mono hbf.size))
     ·skip
      have hqc : qcode l = 3 := by unfold qcode; simp [HCA.out, HCB.out]
      obtain rfl : c9 = 3 := hC9.out.trans hqc
      obtain rfl : q9 = 0 := hQ9.out.trans (by unfold qval; rw [hqc]; simp)
      clear hqc
      have hal : Below w3.heap.size w3 (w3.alloc (.cells #[.int .i64 1] 3)) := (Below.refl _ _).alloc (Nat.le_refl _) _
      have hbr9 := hbr.kept hal
      have er0 := hbr9.c0
      have er1 := hbr9.c1
      have er2 := hbr9.c2
      have fr0 := hbr9.f0
      have fr1 := hbr9.f1
      have fr2 := hbr9.f2
      go_wp2_with fail
      exact end_rc rfl rfl rfl rfl hbr9 (show w.heap.size ≤ pr by have := HP.out; omega) (RQIs.zero (one_is w3 (x := 1) (by omega) (by omega))) (hbf.trans (hal.mono hbf.size))
theorem rqparse_main (l : List UInt8) (w : World) (q9 : Rat) (c9 : Int) (hQ9 : Hid (q9 = qval l)) (hC9 : Hid (c9 = qcode l)) (hl : l.length ≤ 100000000) :
  Calls Tryz.prog 167 #[.string ⟨l.toArray⟩] w (RQPostC w q9 c9) := by
 by_cases h0 : l.length = 0
 ·exact rqparse_nil l w q9 c9 hQ9 hC9 hl h0
 ·by_cases hc : (l[0]?.getD 0).toNat = 45
  ·exact rqparse_neg l w q9 c9 hQ9 hC9 hl (by omega) hc
  ·exact rqparse_pos l w q9 c9 hQ9 hC9 hl (by omega) hc
end Go.Proofs.YtcpfanpcdkoiaaaGreatDoor
