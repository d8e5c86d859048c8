/-
  Ph07: RatA RatB SeqT RatC (what is needed of them).
-/
import Derived.Test.YtlmjkbdodecbmaaGreatDoorPh05
import Derived.Test.YtlmjkbdodecbmaaGreatDoorPh06

namespace Go.Proofs.YtlmjkbdodecbmaaGreatDoor
open Go.RowKit
set_option linter.unusedVariables false
set_option linter.unusedSimpArgs false
attribute [local go_sem] field_nat
set_option maxRecDepth 100000 in
set_option maxHeartbeats 1000000 in
/-- lowest: the fraction of a sign and two numbers. -/
theorem lowest_any (neg : Bool) (vn vd : Value) (n d : Nat) (w : World) (hn : NatIs w vn n) (hd : NatIs w vd d) (hln : (limbs n).length ≤ 1000000) (hld : (limbs d).length ≤ 1000000) (hd0 : 0 < d) :
    Calls Tryz.prog 140 #[.bool neg, vn, vd] w (QPost w (qOf neg n d)) := by
  obtain ⟨nO, nL, nC, rfl⟩ := hn.form
  obtain ⟨dO, dL, dC, rfl⟩ := hd.form
  obtain ⟨w0, hw0⟩ : ∃ w0, w0 = (((w.alloc (.cells #[.slice nO nL nC] 143)).alloc (.cells #[.slice dO dL dC] 143)).alloc (.cells #[.bool false, .slice none 0 0, .slice none 0 0] 145)) := ⟨_, rfl⟩
  have hbf : Below w.heap.size w w0 := by rw [hw0]; exact ((((Below.refl _ w).alloc (Nat.le_refl _) _).alloc (by simp <;> omega) _).alloc (by simp <;> omega) _)
  obtain ⟨pn, hpn⟩ : ∃ p, p = w.heap.size := ⟨_, rfl⟩
  have hbn : Box w0 pn (Value.slice nO nL nC) := by rw [hw0, hpn]; exact ⟨by go_simp, by go_simp, by simp <;> omega⟩
  obtain ⟨pd, hpd⟩ : ∃ p, p = w.heap.size + 1 := ⟨_, rfl⟩
  have hbd : Box w0 pd (Value.slice dO dL dC) := by rw [hw0, hpd]; exact ⟨by go_simp, by go_simp, by simp <;> omega⟩
  obtain ⟨pr, hpr⟩ : ∃ p, p = w.heap.size + 1 + 1 := ⟨_, rfl⟩
  have hbr : Box3 w0 pr (Value.bool false) (Value.slice none 0 0) (Value.slice none 0 0) := by rw [hw0, hpr]; exact ⟨by go_simp, by go_simp, by go_simp, by go_simp, by go_simp, by go_simp⟩
  have HP : Hid (w.heap.size ≤ pn ∧ pn < pd ∧ pd < pr) := Lib.hid (by omega)
  replace hn := hn.below hbf
  replace hd := hd.below hbf
  have HW := Lib.hid hw0; clear hw0
  go_enter Tryz.func140, Tryz.ntmps140
  go_upto_region 1 with fail
  rw [← HW.out, ← hpr, ← hpd, ← hpn]
  clear hpn hpd hpr HW
  have en := hbn.cell
  go_wp2_with fail
  refine (zero_any _ n _ hn).mono ?_
  rintro e w1 ⟨rfl, hb⟩
  clear en
  replace hbn := hbn.kept hb
  replace hbd := hbd.kept hb
  replace hbr := hbr.kept hb
  replace hn := hn.below hb
  replace hd := hd.below hb
  replace hbf := hbf.trans (hb.mono hbf.size)
  clear hb
  by_cases h0 : n = 0
  case pos =>
    subst h0
    rw [decide_eq_true rfl]
    have er0 := hbr.c0
    have fr0 := hbr.f0
    have er1 := hbr.c1
    have fr1 := hbr.f1
    have er2 := hbr.c2
    have fr2 := hbr.f2
    go_wp2_with fail
    rw [qOf_zero]
    exact end_q rfl rfl rfl hbr (show w.heap.size ≤ pr by have := HP.out; omega) (QIs.zero _) hbf
  rw [decide_eq_false h0]
  have H0 : Hid (0 < n) := Lib.hid (by omega)
  have HD : Hid (0 < d) := Lib.hid hd0
  clear h0 hd0
  have en := hbn.cell
  have ed := hbd.cell
  go_wp2_with fail
  refine (gcd_any _ _ n d _ hn hd hln hld).mono ?_
  rintro e w2 ⟨r9, rfl, hg, hb⟩
  clear en ed
  replace hbn := hbn.kept hb
  replace hbd := hbd.kept hb
  replace hbr := hbr.kept hb
  replace hn := hn.below hb
  replace hd := hd.below hb
  replace hbf := hbf.trans (hb.mono hbf.size)
  clear hb
  obtain ⟨gO, gL, gC, rfl⟩ := hg.form
  obtain ⟨w3, hwE⟩ : ∃ W, W = (w2.alloc (.cells #[.slice gO gL gC] 143)) := ⟨_, rfl⟩
  have hb : Below w2.heap.size w2 w3 := by rw [hwE]; exact ((Below.refl _ w2).alloc (Nat.le_refl _) _)
  obtain ⟨pg, hpg⟩ : ∃ p, p = w2.heap.size := ⟨_, rfl⟩
  have hbg : Box w3 pg (Value.slice gO gL gC) := by rw [hwE, hpg]; exact ⟨by go_simp, by go_simp, by simp <;> omega⟩
  replace HP : Hid (w.heap.size ≤ pn ∧ pn < pd ∧ pd < pr ∧ pr < pg) := Lib.hid (by have h1 := HP.out; have h9 := hbf.size; have h2r := hbr.lt; omega)
  have HW := Lib.hid hwE; clear hwE
  go_upto_region 4 with fail
  rw [← HW.out, ← hpg]
  clear hpg HW
  replace hbn := hbn.kept hb
  replace hbd := hbd.kept hb
  replace hbr := hbr.kept hb
  replace hn := hn.below hb
  replace hd := hd.below hb
  replace hg := hg.below hb
  replace hbf := hbf.trans (hb.mono hbf.size)
  clear hb
  have hlg : (limbs (Nat.gcd n d)).length ≤ 1000000 := Nat.le_trans (limbs_length_mono (Nat.gcd_le_left _ H0.out)) hln
  have en := hbn.cell
  have eg := hbg.cell
  go_wp2_with fail
  refine (divmod_any _ _ n (Nat.gcd n d) _ hn hg hln hlg).mono ?_
  rintro e w4 ⟨r9, s9, rfl, hx, hs, hb⟩
  clear en eg
  replace hbn := hbn.kept hb
  replace hbd := hbd.kept hb
  replace hbr := hbr.kept hb
  replace hbg := hbg.kept hb
  replace hn := hn.below hb
  replace hd := hd.below hb
  replace hg := hg.below hb
  replace hbf := hbf.trans (hb.mono hbf.size)
  clear hb
  obtain ⟨xO, xL, xC, rfl⟩ := hx.form
  obtain ⟨sO, sL, sC, rfl⟩ := hs.form
  clear hs
  have en := hbn.cell
  have fn := hbn.free
  go_upto_region 5 with fail
  clear en fn
  obtain ⟨w5, hwE⟩ : ∃ W, W = w4.setCell ⟨pn, 0, none⟩ (Value.slice xO xL xC) := ⟨_, rfl⟩
  rw [← hwE]
  replace hn := hn.setS (u := (Value.slice xO xL xC)) hbn; rw [← hwE] at hn
  replace hd := hd.setS (u := (Value.slice xO xL xC)) hbn; rw [← hwE] at hd
  replace hg := hg.setS (u := (Value.slice xO xL xC)) hbn; rw [← hwE] at hg
  replace hx := hx.setS (u := (Value.slice xO xL xC)) hbn; rw [← hwE] at hx
  replace hbd := hbd.setOther (show pd ≠ pn by have := HP.out; omega) 0 (Value.slice xO xL xC); rw [← hwE] at hbd
  replace hbr := hbr.setOther (show pr ≠ pn by have := HP.out; omega) 0 (Value.slice xO xL xC); rw [← hwE] at hbr
  replace hbg := hbg.setOther (show pg ≠ pn by have := HP.out; omega) 0 (Value.slice xO xL xC); rw [← hwE] at hbg
  replace hbf := hbf.setCell (p := ⟨pn, 0, none⟩) (show w.heap.size ≤ pn by have := HP.out; omega) (Value.slice xO xL xC); rw [← hwE] at hbf
  replace hbn := hbn.set (Value.slice xO xL xC); rw [← hwE] at hbn; clear hwE
  have ed := hbd.cell
  have eg := hbg.cell
  go_wp2_with fail
  refine (divmod_any _ _ d (Nat.gcd n d) _ hd hg hld hlg).mono ?_
  rintro e w6 ⟨r9, s9, rfl, hy, hs, hb⟩
  clear ed eg
  replace hbn := hbn.kept hb
  replace hbd := hbd.kept hb
  replace hbr := hbr.kept hb
  replace hbg := hbg.kept hb
  replace hn := hn.below hb
  replace hd := hd.below hb
  replace hg := hg.below hb
  replace hx := hx.below hb
  replace hbf := hbf.trans (hb.mono hbf.size)
  clear hb
  obtain ⟨yO, yL, yC, rfl⟩ := hy.form
  obtain ⟨s2O, s2L, s2C, rfl⟩ := hs.form
  clear hs
  have ed := hbd.cell
  have fd := hbd.free
  go_upto_region 6 with fail
  clear ed fd
  obtain ⟨w7, hwE⟩ : ∃ W, W = w6.setCell ⟨pd, 0, none⟩ (Value.slice yO yL yC) := ⟨_, rfl⟩
  rw [← hwE]
  replace hn := hn.setS (u := (Value.slice yO yL yC)) hbd; rw [← hwE] at hn
  replace hd := hd.setS (u := (Value.slice yO yL yC)) hbd; rw [← hwE] at hd
  replace hg := hg.setS (u := (Value.slice yO yL yC)) hbd; rw [← hwE] at hg
  replace hx := hx.setS (u := (Value.slice yO yL yC)) hbd; rw [← hwE] at hx
  replace hy := hy.setS (u := (Value.slice yO yL yC)) hbd; rw [← hwE] at hy
  replace hbn := hbn.setOther (show pn ≠ pd by have := HP.out; omega) 0 (Value.slice yO yL yC); rw [← hwE] at hbn
  replace hbr := hbr.setOther (show pr ≠ pd by have := HP.out; omega) 0 (Value.slice yO yL yC); rw [← hwE] at hbr
  replace hbg := hbg.setOther (show pg ≠ pd by have := HP.out; omega) 0 (Value.slice yO yL yC); rw [← hwE] at hbg
  replace hbf := hbf.setCell (p := ⟨pd, 0, none⟩) (show w.heap.size ≤ pd by have := HP.out; omega) (Value.slice yO yL yC); rw [← hwE] at hbf
  replace hbd := hbd.set (Value.slice yO yL yC); rw [← hwE] at hbd; clear hwE
  have en := hbn.cell
  have ed := hbd.cell
  have er0 := hbr.c0
  have fr0 := hbr.f0
  have er1 := hbr.c1
  have fr1 := hbr.f1
  have er2 := hbr.c2
  have fr2 := hbr.f2
  go_wp2_with fail
  exact end_q rfl rfl rfl hbr (show w.heap.size ≤ pr by have := HP.out; omega) (QIs.made H0.out HD.out hx hy) hbf
set_option maxRecDepth 100000 in
set_option maxHeartbeats 1000000 in
/-- Den: the denominator. -/
theorem den_any (v : Value) (q : Rat) (w : World) (h : QIs w v q) :
    Calls Tryz.prog 162 #[v] w fun e w' => ∃ r, e = .returned r ∧ NatIs w' r q.den ∧ Below w.heap.size w w' := by
  obtain ⟨qB, qxO, qxL, qxC, qyO, qyL, qyC, rfl, hS, hqx, hqy⟩ := h.form
  have HqS := Lib.hid hS; clear hS
  obtain ⟨w0, hw0⟩ : ∃ w0, w0 = ((w.alloc (.cells #[.bool qB, .slice qxO qxL qxC, .slice qyO qyL qyC] 145)).alloc (.cells #[.slice none 0 0] 143)) := ⟨_, rfl⟩
  have hbf : Below w.heap.size w w0 := by rw [hw0]; exact (((Below.refl _ w).alloc (Nat.le_refl _) _).alloc (by simp <;> omega) _)
  obtain ⟨pq, hpq⟩ : ∃ p, p = w.heap.size := ⟨_, rfl⟩
  have hbq : Box3 w0 pq (Value.bool qB) (Value.slice qxO qxL qxC) (Value.slice qyO qyL qyC) := by rw [hw0, hpq]; exact ⟨by go_simp, by go_simp, by go_simp, by go_simp, by go_simp, by go_simp⟩
  obtain ⟨pr, hpr⟩ : ∃ p, p = w.heap.size + 1 := ⟨_, rfl⟩
  have hbr : Box w0 pr (Value.slice none 0 0) := by rw [hw0, hpr]; exact ⟨by go_simp, by go_simp, by simp <;> omega⟩
  have HP : Hid (w.heap.size ≤ pq ∧ pq < pr) := Lib.hid (by omega)
  replace h := h.below hbf
  replace hqx := hqx.below hbf
  replace hqy := hqy.below hbf
  have HW := Lib.hid hw0; clear hw0
  go_enter Tryz.func162, Tryz.ntmps162
  go_upto_region 1 with fail
  rw [← HW.out, ← hpr, ← hpq]
  clear hpq hpr HW
  have eq0 := hbq.c0
  have eq1 := hbq.c1
  have eq2 := hbq.c2
  go_wp2_with fail
  refine (zero_any _ (den0 q) _ hqy).mono ?_
  rintro e w1 ⟨rfl, hb⟩
  clear eq0 eq1 eq2
  replace hbq := hbq.kept hb
  replace hbr := hbr.kept hb
  replace h := h.below hb
  replace hqx := hqx.below hb
  replace hqy := hqy.below hb
  replace hbf := hbf.trans (hb.mono hbf.size)
  clear hb
  by_cases h0 : den0 q = 0
  case pos =>
    rw [decide_eq_true h0]
    go_wp2_with fail
    refine (of_any 1 _ (by decide)).mono ?_
    rintro e w2 ⟨r9, rfl, ho, hb⟩
    replace hbq := hbq.kept hb
    replace hbr := hbr.kept hb
    replace h := h.below hb
    replace hqx := hqx.below hb
    replace hqy := hqy.below hb
    replace hbf := hbf.trans (hb.mono hbf.size)
    clear hb
    obtain ⟨oO, oL, oC, rfl⟩ := ho.form
    have hq1 : q.den = 1 := by unfold den0 at h0; split at h0 <;> first | (rename_i h9; rw [h9]; rfl) | (have := q.den_pos; omega)
    have er := hbr.cell
    have fr := hbr.free
    go_wp2_with fail
    exact ret_nat rfl rfl (cell_set er) rfl ⟨_, rfl, by rw [hq1]; exact ho.setS hbr, hbf.setCell (p := ⟨pr, 0, none⟩) (show w.heap.size ≤ pr by have := HP.out; omega) _⟩
  rw [decide_eq_false h0]
  have hq1 : den0 q = q.den := by unfold den0 at h0 ⊢; split at h0 <;> first | exact (h0 rfl).elim | (rename_i h9; rw [if_neg h9])
  rw [hq1] at hqy
  clear h0 hq1
  have eq0 := hbq.c0
  have eq1 := hbq.c1
  have eq2 := hbq.c2
  have er := hbr.cell
  have fr := hbr.free
  go_wp2_with fail
  exact ret_nat rfl rfl (cell_set er) rfl ⟨_, rfl, hqy.setS hbr, hbf.setCell (p := ⟨pr, 0, none⟩) (show w.heap.size ≤ pr by have := HP.out; omega) _⟩
set_option maxRecDepth 100000 in
set_option maxHeartbeats 1000000 in
/-- Whole: is the denominator 1? -/
theorem whole_any (v : Value) (q : Rat) (w : World) (h : QIs w v q) :
    Calls Tryz.prog 142 #[v] w fun e w' => e = .returned (.bool (decide (q.den = 1))) ∧ Below w.heap.size w w' := by
  obtain ⟨qB, qxO, qxL, qxC, qyO, qyL, qyC, rfl, hS, hqx, hqy⟩ := h.form
  have HqS := Lib.hid hS; clear hS
  obtain ⟨w0, hw0⟩ : ∃ w0, w0 = (w.alloc (.cells #[.bool qB, .slice qxO qxL qxC, .slice qyO qyL qyC] 145)) := ⟨_, rfl⟩
  have hbf : Below w.heap.size w w0 := by rw [hw0]; exact ((Below.refl _ w).alloc (Nat.le_refl _) _)
  obtain ⟨pq, hpq⟩ : ∃ p, p = w.heap.size := ⟨_, rfl⟩
  have hbq : Box3 w0 pq (Value.bool qB) (Value.slice qxO qxL qxC) (Value.slice qyO qyL qyC) := by rw [hw0, hpq]; exact ⟨by go_simp, by go_simp, by go_simp, by go_simp, by go_simp, by go_simp⟩
  have HP : Hid (w.heap.size ≤ pq) := Lib.hid (by omega)
  replace h := h.below hbf
  replace hqx := hqx.below hbf
  replace hqy := hqy.below hbf
  have HW := Lib.hid hw0; clear hw0
  go_enter Tryz.func142, Tryz.ntmps142
  go_upto_region 1 with fail
  rw [← HW.out, ← hpq]
  clear hpq HW
  have eq0 := hbq.c0
  have eq1 := hbq.c1
  have eq2 := hbq.c2
  go_wp2_with fail
  refine (den_any _ q _ h).mono ?_
  rintro e w1 ⟨r9, rfl, hd, hb⟩
  clear eq0 eq1 eq2
  replace hbq := hbq.kept hb
  replace h := h.below hb
  replace hqx := hqx.below hb
  replace hqy := hqy.below hb
  replace hbf := hbf.trans (hb.mono hbf.size)
  clear hb
  go_wp2_with fail
  refine (of_any 1 _ (by decide)).mono ?_
  rintro e w2 ⟨o9, rfl, ho, hb⟩
  replace hbq := hbq.kept hb
  replace h := h.below hb
  replace hqx := hqx.below hb
  replace hqy := hqy.below hb
  replace hd := hd.below hb
  replace hbf := hbf.trans (hb.mono hbf.size)
  clear hb
  go_wp2_with fail
  refine (cmp_any _ _ q.den 1 _ hd ho).mono ?_
  rintro e w3 ⟨rfl, hb⟩
  replace hbq := hbq.kept hb
  replace h := h.below hb
  replace hqx := hqx.below hb
  replace hqy := hqy.below hb
  replace hd := hd.below hb
  replace ho := ho.below hb
  replace hbf := hbf.trans (hb.mono hbf.size)
  clear hb
  have hc : (cmpI q.den 1 == 0) = decide (q.den = 1) := by unfold cmpI; by_cases h1 : q.den < 1 <;> by_cases h2 : 1 < q.den <;> simp [h1, h2] <;> omega
  go_wp2_with fail
  go_ret
  exact ⟨ret_one (by rw [← hc]; rfl), hbf⟩
set_option maxRecDepth 100000 in
set_option maxHeartbeats 1000000 in
/-- Make. -/
theorem make_main (neg : Bool) (vn vd : Value) (n d : Nat) (w : World) (q : Rat) (c : Int) (hq0 : Hid (d = 0 → q = 0 ∧ c = 4)) (hq1 : Hid (0 < d → q = qOf neg n d ∧ c = 0)) (hn : NatIs w vn n) (hd : NatIs w vd d) (hln : (limbs n).length ≤ 1000000) (hld : (limbs d).length ≤ 1000000) :
    Calls Tryz.prog 121 #[.bool neg, vn, vd] w (QPostC w q c) := by
  obtain ⟨nO, nL, nC, rfl⟩ := hn.form
  obtain ⟨dO, dL, dC, rfl⟩ := hd.form
  obtain ⟨w0, hw0⟩ : ∃ w0, w0 = (((w.alloc (.cells #[.slice nO nL nC] 143)).alloc (.cells #[.slice dO dL dC] 143)).alloc (.cells #[.bool false, .slice none 0 0, .slice none 0 0] 145)) := ⟨_, rfl⟩
  have hbf : Below w.heap.size w w0 := by rw [hw0]; exact ((((Below.refl _ w).alloc (Nat.le_refl _) _).alloc (by simp <;> omega) _).alloc (by simp <;> omega) _)
  obtain ⟨pn, hpn⟩ : ∃ p, p = w.heap.size := ⟨_, rfl⟩
  have hbn : Box w0 pn (Value.slice nO nL nC) := by rw [hw0, hpn]; exact ⟨by go_simp, by go_simp, by simp <;> omega⟩
  obtain ⟨pd, hpd⟩ : ∃ p, p = w.heap.size + 1 := ⟨_, rfl⟩
  have hbd : Box w0 pd (Value.slice dO dL dC) := by rw [hw0, hpd]; exact ⟨by go_simp, by go_simp, by simp <;> omega⟩
  obtain ⟨pr, hpr⟩ : ∃ p, p = w.heap.size + 1 + 1 := ⟨_, rfl⟩
  have hbr : Box3 w0 pr (Value.bool false) (Value.slice none 0 0) (Value.slice none 0 0) := by rw [hw0, hpr]; exact ⟨by go_simp, by go_simp, by go_simp, by go_simp, by go_simp, by go_simp⟩
  have HP : Hid (w.heap.size ≤ pn ∧ pn < pd ∧ pd < pr) := Lib.hid (by omega)
  replace hn := hn.below hbf
  replace hd := hd.below hbf
  have HW := Lib.hid hw0; clear hw0
  go_enter Tryz.func121, Tryz.ntmps121
  go_upto_region 1 with fail
  rw [← HW.out, ← hpr, ← hpd, ← hpn]
  clear hpn hpd hpr HW
  have ed := hbd.cell
  go_wp2_with fail
  refine (zero_any _ d _ hd).mono ?_
  rintro e w1 ⟨rfl, hb⟩
  clear ed
  replace hbn := hbn.kept hb
  replace hbd := hbd.kept hb
  replace hbr := hbr.kept hb
  replace hn := hn.below hb
  replace hd := hd.below hb
  replace hbf := hbf.trans (hb.mono hbf.size)
  clear hb
  by_cases h0 : d = 0
  case pos =>
    rw [decide_eq_true h0]
    obtain ⟨rfl, rfl⟩ := hq0.out h0
    have er0 := hbr.c0
    have fr0 := hbr.f0
    have er1 := hbr.c1
    have fr1 := hbr.f1
    have er2 := hbr.c2
    have fr2 := hbr.f2
    go_wp2_with fail
    exact end_qc rfl rfl rfl rfl hbr (show w.heap.size ≤ pr by have := HP.out; omega) (QIs.zero _) hbf
  rw [decide_eq_false h0]
  have HD : Hid (0 < d) := Lib.hid (by omega)
  obtain ⟨rfl, rfl⟩ := hq1.out HD.out
  clear h0
  have en := hbn.cell
  have ed := hbd.cell
  go_wp2_with fail
  refine (lowest_any neg _ _ n d _ hn hd hln hld HD.out).mono ?_
  rintro e w2 hq9
  obtain ⟨xB, xxO, xxL, xxC, xyO, xyL, xyC, rfl, hS, hxx, hxy, hx, hb⟩ := hq9.out
  have HxS := Lib.hid hS; clear hS
  clear en ed
  replace hbn := hbn.kept hb
  replace hbd := hbd.kept hb
  replace hbr := hbr.kept hb
  replace hn := hn.below hb
  replace hd := hd.below hb
  replace hbf := hbf.trans (hb.mono hbf.size)
  clear hb
  have er0 := hbr.c0
  have fr0 := hbr.f0
  have er1 := hbr.c1
  have fr1 := hbr.f1
  have er2 := hbr.c2
  have fr2 := hbr.f2
  go_wp2_with fail
  exact end_qc rfl rfl rfl rfl hbr (show w.heap.size ≤ pr by have := HP.out; omega) hx hbf
theorem make_ok (neg : Bool) (vn vd : Value) (n d : Nat) (w : World) (hn : NatIs w vn n) (hd : NatIs w vd d) (hln : (limbs n).length ≤ 1000000) (hld : (limbs d).length ≤ 1000000) (h0 : 0 < d) :
    Calls Tryz.prog 121 #[.bool neg, vn, vd] w (QPostC w (qOf neg n d) 0) :=
  make_main neg vn vd n d w _ _ (Lib.hid (fun h => by omega)) (Lib.hid (fun _ => ⟨rfl, rfl⟩)) hn hd hln hld
theorem make_zero (neg : Bool) (vn vd : Value) (n : Nat) (w : World) (hn : NatIs w vn n) (hd : NatIs w vd 0) (hln : (limbs n).length ≤ 1000000) :
    Calls Tryz.prog 121 #[.bool neg, vn, vd] w (QPostC w 0 4) :=
  make_main neg vn vd n 0 w _ _ (Lib.hid (fun h => ⟨rfl, rfl⟩)) (Lib.hid (fun h => by omega)) hn hd hln (by rw [limbs_zero]; simp)
set_option maxRecDepth 100000 in
set_option maxHeartbeats 1000000 in
/-- Neg. -/
theorem neg_any (v : Value) (q : Rat) (w : World) (h : QIs w v q) :
    Calls Tryz.prog 113 #[v] w fun e w' => e = .returned (.bool (decide (q < 0))) ∧ Below w.heap.size w w' := by
  obtain ⟨qB, qxO, qxL, qxC, qyO, qyL, qyC, rfl, hS, hqx, hqy⟩ := h.form
  have HqS := Lib.hid hS; clear hS
  obtain ⟨w0, hw0⟩ : ∃ w0, w0 = (w.alloc (.cells #[.bool qB, .slice qxO qxL qxC, .slice qyO qyL qyC] 145)) := ⟨_, rfl⟩
  have hbf : Below w.heap.size w w0 := by rw [hw0]; exact ((Below.refl _ w).alloc (Nat.le_refl _) _)
  obtain ⟨pq, hpq⟩ : ∃ p, p = w.heap.size := ⟨_, rfl⟩
  have hbq : Box3 w0 pq (Value.bool qB) (Value.slice qxO qxL qxC) (Value.slice qyO qyL qyC) := by rw [hw0, hpq]; exact ⟨by go_simp, by go_simp, by go_simp, by go_simp, by go_simp, by go_simp⟩
  have HP : Hid (w.heap.size ≤ pq) := Lib.hid (by omega)
  replace h := h.below hbf
  replace hqx := hqx.below hbf
  replace hqy := hqy.below hbf
  have HW := Lib.hid hw0; clear hw0
  go_enter Tryz.func113, Tryz.ntmps113
  go_upto_region 1 with fail
  rw [← HW.out, ← hpq]
  clear hpq HW
  have eq0 := hbq.c0
  have eq1 := hbq.c1
  have eq2 := hbq.c2
  go_wp2_with fail
  go_ret
  exact ⟨ret_one (by rw [HqS.out]; rfl), hbf⟩
end Go.Proofs.YtlmjkbdodecbmaaGreatDoor

namespace Go.Proofs.YtlmjkbdodecbmaaGreatDoor
open Go.RowKit
set_option linter.unusedVariables false
section
variable {P : Program} {ops : Array Oper} {Q : Exit → Act → World → Prop} {S : World → Prop}
/-- The post of the region without its last operation. -/
def TailQ (P : Program) (ops : Array Oper) (Q : Exit → Act → World → Prop) : Exit → Act → World → Prop
  | .normal, a, w => wpOp P ops Q (ops.size - 1) (fun a w => Q .normal a w) a w
  | e, a, w => Q e a w
/-- The last operation waits for all others; each waits for earlier ones alone. -/
def tailOk (ops : Array Oper) : Bool :=
  decide (0 < ops.size) &&
  ((List.range ops.size).all fun j => match ops[j]? with
    | some o => (o.after.all fun e => !Region.binds .any e || decide (e.on < j)) && (match o.guard with | some g => decide (g.1 < ops.size - 1) | none => true)
    | none => true) &&
  (List.range (ops.size - 1)).all fun i => match ops[ops.size - 1]? with
    | some o => (o.after.any fun e => Region.binds .any e && e.on == i) || (o.after.any fun e => Region.binds .any e && match ops[e.on]? with
      | some o2 => o2.after.any fun e2 => Region.binds .any e2 && e2.on == i
      | none => false)
    | none => false
structure TailSpec (ops : Array Oper) : Prop where
  pos : 0 < ops.size
  early : ∀ (j : Nat) (o : Oper), ops[j]? = some o → ∀ e ∈ o.after, Region.binds .any e = true → e.on < j
  guard : ∀ (j : Nat) (o : Oper) (g : Nat) (b : Bool), ops[j]? = some o → o.guard = some (g, b) → g < ops.size - 1
  last : ∀ i, i < ops.size - 1 → ∃ o : Oper, ops[ops.size - 1]? = some o ∧ ((∃ e ∈ o.after, Region.binds .any e = true ∧ e.on = i) ∨ (∃ e ∈ o.after, Region.binds .any e = true ∧ ∃ o2, ops[e.on]? = some o2 ∧ ∃ e2 ∈ o2.after, Region.binds .any e2 = true ∧ e2.on = i))
theorem tailOk_spec (h : tailOk ops = true) : TailSpec ops := by
  unfold tailOk at h
  simp only [Bool.and_eq_true, decide_eq_true_eq, List.all_eq_true, List.mem_range] at h
  obtain ⟨⟨h0, h1⟩, h2⟩ := h
  have hlt : ∀ j o, ops[j]? = some o → j < ops.size := fun j o ho => by
    rcases Nat.lt_or_ge j ops.size with h3 | h3
    · exact h3
    · rw [Array.getElem?_eq_none h3] at ho; cases ho
  refine ⟨h0, fun j o ho e he hb => ?_, fun j o g b ho hg => ?_, fun i hi => ?_⟩
  · have := h1 j (hlt j o ho)
    rw [ho] at this
    simp only [Bool.and_eq_true, Array.all_eq_true_iff_forall_mem, Bool.or_eq_true, Bool.not_eq_true', decide_eq_true_eq] at this
    exact (this.1 e he).resolve_left (by rw [hb]; simp)
  · have := h1 j (hlt j o ho)
    rw [ho] at this
    simp only [hg, Bool.and_eq_true, decide_eq_true_eq] at this
    exact this.2
  · have := h2 i hi
    cases ho : ops[ops.size - 1]? with
    | none => rw [ho] at this; cases this
    | some o =>
      rw [ho] at this
      simp only [Bool.or_eq_true] at this
      rcases this with this | this
      · obtain ⟨e, he, hb⟩ := Array.any_eq_true'.1 this
        simp only [Bool.and_eq_true, beq_iff_eq] at hb
        exact ⟨o, rfl, .inl ⟨e, he, hb.1, hb.2⟩⟩
      · obtain ⟨e, he, hb⟩ := Array.any_eq_true'.1 this
        simp only [Bool.and_eq_true] at hb
        obtain ⟨hb1, hb2⟩ := hb
        cases ho2 : ops[e.on]? with
        | none => rw [ho2] at hb2; cases hb2
        | some o2 =>
          rw [ho2] at hb2
          obtain ⟨e2, he2, hb3⟩ := Array.any_eq_true'.1 hb2
          simp only [Bool.and_eq_true, beq_iff_eq] at hb3
          exact ⟨o, rfl, .inr ⟨e, he, hb1, o2, ho2, e2, he2, hb3.1, hb3.2⟩⟩
theorem getD_pop {listed : Array Bool} {j : Nat} (d : Bool) (hj : j < listed.size - 1) : listed.pop.getD j d = listed.getD j d := by
  rw [Array.getD_eq_getD_getElem?, Array.getD_eq_getD_getElem?, Array.getElem?_pop, if_pos hj]
theorem ops_pop {j : Nat} (hj : j < ops.size - 1) : ops.pop[j]? = ops[j]? := by
  rw [Array.getElem?_pop, if_pos hj]
theorem ready_pop (T : TailSpec ops) {listed : Array Bool} (hsz : listed.size = ops.size) {j : Nat} (hj : j < ops.size - 1) : j ∈ Region.ready .any ops.pop listed.pop ↔ j ∈ Region.ready .any ops listed := by
  rw [mem_ready, mem_ready, ops_pop hj, getD_pop true (by omega)]
  constructor
  · rintro ⟨h1, o, ho, h2⟩
    refine ⟨h1, o, ho, fun e he hb => ?_⟩
    have := h2 e he hb
    rwa [getD_pop false (by have := T.early j o ho e he hb; omega)] at this
  · rintro ⟨h1, o, ho, h2⟩
    refine ⟨h1, o, ho, fun e he hb => ?_⟩
    have := h2 e he hb
    rwa [getD_pop false (by have := T.early j o ho e he hb; omega)]
/-- As long as one is left, one is ready. -/
theorem ready_some (T : TailSpec ops) {listed : Array Bool} (hsz : listed.size = ops.size) : ∀ (j : Nat), j < ops.size → listed.getD j true = false → ∃ i, i ≤ j ∧ i ∈ Region.ready .any ops listed := by
    intro j hj hl
    induction j using Nat.strongRecOn with
    | ind j ih =>
      by_cases h : ∀ o, ops[j]? = some o → ∀ e ∈ o.after, Region.binds .any e = true → listed.getD e.on false = true
      · exact ⟨j, Nat.le_refl _, mem_ready.2 ⟨hl, ops[j], Array.getElem?_eq_getElem hj, fun e he hb => h _ (Array.getElem?_eq_getElem hj) e he hb⟩⟩
      · have ⟨o, ho, e, he, hb, hn⟩ : ∃ o, ops[j]? = some o ∧ ∃ e ∈ o.after, Region.binds .any e = true ∧ ¬ listed.getD e.on false = true := by
          apply Classical.byContradiction
          intro hc
          exact h fun o ho e he hb => Classical.byContradiction fun hn => hc ⟨o, ho, e, he, hb, hn⟩
        have h1 := T.early j o ho e he hb
        have h2 : listed.getD e.on true = false := by
          have h3 : e.on < listed.size := by omega
          simp only [Array.getD_eq_getD_getElem?, Array.getElem?_eq_getElem h3, Option.getD_some] at hn ⊢
          simpa using hn
        obtain ⟨i, hi, hr⟩ := ih e.on h1 (by omega) h2
        exact ⟨i, by omega, hr⟩
theorem upon_tail {o : Oper} {a : Act} {w : World} {K : Act → World → Prop} (h : Oper.wp P o a w K (TailQ P ops Q)) : Oper.wp P o a w K Q := by
  unfold Oper.wp at *
  generalize (execOp a.eval o).run P w = r at *
  cases r with
  | ok n w' => cases n <;> exact h
  | halt x w' => cases x <;> exact h
theorem yielded_pop {t : Array Value} {g : Nat} (hg : g < ops.size - 1) : yielded ops.pop t g = yielded ops t g := by
  unfold yielded
  rw [ops_pop hg]
theorem wanted_pop (T : TailSpec ops) {j : Nat} {o : Oper} (ho : ops[j]? = some o) (t : Array Value) : Region.wanted o (yielded ops.pop t) = Region.wanted o (yielded ops t) := by
  unfold Region.wanted
  cases hg : o.guard with
  | none => rfl
  | some gb =>
    obtain ⟨g, b⟩ := gb
    simp only [yielded_pop (T.guard j o g b ho hg)]
/-- What is listed had all that it waits for listed ahead. -/
def Shut2 (ops : Array Oper) (listed : Array Bool) : Prop := ∀ j o, ops[j]? = some o → listed.getD j false = true → ∀ e ∈ o.after, Region.binds .any e = true → listed.getD e.on false = true
theorem wpAny_of_init (T : TailSpec ops) : ∀ (fuel : Nat) (listed : Array Bool) (a : Act) (w : World), listed.size = ops.size → listed.getD (ops.size - 1) true = false → Shut2 ops listed →
    wpAny P .any ops.pop (TailQ P ops Q) fuel listed.pop a w → wpAny P .any ops Q (fuel + 1) listed a w := by
  have hend : ∀ (fuel : Nat) (listed : Array Bool) (a : Act) (w : World), listed.size = ops.size → listed.getD (ops.size - 1) true = false → Region.ready .any ops.pop listed.pop = [] → TailQ P ops Q .normal a w → wpAny P .any ops Q (fuel + 1) listed a w := by
    intro fuel listed a w hsz hn hr hq
    have hall : ∀ j, j < ops.size - 1 → listed.getD j true = true := by
      intro j hj
      cases h : listed.getD j true with
      | true => rfl
      | false =>
        obtain ⟨i, hi, hri⟩ := ready_some T hsz j (by omega) h
        have := (ready_pop T hsz (by omega)).2 hri
        rw [hr] at this
        cases this
    obtain ⟨k, hk, hrk⟩ := ready_some T hsz (ops.size - 1) (by have := T.pos; omega) hn
    have hk2 : k = ops.size - 1 := by
      rcases Nat.lt_or_ge k (ops.size - 1) with h | h
      · have := (ready_pop T hsz h).2 hrk
        rw [hr] at this
        cases this
      · omega
    refine ⟨fun h => (by rw [h] at hrk; cases hrk), fun i hi => ?_⟩
    have hi2 : i = ops.size - 1 := by
      have hm := hi
      rw [mem_ready] at hm
      obtain ⟨h1, o, ho, _⟩ := hm
      have hlt : i < ops.size := by
        rcases Nat.lt_or_ge i ops.size with h3 | h3
        · exact h3
        · rw [Array.getElem?_eq_none h3] at ho; cases ho
      rcases Nat.lt_or_ge i (ops.size - 1) with h | h
      · rw [hall i h] at h1; cases h1
      · omega
    subst hi2
    refine wpOp_mono (fun a' w' h' => ?_) hq
    have hr2 : Region.ready .any ops (listed.setIfInBounds (ops.size - 1) true) = [] := by
      rw [List.eq_nil_iff_forall_not_mem]
      intro j hj
      rw [mem_ready] at hj
      obtain ⟨h1, o, ho, _⟩ := hj
      have hlt : j < ops.size := by
        rcases Nat.lt_or_ge j ops.size with h3 | h3
        · exact h3
        · rw [Array.getElem?_eq_none h3] at ho; cases ho
      simp only [Array.getD_eq_getD_getElem?, Array.getElem?_setIfInBounds] at h1
      split at h1
      · rw [if_pos (by omega)] at h1; simp at h1
      · have := hall j (by omega)
        simp only [Array.getD_eq_getD_getElem?] at this
        rw [this] at h1; cases h1
    cases fuel with
    | zero => exact ⟨hr2, h'⟩
    | succ f => exact ⟨fun _ => h', fun i hi => by rw [hr2] at hi; cases hi⟩
  intro fuel
  induction fuel with
  | zero => intro listed a w hsz hn hdc h; exact hend 0 listed a w hsz hn h.1 h.2
  | succ fuel ih =>
    intro listed a w hsz hn hdc h
    obtain ⟨h0, h1⟩ := h
    by_cases hr : Region.ready .any ops.pop listed.pop = []
    · exact hend _ listed a w hsz hn hr (h0 hr)
    refine ⟨fun he => ?_, fun i hi => ?_⟩
    · obtain ⟨i, hi, hri⟩ := ready_some T hsz (ops.size - 1) (by have := T.pos; omega) hn
      rw [he] at hri; cases hri
    · have hi' := hi
      rw [mem_ready] at hi'
      obtain ⟨g1, o, ho, g2⟩ := hi'
      have hlt : i < ops.size := by
        rcases Nat.lt_or_ge i ops.size with h3 | h3
        · exact h3
        · rw [Array.getElem?_eq_none h3] at ho; cases ho
      have hin : i < ops.size - 1 := by
        rcases Nat.lt_or_ge i (ops.size - 1) with h3 | h3
        · exact h3
        · exfalso
          have h4 : i = ops.size - 1 := by omega
          subst h4
          apply hr
          rw [List.eq_nil_iff_forall_not_mem]
          intro j hj
          have hjn : j < ops.size - 1 := by
            rw [mem_ready] at hj
            obtain ⟨_, o', ho', _⟩ := hj
            rcases Nat.lt_or_ge j (ops.size - 1) with h5 | h5
            · exact h5
            · rw [Array.getElem?_eq_none (by simp; omega)] at ho'; cases ho'
          have hj2 := (ready_pop T hsz hjn).1 hj
          rw [mem_ready] at hj2
          obtain ⟨o2, ho2, hlast⟩ := T.last j hjn
          rw [ho] at ho2
          cases ho2
          have : listed.getD j false = true := by
            rcases hlast with ⟨e, he, hb, hon⟩ | ⟨e, he, hb, o3, ho3, e2, he2, hb2, hon2⟩
            · have := g2 e he hb
              rwa [hon] at this
            · have := hdc e.on o3 ho3 (g2 e he hb) e2 he2 hb2
              rwa [hon2] at this
          have h7 := hj2.1
          have h8 : j < listed.size := by omega
          simp only [Array.getD_eq_getD_getElem?, Array.getElem?_eq_getElem h8, Option.getD_some] at this h7
          rw [this] at h7; cases h7
      have hw := h1 i ((ready_pop T hsz hin).2 hi)
      unfold wpOp at hw ⊢
      rw [ops_pop hin] at hw
      simp only [ho] at hw ⊢
      rw [wanted_pop T ho] at hw
      have hpop : (listed.setIfInBounds i true).pop = listed.pop.setIfInBounds i true := by
        apply Array.ext_getElem?
        intro j
        simp only [Array.getElem?_pop, Array.getElem?_setIfInBounds, Array.size_setIfInBounds, Array.size_pop]
        split <;> split <;> simp_all <;> omega
      have hstep : ∀ a' w', wpAny P .any ops.pop (TailQ P ops Q) fuel (listed.pop.setIfInBounds i true) a' w' → wpAny P .any ops Q (fuel + 1) (listed.setIfInBounds i true) a' w' := by
        intro a' w' h'
        refine ih _ a' w' (by simpa using hsz) ?_ ?_ (by rw [hpop]; exact h')
        rotate_left
        · intro j o9 ho9 hl9 e he hb
          have mono : ∀ k, listed.getD k false = true → (listed.setIfInBounds i true).getD k false = true := by
            intro k hk
            simp only [Array.getD_eq_getD_getElem?, Array.getElem?_setIfInBounds] at hk ⊢
            split
            · split
              · rfl
              · rename_i h8 h9; subst h8; rw [Array.getElem?_eq_none (by omega)] at hk; cases hk
            · exact hk
          by_cases hji : j = i
          · subst hji
            rw [ho] at ho9
            cases ho9
            exact mono _ (g2 e he hb)
          · refine mono _ (hdc j o9 ho9 ?_ e he hb)
            simp only [Array.getD_eq_getD_getElem?, Array.getElem?_setIfInBounds] at hl9 ⊢
            rwa [if_neg (fun h => hji h.symm)] at hl9
        simp only [Array.getD_eq_getD_getElem?, Array.getElem?_setIfInBounds]
        rw [if_neg (by omega)]
        simpa only [Array.getD_eq_getD_getElem?] using hn
      split
      · rename_i hwt
        rw [if_pos hwt] at hw
        exact hw.imp (fun h' => Oper.wp_mono hstep (upon_tail h')) id
      · rename_i hwt
        rw [if_neg hwt] at hw
        exact hstep _ _ hw
theorem pickOps_pop : ∀ (l : List (Bool × Nat)), (l.all fun x => decide (x.2 < ops.pop.size)) = true → pickOps ops.pop l = pickOps ops l
  | [], _ => rfl
  | (b, i) :: r, h => by
    simp only [List.all_cons, Bool.and_eq_true, decide_eq_true_eq, Array.size_pop] at h
    simp only [pickOps, ops_pop h.1]
    rw [pickOps_pop r (by simpa using h.2)]
theorem wp_region_seqT {id : Nat} {a : Act} {w : World} (l : List (Bool × Nat)) (hm : P.follows .mixedOrders = true) (hk : tailOk ops = true) (hs : Region.noSelect ops.pop = true) (hl : l.length + 1 = ops.size) (hlt : (l.all fun x => decide (x.2 < ops.pop.size)) = true)
    (hk2 : seqOk ops.pop l (Array.replicate (ops.size - 1) false) = true) (hQ : ∀ d v c a w, Q (.panic c) (a.put d v) w → Q (.panic c) a w) (hS : S w.drew)
    (h : S w.drew → wpSeqH P ops.pop (TailQ P ops Q) S (pickOps ops l) a w.drew) : (Code.region id ops true).wp P Q a w := by
  have T := tailOk_spec hk
  refine wp_region_any hm ?_
  have h1 := wpAnyH_of_seq (P := P) (Q := TailQ P ops Q) (S := S) hs (fun d v c a w => hQ d v c a w) l _ _ _ hk2 hlt hS (by rw [pickOps_pop l hlt]; exact h hS)
  have h2 := wpAny_of_held _ _ _ _ h1
  have hp : (Array.replicate ops.size false).pop = Array.replicate (ops.size - 1) false := by
    apply Array.ext_getElem?
    intro j
    simp only [Array.getElem?_pop, Array.getElem?_replicate, Array.size_replicate]
    split
    · rw [if_pos (by omega)]
    · rfl
  rw [← hp] at h2
  have h3 := wpAny_of_init T _ (Array.replicate ops.size false) a w.drew (by simp) (by
    have := T.pos
    rw [Array.getD_eq_getD_getElem?, Array.getElem?_replicate, if_pos (by omega)]; rfl) (fun j o _ hl9 => by
    rw [Array.getD_eq_getD_getElem?, Array.getElem?_replicate] at hl9
    split at hl9 <;> cases hl9) h2
  rw [← hl]
  exact hl ▸ h3
theorem tail_end {a : Act} {w : World} {o : Oper} (ho : ops[ops.size - 1]? = some o) (hg : o.guard = none) (h : Oper.wp P o a w (fun a w => Q .normal a w) Q) : TailQ P ops Q .normal a w := by
  show wpOp P ops Q (ops.size - 1) (fun a w => Q .normal a w) a w
  unfold wpOp
  rw [ho]
  have : ∀ t, Region.wanted o t = true := fun t => by simp [Region.wanted, hg]
  simp only [this, if_true]
  exact .inl h
end
end Go.Proofs.YtlmjkbdodecbmaaGreatDoor

namespace Go.Proofs.YtlmjkbdodecbmaaGreatDoor
open Go.RowKit
set_option linter.unusedVariables false
set_option linter.unusedSimpArgs false
attribute [local go_sem] field_nat
theorem of_neg (v : Int) (h : v < 0) : qOf true v.natAbs 1 = (v : Rat) := by
  rw [qOf_one]; congr 1; simp [sg]; omega
theorem of_pos (v : Int) (h : 0 ≤ v) : qOf false v.natAbs 1 = (v : Rat) := by
  rw [qOf_one]; congr 1; simp [sg]; omega
theorem bytes_append (l m : List UInt8) : (⟨l.toArray⟩ ++ ⟨m.toArray⟩ : ByteArray) = ⟨(l ++ m).toArray⟩ := by
  apply ByteArray.ext
  simp
end Go.Proofs.YtlmjkbdodecbmaaGreatDoor
