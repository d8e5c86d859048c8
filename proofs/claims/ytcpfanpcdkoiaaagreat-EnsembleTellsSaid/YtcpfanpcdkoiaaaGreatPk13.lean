/-
  Pk13: RatA (what is needed of them).
-/
import Derived.Test.YtcpfanpcdkoiaaaGreatPk12
set_option maxRecDepth 100000
set_option linter.unusedVariables false
set_option linter.unusedSimpArgs false

namespace Go.Proofs.YtcpfanpcdkoiaaaGreat
open Go.RowKit


attribute [local go_sem] field_nat
set_option maxHeartbeats 1000000 in
theorem lowest_any (neg : Bool) (vn vd : Value) (n d : Nat) (w : World) (hn : NatIs w vn n) (hd : NatIs w vd d) (hln : (limbs n).length ≤ 1000000) (hld : (limbs d).length ≤ 1000000) (hd0 : 0 < d) :
  Calls Tryz.prog 193 #[.bool neg, vn, vd] w (QPost w (qOf neg n d)) := by
 obtain ⟨nO, nL, nC, rfl⟩ := hn.form
 obtain ⟨dO, dL, dC, rfl⟩ := hd.form
 obtain ⟨w0, hw0⟩ : ∃ w0, w0 = (((w.alloc (.cells #[.slice nO nL nC] 180)).alloc (.cells #[.slice dO dL dC] 180)).alloc (.cells #[.bool false, .slice none 0 0, .slice none 0 0] 182)) := ⟨_, rfl⟩
 have hbf : Below w.heap.size w w0 := by rw [hw0]; exact ((((Below.refl _ w).alloc (Nat.le_refl _) _).alloc (by simp <;> omega) _).alloc (by simp <;> omega) _)
 obtain ⟨pn, hpn⟩ : ∃ p, p = w.heap.size := ⟨_, rfl⟩
 have hbn : Box w0 pn (Value.slice nO nL nC) := by rw [hw0, hpn]; exact ⟨by go_simp, by go_simp, by simp <;> omega⟩
 obtain ⟨pd, hpd⟩ : ∃ p, p = w.heap.size + 1 := ⟨_, rfl⟩
 have hbd : Box w0 pd (Value.slice dO dL dC) := by rw [hw0, hpd]; exact ⟨by go_simp, by go_simp, by simp <;> omega⟩
 obtain ⟨pr, hpr⟩ : ∃ p, p = w.heap.size + 1 + 1 := ⟨_, rfl⟩
 have hbr : Box3 w0 pr (Value.bool false) (Value.slice none 0 0) (Value.slice none 0 0) := by rw [hw0, hpr]; exact ⟨by go_simp, by go_simp, by go_simp, by go_simp, by go_simp, by go_simp⟩
 have HP : Hid (w.heap.size ≤ pn ∧ pn < pd ∧ pd < pr) := Lib.hid (by omega)
 replace hn := hn.below hbf
 replace hd := hd.below hbf
 have HW := Lib.hid hw0; clear hw0
 go_enter Tryz.func193, Tryz.ntmps193
 go_upto_region 1 with fail
 rw [← HW.out, ← hpr, ← hpd, ← hpn]
 clear hpn hpd hpr HW
 have en := hbn.cell
 go_wp2_with fail
 refine (zero_any _ n _ hn).mono ?_
 rintro e w1 ⟨rfl, hb⟩
 clear en
 replace hbn := hbn.kept hb
 replace hbd := hbd.kept hb
 replace hbr := hbr.kept hb
 replace hn := hn.below hb
 replace hd := hd.below hb
 replace hbf := hbf.trans (hb.mono hbf.size)
 clear hb
 by_cases h0 : n = 0
 case pos =>
  subst h0
  rw [decide_eq_true rfl]
  have er0 := hbr.c0
  have fr0 := hbr.f0
  have er1 := hbr.c1
  have fr1 := hbr.f1
  have er2 := hbr.c2
  have fr2 := hbr.f2
  go_wp2_with fail
  rw [qOf_zero]
  exact end_q rfl rfl rfl hbr (show w.heap.size ≤ pr by have := HP.out; omega) (QIs.zero _) hbf
 rw [decide_eq_false h0]
 have H0 : Hid (0 < n) := Lib.hid (by omega)
 have HD : Hid (0 < d) := Lib.hid hd0
 clear h0 hd0
 have en := hbn.cell
 have ed := hbd.cell
 go_wp2_with fail
 refine (gcd_any _ _ n d _ hn hd hln hld).mono ?_
 rintro e w2 ⟨r9, rfl, hg, hb⟩
 clear en ed
 replace hbn := hbn.kept hb
 replace hbd := hbd.kept hb
 replace hbr := hbr.kept hb
 replace hn := hn.below hb
 replace hd := hd.below hb
 replace hbf := hbf.trans (hb.mono hbf.size)
 clear hb
 obtain ⟨gO, gL, gC, rfl⟩ := hg.form
 obtain ⟨w3, hwE⟩ : ∃ W, W = (w2.alloc (.cells #[.slice gO gL gC] 180)) := ⟨_, rfl⟩
 have hb : Below w2.heap.size w2 w3 := by rw [hwE]; exact ((Below.refl _ w2).alloc (Nat.le_refl _) _)
 obtain ⟨pg, hpg⟩ : ∃ p, p = w2.heap.size := ⟨_, rfl⟩
 have hbg : Box w3 pg (Value.slice gO gL gC) := by rw [hwE, hpg]; exact ⟨by go_simp, by go_simp, by simp <;> omega⟩
 replace HP : Hid (w.heap.size ≤ pn ∧ pn < pd ∧ pd < pr ∧ pr < pg) := Lib.hid (by have h1 := HP.out; have h9 := hbf.size; have h2r := hbr.lt; omega)
 have HW := Lib.hid hwE; clear hwE
 go_upto_region 4 with fail
 rw [← HW.out, ← hpg]
 clear hpg HW
 replace hbn := hbn.kept hb
 replace hbd := hbd.kept hb
 replace hbr := hbr.kept hb
 replace hn := hn.below hb
 replace hd := hd.below hb
 replace hg := hg.below hb
 replace hbf := hbf.trans (hb.mono hbf.size)
 clear hb
 have hlg : (limbs (Nat.gcd n d)).length ≤ 1000000 := Nat.le_trans (limbs_length_mono (Nat.gcd_le_left _ H0.out)) hln
 have en := hbn.cell
 have eg := hbg.cell
 go_wp2_with fail
 refine (divmod_any _ _ n (Nat.gcd n d) _ hn hg hln hlg).mono ?_
 rintro e w4 ⟨r9, s9, rfl, hx, hs, hb⟩
 clear en eg
 replace hbn := hbn.kept hb
 replace hbd := hbd.kept hb
 replace hbr := hbr.kept hb
 replace hbg := hbg.kept hb
 replace hn := hn.below hb
 replace hd := hd.below hb
 replace hg := hg.below hb
 replace hbf := hbf.trans (hb.mono hbf.size)
 clear hb
 obtain ⟨xO, xL, xC, rfl⟩ := hx.form
 obtain ⟨sO, sL, sC, rfl⟩ := hs.form
 clear hs
 have en := hbn.cell
 have fn := hbn.free
 go_upto_region 5 with fail
 clear en fn
 obtain ⟨w5, hwE⟩ : ∃ W, W = w4.setCell ⟨pn, 0, none⟩ (Value.slice xO xL xC) := ⟨_, rfl⟩
 rw [← hwE]
 replace hn := hn.setS (u := (Value.slice xO xL xC)) hbn; rw [← hwE] at hn
 replace hd := hd.setS (u := (Value.slice xO xL xC)) hbn; rw [← hwE] at hd
 replace hg := hg.setS (u := (Value.slice xO xL xC)) hbn; rw [← hwE] at hg
 replace hx := hx.setS (u := (Value.slice xO xL xC)) hbn; rw [← hwE] at hx
 replace hbd := hbd.setOther (show pd ≠ pn by have := HP.out; omega) 0 (Value.slice xO xL xC); rw [← hwE] at hbd
 replace hbr := hbr.setOther (show pr ≠ pn by have := HP.out; omega) 0 (Value.slice xO xL xC); rw [← hwE] at hbr
 replace hbg := hbg.setOther (show pg ≠ pn by have := HP.out; omega) 0 (Value.slice xO xL xC); rw [← hwE] at hbg
 replace hbf := hbf.setCell (p := ⟨pn, 0, none⟩) (show w.heap.size ≤ pn by have := HP.out; omega) (Value.slice xO xL xC); rw [← hwE] at hbf
 replace hbn := hbn.set (Value.slice xO xL xC); rw [← hwE] at hbn; clear hwE
 have ed := hbd.cell
 have eg := hbg.cell
 go_wp2_with fail
 refine (divmod_any _ _ d (Nat.gcd n d) _ hd hg hld hlg).mono ?_
 rintro e w6 ⟨r9, s9, rfl, hy, hs, hb⟩
 clear ed eg
 replace hbn := hbn.kept hb
 replace hbd := hbd.kept hb
 replace hbr := hbr.kept hb
 replace hbg := hbg.kept hb
 replace hn := hn.below hb
 replace hd := hd.below hb
 replace hg := hg.below hb
 replace hx := hx.below hb
 replace hbf := hbf.trans (hb.mono hbf.size)
 clear hb
 obtain ⟨yO, yL, yC, rfl⟩ := hy.form
 obtain ⟨s2O, s2L, s2C, rfl⟩ := hs.form
 clear hs
 have ed := hbd.cell
 have fd := hbd.free
 go_upto_region 6 with fail
 clear ed fd
 obtain ⟨w7, hwE⟩ : ∃ W, W = w6.setCell ⟨pd, 0, none⟩ (Value.slice yO yL yC) := ⟨_, rfl⟩
 rw [← hwE]
 replace hn := hn.setS (u := (Value.slice yO yL yC)) hbd; rw [← hwE] at hn
 replace hd := hd.setS (u := (Value.slice yO yL yC)) hbd; rw [← hwE] at hd
 replace hg := hg.setS (u := (Value.slice yO yL yC)) hbd; rw [← hwE] at hg
 replace hx := hx.setS (u := (Value.slice yO yL yC)) hbd; rw [← hwE] at hx
 replace hy := hy.setS (u := (Value.slice yO yL yC)) hbd; rw [← hwE] at hy
 replace hbn := hbn.setOther (show pn ≠ pd by have := HP.out; omega) 0 (Value.slice yO yL yC); rw [← hwE] at hbn
 replace hbr := hbr.setOther (show pr ≠ pd by have := HP.out; omega) 0 (Value.slice yO yL yC); rw [← hwE] at hbr
 replace hbg := hbg.setOther (show pg ≠ pd by have := HP.out; omega) 0 (Value.slice yO yL yC); rw [← hwE] at hbg
 replace hbf := hbf.setCell (p := ⟨pd, 0, none⟩) (show w.heap.size ≤ pd by have := HP.out; omega) (Value.slice yO yL yC); rw [← hwE] at hbf
 replace hbd := hbd.set (Value.slice yO yL yC); rw [← hwE] at hbd; clear hwE
 have en := hbn.cell
 have ed := hbd.cell
 have er0 := hbr.c0
 have fr0 := hbr.f0
 have er1 := hbr.c1
 have fr1 := hbr.f1
 have er2 := hbr.c2
 have fr2 := hbr.f2
 go_wp2_with fail
 exact end_q rfl rfl rfl hbr (show w.heap.size ≤ pr by have := HP.out; omega) (QIs.made H0.out HD.out hx hy) hbf
set_option maxHeartbeats 1000000 in
theorem den_any (v : Value) (q : Rat) (w : World) (h : QIs w v q) :
  Calls Tryz.prog 192 #[v] w fun e w' => ∃ r, e = .returned r ∧ NatIs w' r q.den ∧ Below w.heap.size w w' := by
 obtain ⟨qB, qxO, qxL, qxC, qyO, qyL, qyC, rfl, hS, hqx, hqy⟩ := h.form
 have HqS := Lib.hid hS; clear hS
 obtain ⟨w0, hw0⟩ : ∃ w0, w0 = ((w.alloc (.cells #[.bool qB, .slice qxO qxL qxC, .slice qyO qyL qyC] 182)).alloc (.cells #[.slice none 0 0] 180)) := ⟨_, rfl⟩
 have hbf : Below w.heap.size w w0 := by rw [hw0]; exact (((Below.refl _ w).alloc (Nat.le_refl _) _).alloc (by simp <;> omega) _)
 obtain ⟨pq, hpq⟩ : ∃ p, p = w.heap.size := ⟨_, rfl⟩
 have hbq : Box3 w0 pq (Value.bool qB) (Value.slice qxO qxL qxC) (Value.slice qyO qyL qyC) := by rw [hw0, hpq]; exact ⟨by go_simp, by go_simp, by go_simp, by go_simp, by go_simp, by go_simp⟩
 obtain ⟨pr, hpr⟩ : ∃ p, p = w.heap.size + 1 := ⟨_, rfl⟩
 have hbr : Box w0 pr (Value.slice none 0 0) := by rw [hw0, hpr]; exact ⟨by go_simp, by go_simp, by simp <;> omega⟩
 have HP : Hid (w.heap.size ≤ pq ∧ pq < pr) := Lib.hid (by omega)
 replace h := h.below hbf
 replace hqx := hqx.below hbf
 replace hqy := hqy.below hbf
 have HW := Lib.hid hw0; clear hw0
 go_enter Tryz.func192, Tryz.ntmps192
 go_upto_region 1 with fail
 rw [← HW.out, ← hpr, ← hpq]
 clear hpq hpr HW
 have eq0 := hbq.c0
 have eq1 := hbq.c1
 have eq2 := hbq.c2
 go_wp2_with fail
 refine (zero_any _ (den0 q) _ hqy).mono ?_
 rintro e w1 ⟨rfl, hb⟩
 clear eq0 eq1 eq2
 replace hbq := hbq.kept hb
 replace hbr := hbr.kept hb
 replace h := h.below hb
 replace hqx := hqx.below hb
 replace hqy := hqy.below hb
 replace hbf := hbf.trans (hb.mono hbf.size)
 clear hb
 by_cases h0 : den0 q = 0
 case pos =>
  rw [decide_eq_true h0]
  go_wp2_with fail
  refine (of_any 1 _ (by decide)).mono ?_
  rintro e w2 ⟨r9, rfl, ho, hb⟩
  replace hbq := hbq.kept hb
  replace hbr := hbr.kept hb
  replace h := h.below hb
  replace hqx := hqx.below hb
  replace hqy := hqy.below hb
  replace hbf := hbf.trans (hb.mono hbf.size)
  clear hb
  obtain ⟨oO, oL, oC, rfl⟩ := ho.form
  have hq1 : q.den = 1 := by unfold den0 at h0; split at h0 <;> first | (rename_i h9; rw [h9]; rfl) | (have := q.den_pos; omega)
  have er := hbr.cell
  have fr := hbr.free
  go_wp2_with fail
  exact ret_nat rfl rfl (cell_set er) rfl ⟨_, rfl, by rw [hq1]; exact ho.setS hbr, hbf.setCell (p := ⟨pr, 0, none⟩) (show w.heap.size ≤ pr by have := HP.out; omega) _⟩
 rw [decide_eq_false h0]
 have hq1 : den0 q = q.den := by unfold den0 at h0 ⊢; split at h0 <;> first | exact (h0 rfl).elim | (rename_i h9; rw [if_neg h9])
 rw [hq1] at hqy
 clear h0 hq1
 have eq0 := hbq.c0
 have eq1 := hbq.c1
 have eq2 := hbq.c2
 have er := hbr.cell
 have fr := hbr.free
 go_wp2_with fail
 exact ret_nat rfl rfl (cell_set er) rfl ⟨_, rfl, hqy.setS hbr, hbf.setCell (p := ⟨pr, 0, none⟩) (show w.heap.size ≤ pr by have := HP.out; omega) _⟩
set_option maxHeartbeats 1000000 in
theorem make_main (neg : Bool) (vn vd : Value) (n d : Nat) (w : World) (q : Rat) (c : Int) (hq0 : Hid (d = 0 → q = 0 ∧ c = 4)) (hq1 : Hid (0 < d → q = qOf neg n d ∧ c = 0)) (hn : NatIs w vn n) (hd : NatIs w vd d) (hln : (limbs n).length ≤ 1000000) (hld : (limbs d).length ≤ 1000000) :
  Calls Tryz.prog 186 #[.bool neg, vn, vd] w (QPostC w q c) := by
 obtain ⟨nO, nL, nC, rfl⟩ := hn.form
 obtain ⟨dO, dL, dC, rfl⟩ := hd.form
 obtain ⟨w0, hw0⟩ : ∃ w0, w0 = (((w.alloc (.cells #[.slice nO nL nC] 180)).alloc (.cells #[.slice dO dL dC] 180)).alloc (.cells #[.bool false, .slice none 0 0, .slice none 0 0] 182)) := ⟨_, rfl⟩
 have hbf : Below w.heap.size w w0 := by rw [hw0]; exact ((((Below.refl _ w).alloc (Nat.le_refl _) _).alloc (by simp <;> omega) _).alloc (by simp <;> omega) _)
 obtain ⟨pn, hpn⟩ : ∃ p, p = w.heap.size := ⟨_, rfl⟩
 have hbn : Box w0 pn (Value.slice nO nL nC) := by rw [hw0, hpn]; exact ⟨by go_simp, by go_simp, by simp <;> omega⟩
 obtain ⟨pd, hpd⟩ : ∃ p, p = w.heap.size + 1 := ⟨_, rfl⟩
 have hbd : Box w0 pd (Value.slice dO dL dC) := by rw [hw0, hpd]; exact ⟨by go_simp, by go_simp, by simp <;> omega⟩
 obtain ⟨pr, hpr⟩ : ∃ p, p = w.heap.size + 1 + 1 := ⟨_, rfl⟩
 have hbr : Box3 w0 pr (Value.bool false) (Value.slice none 0 0) (Value.slice none 0 0) := by rw [hw0, hpr]; exact ⟨by go_simp, by go_simp, by go_simp, by go_simp, by go_simp, by go_simp⟩
 have HP : Hid (w.heap.size ≤ pn ∧ pn < pd ∧ pd < pr) := Lib.hid (by omega)
 replace hn := hn.below hbf
 replace hd := hd.below hbf
 have HW := Lib.hid hw0; clear hw0
 go_enter Tryz.func186, Tryz.ntmps186
 go_upto_region 1 with fail
 rw [← HW.out, ← hpr, ← hpd, ← hpn]
 clear hpn hpd hpr HW
 have ed := hbd.cell
 go_wp2_with fail
 refine (zero_any _ d _ hd).mono ?_
 rintro e w1 ⟨rfl, hb⟩
 clear ed
 replace hbn := hbn.kept hb
 replace hbd := hbd.kept hb
 replace hbr := hbr.kept hb
 replace hn := hn.below hb
 replace hd := hd.below hb
 replace hbf := hbf.trans (hb.mono hbf.size)
 clear hb
 by_cases h0 : d = 0
 case pos =>
  rw [decide_eq_true h0]
  obtain ⟨rfl, rfl⟩ := hq0.out h0
  have er0 := hbr.c0
  have fr0 := hbr.f0
  have er1 := hbr.c1
  have fr1 := hbr.f1
  have er2 := hbr.c2
  have fr2 := hbr.f2
  go_wp2_with fail
  exact end_qc rfl rfl rfl rfl hbr (show w.heap.size ≤ pr by have := HP.out; omega) (QIs.zero _) hbf
 rw [decide_eq_false h0]
 have HD : Hid (0 < d) := Lib.hid (by omega)
 obtain ⟨rfl, rfl⟩ := hq1.out HD.out
 clear h0
 have en := hbn.cell
 have ed := hbd.cell
 go_wp2_with fail
 refine (lowest_any neg _ _ n d _ hn hd hln hld HD.out).mono ?_
 rintro e w2 hq9
 obtain ⟨xB, xxO, xxL, xxC, xyO, xyL, xyC, rfl, hS, hxx, hxy, hx, hb⟩ := hq9.out
 have HxS := Lib.hid hS; clear hS
 clear en ed
 replace hbn := hbn.kept hb
 replace hbd := hbd.kept hb
 replace hbr := hbr.kept hb
 replace hn := hn.below hb
 replace hd := hd.below hb
 replace hbf := hbf.trans (hb.mono hbf.size)
 clear hb
 have er0 := hbr.c0
 have fr0 := hbr.f0
 have er1 := hbr.c1
 have fr1 := hbr.f1
 have er2 := hbr.c2
 have fr2 := hbr.f2
 go_wp2_with fail
 exact end_qc rfl rfl rfl rfl hbr (show w.heap.size ≤ pr by have := HP.out; omega) hx hbf
theorem make_ok (neg : Bool) (vn vd : Value) (n d : Nat) (w : World) (hn : NatIs w vn n) (hd : NatIs w vd d) (hln : (limbs n).length ≤ 1000000) (hld : (limbs d).length ≤ 1000000) (h0 : 0 < d) :
  Calls Tryz.prog 186 #[.bool neg, vn, vd] w (QPostC w (qOf neg n d) 0) :=
 make_main neg vn vd n d w _ _ (Lib.hid (fun h => by omega)) (Lib.hid (fun _ => ⟨rfl, rfl⟩)) hn hd hln hld
set_option maxHeartbeats 1000000 in
theorem cross_any (va vc : Value) (a c : Rat) (i j : Nat) (w : World) (ha : QIs w va a) (hc : QIs w vc c) (hla : QB a i) (hlc : QB c j) (hij : i + j ≤ 900000) :
  Calls Tryz.prog 190 #[va, vc] w fun e w' => ∃ r s, e = .returned (.tuple #[r, s]) ∧ NatIs w' r (a.num.natAbs * c.den) ∧ NatIs w' s (c.num.natAbs * a.den) ∧ Below w.heap.size w w' := by
 obtain ⟨aB, axO, axL, axC, ayO, ayL, ayC, rfl, hS, hax, hay⟩ := ha.form
 have HaS := Lib.hid hS; clear hS
 obtain ⟨cB, cxO, cxL, cxC, cyO, cyL, cyC, rfl, hS, hcx, hcy⟩ := hc.form
 have HcS := Lib.hid hS; clear hS
 obtain ⟨w0, hw0⟩ : ∃ w0, w0 = ((((w.alloc (.cells #[.bool aB, .slice axO axL axC, .slice ayO ayL ayC] 182)).alloc (.cells #[.bool cB, .slice cxO cxL cxC, .slice cyO cyL cyC] 182)).alloc (.cells #[.slice none 0 0] 180)).alloc (.cells #[.slice none 0 0] 180)) := ⟨_, rfl⟩
 have hbf : Below w.heap.size w w0 := by rw [hw0]; exact (((((Below.refl _ w).alloc (Nat.le_refl _) _).alloc (by simp <;> omega) _).alloc (by simp <;> omega) _).alloc (by simp <;> omega) _)
 obtain ⟨pa, hpa⟩ : ∃ p, p = w.heap.size := ⟨_, rfl⟩
 have hba : Box3 w0 pa (Value.bool aB) (Value.slice axO axL axC) (Value.slice ayO ayL ayC) := by rw [hw0, hpa]; exact ⟨by go_simp, by go_simp, by go_simp, by go_simp, by go_simp, by go_simp⟩
 obtain ⟨pc, hpc⟩ : ∃ p, p = w.heap.size + 1 := ⟨_, rfl⟩
 have hbc : Box3 w0 pc (Value.bool cB) (Value.slice cxO cxL cxC) (Value.slice cyO cyL cyC) := by rw [hw0, hpc]; exact ⟨by go_simp, by go_simp, by go_simp, by go_simp, by go_simp, by go_simp⟩
 obtain ⟨px, hpx⟩ : ∃ p, p = w.heap.size + 1 + 1 := ⟨_, rfl⟩
 have hbx : Box w0 px (Value.slice none 0 0) := by rw [hw0, hpx]; exact ⟨by go_simp, by go_simp, by simp <;> omega⟩
 obtain ⟨py, hpy⟩ : ∃ p, p = w.heap.size + 1 + 1 + 1 := ⟨_, rfl⟩
 have hby : Box w0 py (Value.slice none 0 0) := by rw [hw0, hpy]; exact ⟨by go_simp, by go_simp, by simp <;> omega⟩
 have HP : Hid (w.heap.size ≤ pa ∧ pa < pc ∧ pc < px ∧ px < py) := Lib.hid (by omega)
 replace ha := ha.below hbf
 replace hc := hc.below hbf
 replace hax := hax.below hbf
 replace hay := hay.below hbf
 replace hcx := hcx.below hbf
 replace hcy := hcy.below hbf
 have HW := Lib.hid hw0; clear hw0
 go_enter Tryz.func190, Tryz.ntmps190
 go_upto_region 1 with fail
 rw [← HW.out, ← hpy, ← hpx, ← hpc, ← hpa]
 clear hpa hpc hpx hpy HW
 have hla1 := hla.1
 have hla2 := hla.2
 have hlc1 := hlc.1
 have hlc2 := hlc.2
 have ea0 := hba.c0
 have ea1 := hba.c1
 have ea2 := hba.c2
 have ec0 := hbc.c0
 have ec1 := hbc.c1
 have ec2 := hbc.c2
 go_wp2_with fail
 clear ea0 ea1 ea2 ec0 ec1 ec2
 refine wp_region_seq (S := fun w' => Box3 w' pa (Value.bool aB) (Value.slice axO axL axC) (Value.slice ayO ayL ayC) ∧ Box3 w' pc (Value.bool cB) (Value.slice cxO cxL cxC) (Value.slice cyO cyL cyC)) [(true, 0), (true, 1), (true, 2), (true, 5), (true, 6), (true, 7), (false, 3), (false, 4), (false, 8), (false, 9), (false, 10), (false, 11)] (by kernel_rfl) (by kernel_rfl) (by kernel_rfl) (by kernel_rfl) (by kernel_rfl) (fun d _ _ _ _ h => by cases d <;> exact h) ⟨hba.drew, hbc.drew⟩ (fun _ => ?_)
 simp only [pickOps, List.append_eq, List.cons_append, List.nil_append, List.getElem?_toArray, List.getElem?_cons_succ, List.getElem?_cons_zero]
 have hb : Below w0.heap.size w0 w0.drew := (Below.refl _ _).drew
 generalize w0.drew = w1 at hb ⊢
 replace hba := hba.kept hb
 replace hbc := hbc.kept hb
 replace hbx := hbx.kept hb
 replace hby := hby.kept hb
 replace ha := ha.below hb
 replace hc := hc.below hb
 replace hax := hax.below hb
 replace hay := hay.below hb
 replace hcx := hcx.below hb
 replace hcy := hcy.below hb
 replace hbf := hbf.trans (hb.mono hbf.size)
 clear hb
 repeat (first | (refine seq_take (v := ?_) (by rfl) ?_ ?_; rotate_left; (· intro w hSw; (try dsimp only at hSw); obtain ⟨⟨ea0, ea1, ea2, _, _, _⟩, ⟨ec0, ec1, ec2, _, _, _⟩⟩ := hSw; go_simp; all_goals with_reducible rfl); (try simp only [Act.put, List.setIfInBounds_toArray, List.set_cons_zero, List.set_cons_succ])) | (refine seq_leave (by rfl) ?_; (try simp only [Act.put, List.setIfInBounds_toArray, List.set_cons_zero, List.set_cons_succ])))
 refine seq_step (by rfl) (fun K hK => ?_)
 go_simp
 go_at_call 192
 (with_reducible refine (den_any _ c _ hc).mono ?_)
 rintro e w2 ⟨r9, rfl, hd, hb⟩
 obtain ⟨dO, dL, dC, rfl⟩ := hd.form
 replace hba := hba.kept hb
 replace hbc := hbc.kept hb
 replace hbx := hbx.kept hb
 replace hby := hby.kept hb
 replace ha := ha.below hb
 replace hc := hc.below hb
 replace hax := hax.below hb
 replace hay := hay.below hb
 replace hcx := hcx.below hb
 replace hcy := hcy.below hb
 replace hbf := hbf.trans (hb.mono hbf.size)
 clear hb
 first | refine hK.out _ _ ⟨hba, hbc⟩ (fun _ => ?_) | (go_wp2_with fail; refine hK.out _ _ ⟨hba, hbc⟩ (fun _ => ?_))
 clear hK K
 (try simp only [Act.put, List.setIfInBounds_toArray, List.set_cons_zero, List.set_cons_succ])
 refine seq_step (by rfl) (fun K hK => ?_)
 go_simp
 go_at_call 191
 (with_reducible refine (mul_any _ _ _ _ _ hax hd (by omega) (by omega)).mono ?_)
 rintro e w3 ⟨r9, rfl, hu, hb⟩
 obtain ⟨uO, uL, uC, rfl⟩ := hu.form
 replace hba := hba.kept hb
 replace hbc := hbc.kept hb
 replace hbx := hbx.kept hb
 replace hby := hby.kept hb
 replace ha := ha.below hb
 replace hc := hc.below hb
 replace hax := hax.below hb
 replace hay := hay.below hb
 replace hcx := hcx.below hb
 replace hcy := hcy.below hb
 replace hd := hd.below hb
 replace hbf := hbf.trans (hb.mono hbf.size)
 clear hb
 first | refine hK.out _ _ ⟨hba, hbc⟩ (fun _ => ?_) | (go_wp2_with fail; refine hK.out _ _ ⟨hba, hbc⟩ (fun _ => ?_))
 clear hK K
 (try simp only [Act.put, List.setIfInBounds_toArray, List.set_cons_zero, List.set_cons_succ])
 refine seq_step (by rfl) (fun K hK => ?_)
 go_simp
 go_at_call 192
 (with_reducible refine (den_any _ a _ ha).mono ?_)
 rintro e w4 ⟨r9, rfl, hbd, hb⟩
 obtain ⟨bO, bL, bC, rfl⟩ := hbd.form
 replace hba := hba.kept hb
 replace hbc := hbc.kept hb
 replace hbx := hbx.kept hb
 replace hby := hby.kept hb
 replace ha := ha.below hb
 replace hc := hc.below hb
 replace hax := hax.below hb
 replace hay := hay.below hb
 replace hcx := hcx.below hb
 replace hcy := hcy.below hb
 replace hd := hd.below hb
 replace hu := hu.below hb
 replace hbf := hbf.trans (hb.mono hbf.size)
 clear hb
 first | refine hK.out _ _ ⟨hba, hbc⟩ (fun _ => ?_) | (go_wp2_with fail; refine hK.out _ _ ⟨hba, hbc⟩ (fun _ => ?_))
 clear hK K
 (try simp only [Act.put, List.setIfInBounds_toArray, List.set_cons_zero, List.set_cons_succ])
 refine seq_step (by rfl) (fun K hK => ?_)
 go_simp
 go_at_call 191
 (with_reducible refine (mul_any _ _ _ _ _ hcx hbd (by omega) (by omega)).mono ?_)
 rintro e w5 ⟨r9, rfl, hv, hb⟩
 obtain ⟨vO, vL, vC, rfl⟩ := hv.form
 replace hba := hba.kept hb
 replace hbc := hbc.kept hb
 replace hbx := hbx.kept hb
 replace hby := hby.kept hb
 replace ha := ha.below hb
 replace hc := hc.below hb
 replace hax := hax.below hb
 replace hay := hay.below hb
 replace hcx := hcx.below hb
 replace hcy := hcy.below hb
 replace hd := hd.below hb
 replace hu := hu.below hb
 replace hbd := hbd.below hb
 replace hbf := hbf.trans (hb.mono hbf.size)
 clear hb
 first | refine hK.out _ _ ⟨hba, hbc⟩ (fun _ => ?_) | (go_wp2_with fail; refine hK.out _ _ ⟨hba, hbc⟩ (fun _ => ?_))
 clear hK K
 (try simp only [Act.put, List.setIfInBounds_toArray, List.set_cons_zero, List.set_cons_succ])
 refine seq_step (by rfl) (fun K hK => ?_)
 have ex := hbx.cell
 have fx := hbx.free
 go_simp
 clear ex fx
 obtain ⟨w6, hwE⟩ : ∃ W, W = w5.setCell ⟨px, 0, none⟩ (Value.slice uO uL uC) := ⟨_, rfl⟩
 rw [← hwE]
 replace ha := ha.setS (u := (Value.slice uO uL uC)) hbx; rw [← hwE] at ha
 replace hc := hc.setS (u := (Value.slice uO uL uC)) hbx; rw [← hwE] at hc
 replace hax := hax.setS (u := (Value.slice uO uL uC)) hbx; rw [← hwE] at hax
 replace hay := hay.setS (u := (Value.slice uO uL uC)) hbx; rw [← hwE] at hay
 replace hcx := hcx.setS (u := (Value.slice uO uL uC)) hbx; rw [← hwE] at hcx
 replace hcy := hcy.setS (u := (Value.slice uO uL uC)) hbx; rw [← hwE] at hcy
 replace hd := hd.setS (u := (Value.slice uO uL uC)) hbx; rw [← hwE] at hd
 replace hu := hu.setS (u := (Value.slice uO uL uC)) hbx; rw [← hwE] at hu
 replace hbd := hbd.setS (u := (Value.slice uO uL uC)) hbx; rw [← hwE] at hbd
 replace hv := hv.setS (u := (Value.slice uO uL uC)) hbx; rw [← hwE] at hv
 replace hba := hba.setOther (show pa ≠ px by have := HP.out; omega) 0 (Value.slice uO uL uC); rw [← hwE] at hba
 replace hbc := hbc.setOther (show pc ≠ px by have := HP.out; omega) 0 (Value.slice uO uL uC); rw [← hwE] at hbc
 replace hby := hby.setOther (show py ≠ px by have := HP.out; omega) 0 (Value.slice uO uL uC); rw [← hwE] at hby
 replace hbf := hbf.setCell (p := ⟨px, 0, none⟩) (show w.heap.size ≤ px by have := HP.out; omega) (Value.slice uO uL uC); rw [← hwE] at hbf
 replace hbx := hbx.set (Value.slice uO uL uC); rw [← hwE] at hbx; clear hwE
 first | refine hK.out _ _ ⟨hba, hbc⟩ (fun _ => ?_) | (go_wp2_with fail; refine hK.out _ _ ⟨hba, hbc⟩ (fun _ => ?_))
 clear hK K
 (try simp only [Act.put, List.setIfInBounds_toArray, List.set_cons_zero, List.set_cons_succ])
 refine seq_step (by rfl) (fun K hK => ?_)
 have ey := hby.cell
 have fy := hby.free
 go_simp
 clear ey fy
 obtain ⟨w7, hwE⟩ : ∃ W, W = w6.setCell ⟨py, 0, none⟩ (Value.slice vO vL vC) := ⟨_, rfl⟩
 rw [← hwE]
 replace ha := ha.setS (u := (Value.slice vO vL vC)) hby; rw [← hwE] at ha
 replace hc := hc.setS (u := (Value.slice vO vL vC)) hby; rw [← hwE] at hc
 replace hax := hax.setS (u := (Value.slice vO vL vC)) hby; rw [← hwE] at hax
 replace hay := hay.setS (u := (Value.slice vO vL vC)) hby; rw [← hwE] at hay
 replace hcx := hcx.setS (u := (Value.slice vO vL vC)) hby; rw [← hwE] at hcx
 replace hcy := hcy.setS (u := (Value.slice vO vL vC)) hby; rw [← hwE] at hcy
 replace hd := hd.setS (u := (Value.slice vO vL vC)) hby; rw [← hwE] at hd
 replace hu := hu.setS (u := (Value.slice vO vL vC)) hby; rw [← hwE] at hu
 replace hbd := hbd.setS (u := (Value.slice vO vL vC)) hby; rw [← hwE] at hbd
 replace hv := hv.setS (u := (Value.slice vO vL vC)) hby; rw [← hwE] at hv
 replace hba := hba.setOther (show pa ≠ py by have := HP.out; omega) 0 (Value.slice vO vL vC); rw [← hwE] at hba
 replace hbc := hbc.setOther (show pc ≠ py by have := HP.out; omega) 0 (Value.slice vO vL vC); rw [← hwE] at hbc
 replace hbx := hbx.setOther (show px ≠ py by have := HP.out; omega) 0 (Value.slice vO vL vC); rw [← hwE] at hbx
 replace hbf := hbf.setCell (p := ⟨py, 0, none⟩) (show w.heap.size ≤ py by have := HP.out; omega) (Value.slice vO vL vC); rw [← hwE] at hbf
 replace hby := hby.set (Value.slice vO vL vC); rw [← hwE] at hby; clear hwE
 first | refine hK.out _ _ ⟨hba, hbc⟩ (fun _ => ?_) | (go_wp2_with fail; refine hK.out _ _ ⟨hba, hbc⟩ (fun _ => ?_))
 clear hK K
 (try simp only [Act.put, List.setIfInBounds_toArray, List.set_cons_zero, List.set_cons_succ])
 refine seq_end ?_
 go_wp2
 exact ret_nat_nat rfl rfl rfl hbx.cell hby.cell rfl ⟨_, _, rfl, hu, hv, hbf⟩
end Go.Proofs.YtcpfanpcdkoiaaaGreat
