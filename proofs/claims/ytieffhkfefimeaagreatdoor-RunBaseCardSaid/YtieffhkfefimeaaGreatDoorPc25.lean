/-
  Pc25: RunT (what is needed of them).
-/
import Derived.Test.YtieffhkfefimeaaGreatDoorPc11
import Derived.Test.YtieffhkfefimeaaGreatDoorPc16
import Derived.Test.YtieffhkfefimeaaGreatDoorPc20
import Derived.Test.YtieffhkfefimeaaGreatDoorPc21
set_option maxRecDepth 100000
set_option linter.unusedVariables false
set_option linter.unusedSimpArgs false

namespace Go.Proofs.YtieffhkfefimeaaGreatDoor
open Go.RowKit


attribute [local go_sem] field_nat
theorem trim_r (v : Value) (n : Nat) (w : World) (h : RIs w v n) : Calls Tryz.prog 125 #[v] w fun e w' => e = .returned v ∧ Below w.heap.size w w' :=
 (rtrim_same v n w h).mono fun e w' h => ⟨h.1, h.2 ▸ Below.refl _ _⟩
theorem RIs.len {w : World} {o : Option Addr} {l c n : Nat} (h : RIs w (.slice o l c) n) : l = (rlimbs n).length := by
 obtain ⟨ao, cap, h1, _⟩ := h.open
 injection h1
theorem rlimbs_mono {a b k : Nat} (hab : a ≤ b) (h : (rlimbs b).length ≤ k) : (rlimbs a).length ≤ k := Nat.le_trans (rlimbs_length_mono hab) h
theorem rlimbs_one : (rlimbs 1).length = 1 := by rw [rlimbs_pos (by omega)]; simp [rlimbs_zero]
theorem rlimbs_mul {a b m n : Nat} (ha : (rlimbs a).length ≤ m) (hb : (rlimbs b).length ≤ n) : (rlimbs (a * b)).length ≤ m + n := by
 have h1 := lt_pow_rlimbs a
 have h2 := lt_pow_rlimbs b
 refine rlimbs_length_le ?_
 have h3 : a < 10000 ^ m := Nat.lt_of_lt_of_le h1 (Nat.pow_le_pow_right (by decide) ha)
 have h4 : b < 10000 ^ n := Nat.lt_of_lt_of_le h2 (Nat.pow_le_pow_right (by decide) hb)
 rw [Nat.pow_add]
 exact Nat.mul_lt_mul'' h3 h4
theorem rlimbs_add {a b m : Nat} (ha : (rlimbs a).length ≤ m) (hb : (rlimbs b).length ≤ m) : (rlimbs (a + b)).length ≤ m + 1 := by
 have h1 := lt_pow_rlimbs a
 have h2 := lt_pow_rlimbs b
 refine rlimbs_length_le ?_
 have h3 : a < 10000 ^ m := Nat.lt_of_lt_of_le h1 (Nat.pow_le_pow_right (by decide) ha)
 have h4 : b < 10000 ^ m := Nat.lt_of_lt_of_le h2 (Nat.pow_le_pow_right (by decide) hb)
 rw [Nat.pow_succ]
 omega
set_option maxHeartbeats 1000000 in
theorem rmake_any (neg : Bool) (vn vd : Value) (n d : Nat) (w : World) (hn : RIs w vn n) (hd : RIs w vd d) (hln : (rlimbs n).length ≤ 1000000) (hld : (rlimbs d).length ≤ 1000000) (hd0 : 0 < d) :
  Calls Tryz.prog 48 #[.bool neg, vn, vd] w (RQPost w (qOf neg n d)) := by
 obtain ⟨nO, nL, nC, rfl⟩ := hn.form
 obtain ⟨dO, dL, dC, rfl⟩ := hd.form
 obtain ⟨w0, hw0⟩ : ∃ w0, w0 = (w.alloc (.cells #[.bool false, .slice none 0 0, .slice none 0 0] 44)) := ⟨_, rfl⟩
 have hbf : Below w.heap.size w w0 := by rw [hw0]; exact ((Below.refl _ w).alloc (Nat.le_refl _) _)
 obtain ⟨pr, hpr⟩ : ∃ p, p = w.heap.size := ⟨_, rfl⟩
 have hbr : Box3 w0 pr (Value.bool false) (Value.slice none 0 0) (Value.slice none 0 0) := by rw [hw0, hpr]; exact ⟨by go_simp, by go_simp, by go_simp, by go_simp, by go_simp, by go_simp⟩
 have HP : Hid (w.heap.size ≤ pr) := Lib.hid (by omega)
 replace hn := hn.below hbf
 replace hd := hd.below hbf
 have HW := Lib.hid hw0; clear hw0
 go_enter Tryz.func48, Tryz.ntmps48
 go_upto_region 1 with fail
 rw [← HW.out, ← hpr]
 clear hpr HW
 have HD := Lib.hid hd0; clear hd0
 go_wp2_with fail
 refine (trim_r _ n _ hn).mono ?_
 rintro e w1 ⟨rfl, hb⟩
 replace hbr := hbr.kept hb
 replace hn := hn.below hb
 replace hd := hd.below hb
 replace hbf := hbf.trans (hb.mono hbf.size)
 clear hb
 go_wp2_with fail
 refine (trim_r _ d _ hd).mono ?_
 rintro e w2 ⟨rfl, hb⟩
 replace hbr := hbr.kept hb
 replace hn := hn.below hb
 replace hd := hd.below hb
 replace hbf := hbf.trans (hb.mono hbf.size)
 clear hb
 go_wp2_with fail
 refine (rgcd_any _ _ n d _ hn hd hln hld).mono ?_
 rintro e w3 ⟨r9, rfl, hg, hb⟩
 replace hbr := hbr.kept hb
 replace hn := hn.below hb
 replace hd := hd.below hb
 replace hbf := hbf.trans (hb.mono hbf.size)
 clear hb
 obtain ⟨gO, gL, gC, rfl⟩ := hg.form
 have HG : Hid (0 < Nat.gcd n d) := Lib.hid (Nat.gcd_pos_of_pos_right _ HD.out)
 have hlg : (rlimbs (Nat.gcd n d)).length ≤ 1000000 := rlimbs_mono (Nat.gcd_le_right _ HD.out) hld
 go_wp2_with fail
 refine (rdivmod_any _ _ n (Nat.gcd n d) _ hn hg hln hlg HG.out).mono ?_
 rintro e w4 ⟨r9, s9, rfl, hx, hs, hb⟩
 replace hbr := hbr.kept hb
 replace hn := hn.below hb
 replace hd := hd.below hb
 replace hg := hg.below hb
 replace hbf := hbf.trans (hb.mono hbf.size)
 clear hb
 obtain ⟨xO, xL, xC, rfl⟩ := hx.form
 obtain ⟨sO, sL, sC, rfl⟩ := hs.form
 clear hs
 go_wp2_with fail
 refine (rdivmod_any _ _ d (Nat.gcd n d) _ hd hg hld hlg HG.out).mono ?_
 rintro e w5 ⟨r9, s9, rfl, hy, hs, hb⟩
 replace hbr := hbr.kept hb
 replace hn := hn.below hb
 replace hd := hd.below hb
 replace hg := hg.below hb
 replace hx := hx.below hb
 replace hbf := hbf.trans (hb.mono hbf.size)
 clear hb
 obtain ⟨yO, yL, yC, rfl⟩ := hy.form
 obtain ⟨tO, tL, tC, rfl⟩ := hs.form
 clear hs
 have hxl := hx.len
 have hx0 : decide ((0 : Int) < (xL : Int)) = decide (0 < n) := by
  rw [hxl]
  by_cases h0 : n = 0
  ·subst h0; simp [rlimbs_zero]
  ·have h1 : 0 < n / Nat.gcd n d := Nat.div_pos (Nat.gcd_le_left _ (by omega)) HG.out
   have h2 : rlimbs (n / Nat.gcd n d) ≠ [] := fun h => by have := rlimbs_eq_nil.1 h; omega
   have h3 : 0 < (rlimbs (n / Nat.gcd n d)).length := List.length_pos_iff.2 h2
   rw [decide_eq_true (by omega), decide_eq_true (by omega)]
 have HX := Lib.hid hx0; clear hx0 hxl
 cases neg
 case false =>
  have er0 := hbr.c0
  have fr0 := hbr.f0
  have er1 := hbr.c1
  have fr1 := hbr.f1
  have er2 := hbr.c2
  have fr2 := hbr.f2
  go_wp2_with fail
  exact end_r rfl rfl rfl hbr (show w.heap.size ≤ pr by have := HP.out; omega) (RQIs.made HD.out (by first | rfl | (rw [← HX.out]; simp)) hx hy) hbf
 case true =>
  have er0 := hbr.c0
  have fr0 := hbr.f0
  have er1 := hbr.c1
  have fr1 := hbr.f1
  have er2 := hbr.c2
  have fr2 := hbr.f2
  go_wp2_with fail
  exact end_r rfl rfl rfl hbr (show w.heap.size ≤ pr by have := HP.out; omega) (RQIs.made HD.out (by first | rfl | (rw [← HX.out]; simp)) hx hy) hbf
theorem qb_pf2 {a : Rat} (hs : Hid (false = decide (a < 0))) (h : ¬ a.den = 1) : ((⟨(str (dec a.num.natAbs)).toArray⟩ ++ ⟨#[47]⟩) ++ ⟨(str (dec a.den)).toArray⟩ : ByteArray) = ⟨(qtext a).toArray⟩ := by
 rw [← qb_pf hs h]; apply ByteArray.ext; simp
theorem qb_nf2 {a : Rat} (hs : Hid (true = decide (a < 0))) (h : ¬ a.den = 1) : (((⟨#[45]⟩ ++ ⟨(str (dec a.num.natAbs)).toArray⟩) ++ ⟨#[47]⟩) ++ ⟨(str (dec a.den)).toArray⟩ : ByteArray) = ⟨(qtext a).toArray⟩ := by
 rw [← qb_nf hs h]; apply ByteArray.ext; simp
set_option maxHeartbeats 1000000 in
theorem rqtext_any (va : Value) (a : Rat) (w : World) (ha : RQIs w va a) (hla : QB a 30000) :
  Calls Tryz.prog 16 #[va] w fun e w' => e = .returned (.string ⟨(qtext a).toArray⟩) ∧ Below w.heap.size w w' := by
 obtain ⟨aB, axO, axL, axC, ayO, ayL, ayC, rfl, hS, hax, hay⟩ := ha.form
 have HaS := Lib.hid hS; clear hS
 obtain ⟨w0, hw0⟩ : ∃ w0, w0 = (w.alloc (.cells #[.bool aB, .slice axO axL axC, .slice ayO ayL ayC] 44)) := ⟨_, rfl⟩
 have hbf : Below w.heap.size w w0 := by rw [hw0]; exact ((Below.refl _ w).alloc (Nat.le_refl _) _)
 obtain ⟨pa, hpa⟩ : ∃ p, p = w.heap.size := ⟨_, rfl⟩
 have hba : Box3 w0 pa (Value.bool aB) (Value.slice axO axL axC) (Value.slice ayO ayL ayC) := by rw [hw0, hpa]; exact ⟨by go_simp, by go_simp, by go_simp, by go_simp, by go_simp, by go_simp⟩
 have HP : Hid (w.heap.size ≤ pa) := Lib.hid (by omega)
 replace ha := ha.below hbf
 replace hax := hax.below hbf
 replace hay := hay.below hbf
 have HW := Lib.hid hw0; clear hw0
 go_enter Tryz.func16, Tryz.ntmps16
 go_upto_region 1 with fail
 rw [← HW.out, ← hpa]
 clear hpa HW
 have hla1 := hla.1
 have hla2 := hla.2
 have hr1 := rlimbs_of_limbs hla1
 have hr2 := rlimbs_of_limbs hla2
 have ea0 := hba.c0
 have ea1 := hba.c1
 have ea2 := hba.c2
 go_wp2_with fail
 refine (rtext_any _ a.num.natAbs _ hax (by omega)).mono ?_
 rintro e w1 ⟨rfl, hb⟩
 clear ea0 ea1 ea2
 replace hba := hba.kept hb
 replace ha := ha.below hb
 replace hax := hax.below hb
 replace hay := hay.below hb
 replace hbf := hbf.trans (hb.mono hbf.size)
 clear hb
 obtain ⟨T, hT⟩ : ∃ T, T = str (dec a.num.natAbs) := ⟨_, rfl⟩
 obtain ⟨D, hD⟩ : ∃ D, D = str (dec a.den) := ⟨_, rfl⟩
 rw [← hT]
 have hTl : T.length ≤ 300001 := by rw [hT]; exact dec_limbsK hla1 (by omega)
 have hDl : D.length ≤ 300001 := by rw [hD]; exact dec_limbsK hla2 (by omega)
 have HT := Lib.hid hT.symm; clear hT
 have HDD := Lib.hid hD.symm; clear hD
 have hcmp : (cmpI a.den 1 != 0) = !decide (a.den = 1) := by
  unfold cmpI; by_cases h1 : a.den < 1 <;> by_cases h2 : 1 < a.den <;> simp [h1, h2] <;> omega
 have HCM := Lib.hid hcmp; clear hcmp
 cases aB
 case false =>
  obtain ⟨w2, hwE⟩ : ∃ W, W = (w1.alloc (.cells #[.int .i64 1] 3)) := ⟨_, rfl⟩
  have hb : Below w1.heap.size w1 w2 := by rw [hwE]; exact ((Below.refl _ w1).alloc (Nat.le_refl _) _)
  obtain ⟨oP, hpo⟩ : ∃ p, p = w1.heap.size := ⟨_, rfl⟩
  have ho : RIs w2 (.slice (some ⟨oP, 0, none⟩) 1 1) 1 := by rw [hwE, hpo]; exact (one_is w1 (x := 1) (by omega) (by omega))
  have ea0 := hba.c0
  have ea1 := hba.c1
  have ea2 := hba.c2
  have HW := Lib.hid hwE; clear hwE
  go_wp2_with fail
  rw [← HW.out, ← hpo]
  clear hpo HW
  clear ea0 ea1 ea2
  replace hba := hba.kept hb
  replace ha := ha.below hb
  replace hax := hax.below hb
  replace hay := hay.below hb
  replace hbf := hbf.trans (hb.mono hbf.size)
  clear hb
  refine (rcmp_any _ _ a.den 1 _ hay ho).mono ?_
  rintro e w3 ⟨rfl, hb⟩
  replace hba := hba.kept hb
  replace ha := ha.below hb
  replace hax := hax.below hb
  replace hay := hay.below hb
  replace ho := ho.below hb
  replace hbf := hbf.trans (hb.mono hbf.size)
  clear hb
  by_cases h1 : a.den = 1
  case pos =>
   have hc0 : cmpI a.den 1 = 0 := by rw [h1]; rfl
   rw [hc0]
   have hq := qb_pw HaS h1
   rw [HT.out] at hq
   have HQ := Lib.hid hq; clear hq h1 hc0
   go_wp2_with fail
   go_ret
   exact ⟨ret_one (by rw [← HQ.out]; rfl), hbf⟩
  obtain ⟨c9, hc9⟩ : ∃ c, c = cmpI a.den 1 := ⟨_, rfl⟩
  rw [← hc9]
  have hcn : (c9 != 0) = true := by rw [hc9, HCM.out, decide_eq_false h1]; rfl
  have hcn2 : (c9 == 0) = false := by simpa using hcn
  have hcn3 : ¬ c9 = 0 := by simpa using hcn
  clear hc9
  have hq := qb_pf2 HaS h1
  rw [HT.out, HDD.out] at hq
  have HQ := Lib.hid hq; clear hq
  clear h1
  have ea0 := hba.c0
  have ea1 := hba.c1
  have ea2 := hba.c2
  go_wp2_with fail
  refine (rtext_any _ a.den _ hay (by omega)).mono ?_
  rintro e w4 ⟨rfl, hb⟩
  clear ea0 ea1 ea2
  replace hba := hba.kept hb
  replace ha := ha.below hb
  replace hax := hax.below hb
  replace hay := hay.below hb
  replace ho := ho.below hb
  replace hbf := hbf.trans (hb.mono hbf.size)
  clear hb
  rw [HDD.out]
  go_wp2_with fail
  go_ret
  exact ⟨ret_one (by rw [← HQ.out]; rfl), hbf⟩
 case true =>
  obtain ⟨w2, hwE⟩ : ∃ W, W = (w1.alloc (.cells #[.int .i64 1] 3)) := ⟨_, rfl⟩
  have hb : Below w1.heap.size w1 w2 := by rw [hwE]; exact ((Below.refl _ w1).alloc (Nat.le_refl _) _)
  obtain ⟨oP, hpo⟩ : ∃ p, p = w1.heap.size := ⟨_, rfl⟩
  have ho : RIs w2 (.slice (some ⟨oP, 0, none⟩) 1 1) 1 := by rw [hwE, hpo]; exact (one_is w1 (x := 1) (by omega) (by omega))
  have ea0 := hba.c0
  have ea1 := hba.c1
  have ea2 := hba.c2
  have HW := Lib.hid hwE; clear hwE
  go_wp2_with fail
  rw [← HW.out, ← hpo]
  clear hpo HW
  clear ea0 ea1 ea2
  replace hba := hba.kept hb
  replace ha := ha.below hb
  replace hax := hax.below hb
  replace hay := hay.below hb
  replace hbf := hbf.trans (hb.mono hbf.size)
  clear hb
  refine (rcmp_any _ _ a.den 1 _ hay ho).mono ?_
  rintro e w3 ⟨rfl, hb⟩
  replace hba := hba.kept hb
  replace ha := ha.below hb
  replace hax := hax.below hb
  replace hay := hay.below hb
  replace ho := ho.below hb
  replace hbf := hbf.trans (hb.mono hbf.size)
  clear hb
  by_cases h1 : a.den = 1
  case pos =>
   have hc0 : cmpI a.den 1 = 0 := by rw [h1]; rfl
   rw [hc0]
   have hq := qb_nw HaS h1
   rw [HT.out] at hq
   have HQ := Lib.hid hq; clear hq h1 hc0
   go_wp2_with fail
   go_ret
   exact ⟨ret_one (by rw [← HQ.out]; rfl), hbf⟩
  obtain ⟨c9, hc9⟩ : ∃ c, c = cmpI a.den 1 := ⟨_, rfl⟩
  rw [← hc9]
  have hcn : (c9 != 0) = true := by rw [hc9, HCM.out, decide_eq_false h1]; rfl
  have hcn2 : (c9 == 0) = false := by simpa using hcn
  have hcn3 : ¬ c9 = 0 := by simpa using hcn
  clear hc9
  have hq := qb_nf2 HaS h1
  rw [HT.out, HDD.out] at hq
  have HQ := Lib.hid hq; clear hq
  clear h1
  have ea0 := hba.c0
  have ea1 := hba.c1
  have ea2 := hba.c2
  go_wp2_with fail
  refine (rtext_any _ a.den _ hay (by omega)).mono ?_
  rintro e w4 ⟨rfl, hb⟩
  clear ea0 ea1 ea2
  replace hba := hba.kept hb
  replace ha := ha.below hb
  replace hax := hax.below hb
  replace hay := hay.below hb
  replace ho := ho.below hb
  replace hbf := hbf.trans (hb.mono hbf.size)
  clear hb
  rw [HDD.out]
  go_wp2_with fail
  go_ret
  exact ⟨ret_one (by rw [← HQ.out]; rfl), hbf⟩
theorem cmpI_cases (a b : Nat) : cmpI a b = -1 ∨ cmpI a b = 0 ∨ cmpI a b = 1 := by
 unfold cmpI; split <;> (try split) <;> simp
theorem cmpI_neg (a b : Nat) : cmpI b a = -cmpI a b := by
 unfold cmpI; by_cases h1 : a < b <;> by_cases h2 : b < a <;> simp [h1, h2] <;> omega
theorem cmpI_ge (a b : Nat) : 0 ≤ cmpI a b ↔ b ≤ a := by
 unfold cmpI; by_cases h1 : a < b <;> by_cases h2 : b < a <;> simp [h1, h2] <;> omega
set_option maxHeartbeats 1000000 in
theorem rqcmp_any (va vc : Value) (a c : Rat) (i j : Nat) (w : World) (ha : RQIs w va a) (hc : RQIs w vc c) (hla : QB a i) (hlc : QB c j) (hij : i + j ≤ 90000) :
  Calls Tryz.prog 20 #[va, vc] w fun e w' => e = .returned (.int .i64 (qcmp a c)) ∧ Below w.heap.size w w' := by
 obtain ⟨aB, axO, axL, axC, ayO, ayL, ayC, rfl, hS, hax, hay⟩ := ha.form
 have HaS := Lib.hid hS; clear hS
 obtain ⟨cB, cxO, cxL, cxC, cyO, cyL, cyC, rfl, hS, hcx, hcy⟩ := hc.form
 have HcS := Lib.hid hS; clear hS
 obtain ⟨w0, hw0⟩ : ∃ w0, w0 = ((w.alloc (.cells #[.bool aB, .slice axO axL axC, .slice ayO ayL ayC] 44)).alloc (.cells #[.bool cB, .slice cxO cxL cxC, .slice cyO cyL cyC] 44)) := ⟨_, rfl⟩
 have hbf : Below w.heap.size w w0 := by rw [hw0]; exact (((Below.refl _ w).alloc (Nat.le_refl _) _).alloc (by simp <;> omega) _)
 obtain ⟨pa, hpa⟩ : ∃ p, p = w.heap.size := ⟨_, rfl⟩
 have hba : Box3 w0 pa (Value.bool aB) (Value.slice axO axL axC) (Value.slice ayO ayL ayC) := by rw [hw0, hpa]; exact ⟨by go_simp, by go_simp, by go_simp, by go_simp, by go_simp, by go_simp⟩
 obtain ⟨pc, hpc⟩ : ∃ p, p = w.heap.size + 1 := ⟨_, rfl⟩
 have hbc : Box3 w0 pc (Value.bool cB) (Value.slice cxO cxL cxC) (Value.slice cyO cyL cyC) := by rw [hw0, hpc]; exact ⟨by go_simp, by go_simp, by go_simp, by go_simp, by go_simp, by go_simp⟩
 have HP : Hid (w.heap.size ≤ pa ∧ pa < pc) := Lib.hid (by omega)
 replace ha := ha.below hbf
 replace hc := hc.below hbf
 replace hax := hax.below hbf
 replace hay := hay.below hbf
 replace hcx := hcx.below hbf
 replace hcy := hcy.below hbf
 have HW := Lib.hid hw0; clear hw0
 go_enter Tryz.func20, Tryz.ntmps20
 go_upto_region 1 with fail
 rw [← HW.out, ← hpc, ← hpa]
 clear hpa hpc HW
 have hra1 := rlimbs_of_limbs hla.1
 have hra2 := rlimbs_of_limbs hla.2
 have hrc1 := rlimbs_of_limbs hlc.1
 have hrc2 := rlimbs_of_limbs hlc.2
 cases aB
 case false =>
  cases cB
  case false =>
   have ea0 := hba.c0
   have ea1 := hba.c1
   have ea2 := hba.c2
   have ec0 := hbc.c0
   have ec1 := hbc.c1
   have ec2 := hbc.c2
   go_upto_region 5 with fail
   clear ea0 ea1 ea2 ec0 ec1 ec2
   refine wp_region_seq (S := fun w' => Box3 w' pa (Value.bool false) (Value.slice axO axL axC) (Value.slice ayO ayL ayC) ∧ Box3 w' pc (Value.bool false) (Value.slice cxO cxL cxC) (Value.slice cyO cyL cyC)) [(true, 0), (true, 1), (true, 2), (true, 3), (true, 5), (true, 6), (true, 7), (true, 8), (false, 4), (false, 9), (false, 10), (true, 11)] (by kernel_rfl) (by kernel_rfl) (by kernel_rfl) (by kernel_rfl) (by kernel_rfl) (fun d _ _ _ _ h => by cases d <;> exact h) ⟨hba.drew, hbc.drew⟩ (fun _ => ?_)
   simp only [pickOps, List.append_eq, List.cons_append, List.nil_append, List.getElem?_toArray, List.getElem?_cons_succ, List.getElem?_cons_zero]
   have hb : Below w0.heap.size w0 w0.drew := (Below.refl _ _).drew
   generalize w0.drew = w1 at hb ⊢
   replace hba := hba.kept hb
   replace hbc := hbc.kept hb
   replace ha := ha.below hb
   replace hc := hc.below hb
   replace hax := hax.below hb
   replace hay := hay.below hb
   replace hcx := hcx.below hb
   replace hcy := hcy.below hb
   replace hbf := hbf.trans (hb.mono hbf.size)
   clear hb
   repeat (first | (refine seq_take (v := ?_) (by rfl) ?_ ?_; rotate_left; (· intro w hSw; (try dsimp only at hSw); obtain ⟨⟨ea0, ea1, ea2, _, _, _⟩, ⟨ec0, ec1, ec2, _, _, _⟩⟩ := hSw; go_simp; all_goals with_reducible rfl); (try simp only [Act.put, List.setIfInBounds_toArray, List.set_cons_zero, List.set_cons_succ])) | (refine seq_leave (by rfl) ?_; (try simp only [Act.put, List.setIfInBounds_toArray, List.set_cons_zero, List.set_cons_succ])))
   refine seq_step (by rfl) (fun K hK => ?_)
   go_simp
   go_at_call 49
   (with_reducible refine (rmul_any _ _ a.num.natAbs c.den _ hax hcy (by omega) (by omega)).mono ?_)
   rintro e w2 ⟨r9, rfl, hx, hb⟩
   obtain ⟨xO, xL, xC, rfl⟩ := hx.form
   replace hba := hba.kept hb
   replace hbc := hbc.kept hb
   replace ha := ha.below hb
   replace hc := hc.below hb
   replace hax := hax.below hb
   replace hay := hay.below hb
   replace hcx := hcx.below hb
   replace hcy := hcy.below hb
   replace hbf := hbf.trans (hb.mono hbf.size)
   clear hb
   first | refine hK.out _ _ ⟨hba, hbc⟩ (fun _ => ?_) | (go_wp2_with fail; refine hK.out _ _ ⟨hba, hbc⟩ (fun _ => ?_))
   clear hK K
   (try simp only [Act.put, List.setIfInBounds_toArray, List.set_cons_zero, List.set_cons_succ])
   refine seq_step (by rfl) (fun K hK => ?_)
   go_simp
   go_at_call 49
   (with_reducible refine (rmul_any _ _ c.num.natAbs a.den _ hcx hay (by omega) (by omega)).mono ?_)
   rintro e w3 ⟨r9, rfl, hy, hb⟩
   obtain ⟨yO, yL, yC, rfl⟩ := hy.form
   replace hba := hba.kept hb
   replace hbc := hbc.kept hb
   replace ha := ha.below hb
   replace hc := hc.below hb
   replace hax := hax.below hb
   replace hay := hay.below hb
   replace hcx := hcx.below hb
   replace hcy := hcy.below hb
   replace hx := hx.below hb
   replace hbf := hbf.trans (hb.mono hbf.size)
   clear hb
   first | refine hK.out _ _ ⟨hba, hbc⟩ (fun _ => ?_) | (go_wp2_with fail; refine hK.out _ _ ⟨hba, hbc⟩ (fun _ => ?_))
   clear hK K
   (try simp only [Act.put, List.setIfInBounds_toArray, List.set_cons_zero, List.set_cons_succ])
   refine seq_step (by rfl) (fun K hK => ?_)
   go_simp
   go_at_call 53
   (with_reducible refine (rcmp_any _ _ _ _ _ hx hy).mono ?_)
   rintro e w4 ⟨rfl, hb⟩
   replace hba := hba.kept hb
   replace hbc := hbc.kept hb
   replace ha := ha.below hb
   replace hc := hc.below hb
   replace hax := hax.below hb
   replace hay := hay.below hb
   replace hcx := hcx.below hb
   replace hcy := hcy.below hb
   replace hx := hx.below hb
   replace hy := hy.below hb
   replace hbf := hbf.trans (hb.mono hbf.size)
   clear hb
   first | refine hK.out _ _ ⟨hba, hbc⟩ (fun _ => ?_) | (go_wp2_with fail; refine hK.out _ _ ⟨hba, hbc⟩ (fun _ => ?_))
   clear hK K
   (try simp only [Act.put, List.setIfInBounds_toArray, List.set_cons_zero, List.set_cons_succ])
   repeat (first | (refine seq_take (v := ?_) (by rfl) ?_ ?_; rotate_left; (· intro w hSw; (try dsimp only at hSw); obtain ⟨⟨ea0, ea1, ea2, _, _, _⟩, ⟨ec0, ec1, ec2, _, _, _⟩⟩ := hSw; go_simp; all_goals with_reducible rfl); (try simp only [Act.put, List.setIfInBounds_toArray, List.set_cons_zero, List.set_cons_succ])) | (refine seq_leave (by rfl) ?_; (try simp only [Act.put, List.setIfInBounds_toArray, List.set_cons_zero, List.set_cons_succ])))
   refine seq_end ?_
   have hq : qcmp a c = cmpI (a.num.natAbs * c.den) (c.num.natAbs * a.den) := (qcmp_pp HaS.out.symm HcS.out.symm).symm
   have hcs := cmpI_cases (a.num.natAbs * c.den) (c.num.natAbs * a.den)
   generalize cmpI (a.num.natAbs * c.den) (c.num.natAbs * a.den) = c9 at *
   have HQ := Lib.hid hq; clear hq
   have HC9 := Lib.hid hcs; clear hcs
   rcases HC9.out with rfl | rfl | rfl
   all_goals
    have ea0 := hba.c0
    have ea1 := hba.c1
    have ea2 := hba.c2
    go_wp2_with fail
    go_ret
    exact ⟨ret_one (by rw [HQ.out]; rfl), hbf⟩
  case true =>
   have ea0 := hba.c0
   have ea1 := hba.c1
   have ea2 := hba.c2
   have ec0 := hbc.c0
   have ec1 := hbc.c1
   have ec2 := hbc.c2
   go_wp2_with fail
   go_ret
   exact ⟨ret_one (by rw [qcmp_pn HaS.out.symm HcS.out.symm]; rfl), hbf⟩
 case true =>
  cases cB
  case false =>
   have ea0 := hba.c0
   have ea1 := hba.c1
   have ea2 := hba.c2
   have ec0 := hbc.c0
   have ec1 := hbc.c1
   have ec2 := hbc.c2
   go_wp2_with fail
   go_ret
   exact ⟨ret_one (by rw [qcmp_np HaS.out.symm HcS.out.symm]; rfl), hbf⟩
  case true =>
   have ea0 := hba.c0
   have ea1 := hba.c1
   have ea2 := hba.c2
   have ec0 := hbc.c0
   have ec1 := hbc.c1
   have ec2 := hbc.c2
   go_upto_region 5 with fail
   clear ea0 ea1 ea2 ec0 ec1 ec2
   refine wp_region_seq (S := fun w' => Box3 w' pa (Value.bool true) (Value.slice axO axL axC) (Value.slice ayO ayL ayC) ∧ Box3 w' pc (Value.bool true) (Value.slice cxO cxL cxC) (Value.slice cyO cyL cyC)) [(true, 0), (true, 1), (true, 2), (true, 3), (true, 5), (true, 6), (true, 7), (true, 8), (false, 4), (false, 9), (false, 10), (true, 11)] (by kernel_rfl) (by kernel_rfl) (by kernel_rfl) (by kernel_rfl) (by kernel_rfl) (fun d _ _ _ _ h => by cases d <;> exact h) ⟨hba.drew, hbc.drew⟩ (fun _ => ?_)
   simp only [pickOps, List.append_eq, List.cons_append, List.nil_append, List.getElem?_toArray, List.getElem?_cons_succ, List.getElem?_cons_zero]
   have hb : Below w0.heap.size w0 w0.drew := (Below.refl _ _).drew
   generalize w0.drew = w1 at hb ⊢
   replace hba := hba.kept hb
   replace hbc := hbc.kept hb
   replace ha := ha.below hb
   replace hc := hc.below hb
   replace hax := hax.below hb
   replace hay := hay.below hb
   replace hcx := hcx.below hb
   replace hcy := hcy.below hb
   replace hbf := hbf.trans (hb.mono hbf.size)
   clear hb
   repeat (first | (refine seq_take (v := ?_) (by rfl) ?_ ?_; rotate_left; (· intro w hSw; (try dsimp only at hSw); obtain ⟨⟨ea0, ea1, ea2, _, _, _⟩, ⟨ec0, ec1, ec2, _, _, _⟩⟩ := hSw; go_simp; all_goals with_reducible rfl); (try simp only [Act.put, List.setIfInBounds_toArray, List.set_cons_zero, List.set_cons_succ])) | (refine seq_leave (by rfl) ?_; (try simp only [Act.put, List.setIfInBounds_toArray, List.set_cons_zero, List.set_cons_succ])))
   refine seq_step (by rfl) (fun K hK => ?_)
   go_simp
   go_at_call 49
   (with_reducible refine (rmul_any _ _ a.num.natAbs c.den _ hax hcy (by omega) (by omega)).mono ?_)
   rintro e w2 ⟨r9, rfl, hx, hb⟩
   obtain ⟨xO, xL, xC, rfl⟩ := hx.form
   replace hba := hba.kept hb
   replace hbc := hbc.kept hb
   replace ha := ha.below hb
   replace hc := hc.below hb
   replace hax := hax.below hb
   replace hay := hay.below hb
   replace hcx := hcx.below hb
   replace hcy := hcy.below hb
   replace hbf := hbf.trans (hb.mono hbf.size)
   clear hb
   first | refine hK.out _ _ ⟨hba, hbc⟩ (fun _ => ?_) | (go_wp2_with fail; refine hK.out _ _ ⟨hba, hbc⟩ (fun _ => ?_))
   clear hK K
   (try simp only [Act.put, List.setIfInBounds_toArray, List.set_cons_zero, List.set_cons_succ])
   refine seq_step (by rfl) (fun K hK => ?_)
   go_simp
   go_at_call 49
   (with_reducible refine (rmul_any _ _ c.num.natAbs a.den _ hcx hay (by omega) (by omega)).mono ?_)
   rintro e w3 ⟨r9, rfl, hy, hb⟩
   obtain ⟨yO, yL, yC, rfl⟩ := hy.form
   replace hba := hba.kept hb
   replace hbc := hbc.kept hb
   replace ha := ha.below hb
   replace hc := hc.below hb
   replace hax := hax.below hb
   replace hay := hay.below hb
   replace hcx := hcx.below hb
   replace hcy := hcy.below hb
   replace hx := hx.below hb
   replace hbf := hbf.trans (hb.mono hbf.size)
   clear hb
   first | refine hK.out _ _ ⟨hba, hbc⟩ (fun _ => ?_) | (go_wp2_with fail; refine hK.out _ _ ⟨hba, hbc⟩ (fun _ => ?_))
   clear hK K
   (try simp only [Act.put, List.setIfInBounds_toArray, List.set_cons_zero, List.set_cons_succ])
   refine seq_step (by rfl) (fun K hK => ?_)
   go_simp
   go_at_call 53
   (with_reducible refine (rcmp_any _ _ _ _ _ hx hy).mono ?_)
   rintro e w4 ⟨rfl, hb⟩
   replace hba := hba.kept hb
   replace hbc := hbc.kept hb
   replace ha := ha.below hb
   replace hc := hc.below hb
   replace hax := hax.below hb
   replace hay := hay.below hb
   replace hcx := hcx.below hb
   replace hcy := hcy.below hb
   replace hx := hx.below hb
   replace hy := hy.below hb
   replace hbf := hbf.trans (hb.mono hbf.size)
   clear hb
   first | refine hK.out _ _ ⟨hba, hbc⟩ (fun _ => ?_) | (go_wp2_with fail; refine hK.out _ _ ⟨hba, hbc⟩ (fun _ => ?_))
   clear hK K
   (try simp only [Act.put, List.setIfInBounds_toArray, List.set_cons_zero, List.set_cons_succ])
   repeat (first | (refine seq_take (v := ?_) (by rfl) ?_ ?_; rotate_left; (· intro w hSw; (try dsimp only at hSw); obtain ⟨⟨ea0, ea1, ea2, _, _, _⟩, ⟨ec0, ec1, ec2, _, _, _⟩⟩ := hSw; go_simp; all_goals with_reducible rfl); (try simp only [Act.put, List.setIfInBounds_toArray, List.set_cons_zero, List.set_cons_succ])) | (refine seq_leave (by rfl) ?_; (try simp only [Act.put, List.setIfInBounds_toArray, List.set_cons_zero, List.set_cons_succ])))
   refine seq_end ?_
   have hq : qcmp a c = -cmpI (a.num.natAbs * c.den) (c.num.natAbs * a.den) := by rw [← qcmp_nn HaS.out.symm HcS.out.symm, cmpI_neg]
   have hcs := cmpI_cases (a.num.natAbs * c.den) (c.num.natAbs * a.den)
   generalize cmpI (a.num.natAbs * c.den) (c.num.natAbs * a.den) = c9 at *
   have HQ := Lib.hid hq; clear hq
   have HC9 := Lib.hid hcs; clear hcs
   rcases HC9.out with rfl | rfl | rfl
   all_goals
    have ea0 := hba.c0
    have ea1 := hba.c1
    have ea2 := hba.c2
    go_wp2_with fail
    go_ret
    exact ⟨ret_one (by rw [HQ.out]; rfl), hbf⟩
set_option maxHeartbeats 1000000 in
theorem rqadd_any (va vc : Value) (a c : Rat) (i j : Nat) (w : World) (ha : RQIs w va a) (hc : RQIs w vc c) (hla : QB a i) (hlc : QB c j) (hij : i + j ≤ 90000) :
  Calls Tryz.prog 17 #[va, vc] w (RQPost w (a + c)) := by
 obtain ⟨aB, axO, axL, axC, ayO, ayL, ayC, rfl, hS, hax, hay⟩ := ha.form
 have HaS := Lib.hid hS; clear hS
 obtain ⟨cB, cxO, cxL, cxC, cyO, cyL, cyC, rfl, hS, hcx, hcy⟩ := hc.form
 have HcS := Lib.hid hS; clear hS
 obtain ⟨w0, hw0⟩ : ∃ w0, w0 = (((w.alloc (.cells #[.bool aB, .slice axO axL axC, .slice ayO ayL ayC] 44)).alloc (.cells #[.bool cB, .slice cxO cxL cxC, .slice cyO cyL cyC] 44)).alloc (.cells #[.bool false, .slice none 0 0, .slice none 0 0] 44)) := ⟨_, rfl⟩
 have hbf : Below w.heap.size w w0 := by rw [hw0]; exact ((((Below.refl _ w).alloc (Nat.le_refl _) _).alloc (by simp <;> omega) _).alloc (by simp <;> omega) _)
 obtain ⟨pa, hpa⟩ : ∃ p, p = w.heap.size := ⟨_, rfl⟩
 have hba : Box3 w0 pa (Value.bool aB) (Value.slice axO axL axC) (Value.slice ayO ayL ayC) := by rw [hw0, hpa]; exact ⟨by go_simp, by go_simp, by go_simp, by go_simp, by go_simp, by go_simp⟩
 obtain ⟨pc, hpc⟩ : ∃ p, p = w.heap.size + 1 := ⟨_, rfl⟩
 have hbc : Box3 w0 pc (Value.bool cB) (Value.slice cxO cxL cxC) (Value.slice cyO cyL cyC) := by rw [hw0, hpc]; exact ⟨by go_simp, by go_simp, by go_simp, by go_simp, by go_simp, by go_simp⟩
 obtain ⟨pr, hpr⟩ : ∃ p, p = w.heap.size + 1 + 1 := ⟨_, rfl⟩
 have hbr : Box3 w0 pr (Value.bool false) (Value.slice none 0 0) (Value.slice none 0 0) := by rw [hw0, hpr]; exact ⟨by go_simp, by go_simp, by go_simp, by go_simp, by go_simp, by go_simp⟩
 have HP : Hid (w.heap.size ≤ pa ∧ pa < pc ∧ pc < pr) := Lib.hid (by omega)
 replace ha := ha.below hbf
 replace hc := hc.below hbf
 replace hax := hax.below hbf
 replace hay := hay.below hbf
 replace hcx := hcx.below hbf
 replace hcy := hcy.below hbf
 have HW := Lib.hid hw0; clear hw0
 go_enter Tryz.func17, Tryz.ntmps17
 go_upto_region 1 with fail
 rw [← HW.out, ← hpr, ← hpc, ← hpa]
 clear hpa hpc hpr HW
 have hra1 := rlimbs_of_limbs hla.1
 have hra2 := rlimbs_of_limbs hla.2
 have hrc1 := rlimbs_of_limbs hlc.1
 have hrc2 := rlimbs_of_limbs hlc.2
 have hl1 := rlimbs_of_limbs (limbs_mul hla.1 hlc.2)
 have hl2 := rlimbs_of_limbs (limbs_mul hlc.1 hla.2)
 have hl3 := rlimbs_of_limbs (limbs_mul hla.2 hlc.2)
 rw [Nat.add_comm j i] at hl2
 have hl4 := rlimbs_add hl1 hl2
 have HPD : Hid (0 < a.den * c.den) := Lib.hid (Nat.mul_pos a.den_pos c.den_pos)
 refine wp_region_seq (S := fun w' => Box3 w' pa (Value.bool aB) (Value.slice axO axL axC) (Value.slice ayO ayL ayC) ∧ Box3 w' pc (Value.bool cB) (Value.slice cxO cxL cxC) (Value.slice cyO cyL cyC)) [(true, 0), (true, 1), (true, 2), (true, 3), (true, 5), (true, 6), (true, 7), (true, 8), (true, 10), (true, 11), (true, 12), (true, 13), (false, 4), (false, 9), (false, 14), (true, 15), (true, 16), (true, 17)] (by kernel_rfl) (by kernel_rfl) (by kernel_rfl) (by kernel_rfl) (by kernel_rfl) (fun d _ _ _ _ h => by cases d <;> exact h) ⟨hba.drew, hbc.drew⟩ (fun _ => ?_)
 simp only [pickOps, List.append_eq, List.cons_append, List.nil_append, List.getElem?_toArray, List.getElem?_cons_succ, List.getElem?_cons_zero]
 have hb : Below w0.heap.size w0 w0.drew := (Below.refl _ _).drew
 generalize w0.drew = w1 at hb ⊢
 replace hba := hba.kept hb
 replace hbc := hbc.kept hb
 replace hbr := hbr.kept hb
 replace ha := ha.below hb
 replace hc := hc.below hb
 replace hax := hax.below hb
 replace hay := hay.below hb
 replace hcx := hcx.below hb
 replace hcy := hcy.below hb
 replace hbf := hbf.trans (hb.mono hbf.size)
 clear hb
 repeat (first | (refine seq_take (v := ?_) (by rfl) ?_ ?_; rotate_left; (· intro w hSw; (try dsimp only at hSw); obtain ⟨⟨ea0, ea1, ea2, _, _, _⟩, ⟨ec0, ec1, ec2, _, _, _⟩⟩ := hSw; go_simp; all_goals with_reducible rfl); (try simp only [Act.put, List.setIfInBounds_toArray, List.set_cons_zero, List.set_cons_succ])) | (refine seq_leave (by rfl) ?_; (try simp only [Act.put, List.setIfInBounds_toArray, List.set_cons_zero, List.set_cons_succ])))
 refine seq_step (by rfl) (fun K hK => ?_)
 go_simp
 go_at_call 49
 (with_reducible refine (rmul_any _ _ a.num.natAbs c.den _ hax hcy (by omega) (by omega)).mono ?_)
 rintro e w2 ⟨r9, rfl, hx, hb⟩
 obtain ⟨xO, xL, xC, rfl⟩ := hx.form
 replace hba := hba.kept hb
 replace hbc := hbc.kept hb
 replace hbr := hbr.kept hb
 replace ha := ha.below hb
 replace hc := hc.below hb
 replace hax := hax.below hb
 replace hay := hay.below hb
 replace hcx := hcx.below hb
 replace hcy := hcy.below hb
 replace hbf := hbf.trans (hb.mono hbf.size)
 clear hb
 first | refine hK.out _ _ ⟨hba, hbc⟩ (fun _ => ?_) | (go_wp2_with fail; refine hK.out _ _ ⟨hba, hbc⟩ (fun _ => ?_))
 clear hK K
 (try simp only [Act.put, List.setIfInBounds_toArray, List.set_cons_zero, List.set_cons_succ])
 refine seq_step (by rfl) (fun K hK => ?_)
 go_simp
 go_at_call 49
 (with_reducible refine (rmul_any _ _ c.num.natAbs a.den _ hcx hay (by omega) (by omega)).mono ?_)
 rintro e w3 ⟨r9, rfl, hy, hb⟩
 obtain ⟨yO, yL, yC, rfl⟩ := hy.form
 replace hba := hba.kept hb
 replace hbc := hbc.kept hb
 replace hbr := hbr.kept hb
 replace ha := ha.below hb
 replace hc := hc.below hb
 replace hax := hax.below hb
 replace hay := hay.below hb
 replace hcx := hcx.below hb
 replace hcy := hcy.below hb
 replace hx := hx.below hb
 replace hbf := hbf.trans (hb.mono hbf.size)
 clear hb
 first | refine hK.out _ _ ⟨hba, hbc⟩ (fun _ => ?_) | (go_wp2_with fail; refine hK.out _ _ ⟨hba, hbc⟩ (fun _ => ?_))
 clear hK K
 (try simp only [Act.put, List.setIfInBounds_toArray, List.set_cons_zero, List.set_cons_succ])
 refine seq_step (by rfl) (fun K hK => ?_)
 go_simp
 go_at_call 49
 (with_reducible refine (rmul_any _ _ a.den c.den _ hay hcy (by omega) (by omega)).mono ?_)
 rintro e w4 ⟨r9, rfl, hm, hb⟩
 obtain ⟨mO, mL, mC, rfl⟩ := hm.form
 replace hba := hba.kept hb
 replace hbc := hbc.kept hb
 replace hbr := hbr.kept hb
 replace ha := ha.below hb
 replace hc := hc.below hb
 replace hax := hax.below hb
 replace hay := hay.below hb
 replace hcx := hcx.below hb
 replace hcy := hcy.below hb
 replace hx := hx.below hb
 replace hy := hy.below hb
 replace hbf := hbf.trans (hb.mono hbf.size)
 clear hb
 first | refine hK.out _ _ ⟨hba, hbc⟩ (fun _ => ?_) | (go_wp2_with fail; refine hK.out _ _ ⟨hba, hbc⟩ (fun _ => ?_))
 clear hK K
 (try simp only [Act.put, List.setIfInBounds_toArray, List.set_cons_zero, List.set_cons_succ])
 repeat (first | (refine seq_take (v := ?_) (by rfl) ?_ ?_; rotate_left; (· intro w hSw; (try dsimp only at hSw); obtain ⟨⟨ea0, ea1, ea2, _, _, _⟩, ⟨ec0, ec1, ec2, _, _, _⟩⟩ := hSw; go_simp; all_goals with_reducible rfl); (try simp only [Act.put, List.setIfInBounds_toArray, List.set_cons_zero, List.set_cons_succ])) | (refine seq_leave (by rfl) ?_; (try simp only [Act.put, List.setIfInBounds_toArray, List.set_cons_zero, List.set_cons_succ])))
 refine seq_end ?_
 by_cases hs : aB = cB
 case pos =>
  subst hs
  have ea0 := hba.c0
  have ea1 := hba.c1
  have ea2 := hba.c2
  have ec0 := hbc.c0
  have ec1 := hbc.c1
  have ec2 := hbc.c2
  go_upto_region 3 with fail
  clear ea0 ea1 ea2 ec0 ec1 ec2
  refine wp_region_seq (S := fun w' => Box3 w' pa (Value.bool aB) (Value.slice axO axL axC) (Value.slice ayO ayL ayC)) [(true, 0), (true, 1), (true, 2), (true, 3), (true, 5), (false, 4), (false, 6), (false, 7)] (by kernel_rfl) (by kernel_rfl) (by kernel_rfl) (by kernel_rfl) (by kernel_rfl) (fun d _ _ _ _ h => by cases d <;> exact h) hba.drew (fun _ => ?_)
  simp only [pickOps, List.append_eq, List.cons_append, List.nil_append, List.getElem?_toArray, List.getElem?_cons_succ, List.getElem?_cons_zero]
  have hb : Below w4.heap.size w4 w4.drew := (Below.refl _ _).drew
  generalize w4.drew = w5 at hb ⊢
  replace hba := hba.kept hb
  replace hbc := hbc.kept hb
  replace hbr := hbr.kept hb
  replace ha := ha.below hb
  replace hc := hc.below hb
  replace hax := hax.below hb
  replace hay := hay.below hb
  replace hcx := hcx.below hb
  replace hcy := hcy.below hb
  replace hx := hx.below hb
  replace hy := hy.below hb
  replace hm := hm.below hb
  replace hbf := hbf.trans (hb.mono hbf.size)
  clear hb
  repeat (first | (refine seq_take (v := ?_) (by rfl) ?_ ?_; rotate_left; (· intro w hSw; (try dsimp only at hSw); obtain ⟨ea0, ea1, ea2, _, _, _⟩ := hSw; go_simp; all_goals with_reducible rfl); (try simp only [Act.put, List.setIfInBounds_toArray, List.set_cons_zero, List.set_cons_succ])) | (refine seq_leave (by rfl) ?_; (try simp only [Act.put, List.setIfInBounds_toArray, List.set_cons_zero, List.set_cons_succ])))
  refine seq_step (by rfl) (fun K hK => ?_)
  go_simp
  go_at_call 54
  (with_reducible refine (radd_any _ _ _ _ _ hx hy (by omega) (by omega)).mono ?_)
  rintro e w6 ⟨r9, rfl, hz, hb⟩
  obtain ⟨zO, zL, zC, rfl⟩ := hz.form
  replace hba := hba.kept hb
  replace hbc := hbc.kept hb
  replace hbr := hbr.kept hb
  replace ha := ha.below hb
  replace hc := hc.below hb
  replace hax := hax.below hb
  replace hay := hay.below hb
  replace hcx := hcx.below hb
  replace hcy := hcy.below hb
  replace hx := hx.below hb
  replace hy := hy.below hb
  replace hm := hm.below hb
  replace hbf := hbf.trans (hb.mono hbf.size)
  clear hb
  first | refine hK.out _ _ hba (fun _ => ?_) | (go_wp2_with fail; refine hK.out _ _ hba (fun _ => ?_))
  clear hK K
  (try simp only [Act.put, List.setIfInBounds_toArray, List.set_cons_zero, List.set_cons_succ])
  refine seq_step (by rfl) (fun K hK => ?_)
  go_simp
  go_at_call 48
  (with_reducible refine (rmake_any _ _ _ _ _ _ hz hm (by omega) (by omega) HPD.out).mono ?_)
  rintro e w7 hq9
  obtain ⟨qB, qxO, qxL, qxC, qyO, qyL, qyC, rfl, hS, hqx, hqy, hq, hb⟩ := hq9.out
  have HqS := Lib.hid hS; clear hS
  replace hba := hba.kept hb
  replace hbc := hbc.kept hb
  replace hbr := hbr.kept hb
  replace ha := ha.below hb
  replace hc := hc.below hb
  replace hax := hax.below hb
  replace hay := hay.below hb
  replace hcx := hcx.below hb
  replace hcy := hcy.below hb
  replace hx := hx.below hb
  replace hy := hy.below hb
  replace hm := hm.below hb
  replace hz := hz.below hb
  replace hbf := hbf.trans (hb.mono hbf.size)
  clear hb
  first | refine hK.out _ _ hba (fun _ => ?_) | (go_wp2_with fail; refine hK.out _ _ hba (fun _ => ?_))
  clear hK K
  (try simp only [Act.put, List.setIfInBounds_toArray, List.set_cons_zero, List.set_cons_succ])
  refine seq_step (by rfl) (fun K hK => ?_)
  have er0 := hbr.c0
  have fr0 := hbr.f0
  have er1 := hbr.c1
  have fr1 := hbr.f1
  have er2 := hbr.c2
  have fr2 := hbr.f2
  go_simp
  clear er0 fr0 er1 fr1 er2 fr2
  obtain ⟨w8, hwE⟩ : ∃ W, W = ((w7.setCell ⟨pr, 0, none⟩ (Value.bool qB)).setCell ⟨pr, 1, none⟩ (Value.slice qxO qxL qxC)).setCell ⟨pr, 2, none⟩ (Value.slice qyO qyL qyC) := ⟨_, rfl⟩
  rw [← hwE]
  replace ha := ha.set3 (u0 := (Value.bool qB)) (u1 := (Value.slice qxO qxL qxC)) (u2 := (Value.slice qyO qyL qyC)) hbr; rw [← hwE] at ha
  replace hc := hc.set3 (u0 := (Value.bool qB)) (u1 := (Value.slice qxO qxL qxC)) (u2 := (Value.slice qyO qyL qyC)) hbr; rw [← hwE] at hc
  replace hax := hax.set3 (u0 := (Value.bool qB)) (u1 := (Value.slice qxO qxL qxC)) (u2 := (Value.slice qyO qyL qyC)) hbr; rw [← hwE] at hax
  replace hay := hay.set3 (u0 := (Value.bool qB)) (u1 := (Value.slice qxO qxL qxC)) (u2 := (Value.slice qyO qyL qyC)) hbr; rw [← hwE] at hay
  replace hcx := hcx.set3 (u0 := (Value.bool qB)) (u1 := (Value.slice qxO qxL qxC)) (u2 := (Value.slice qyO qyL qyC)) hbr; rw [← hwE] at hcx
  replace hcy := hcy.set3 (u0 := (Value.bool qB)) (u1 := (Value.slice qxO qxL qxC)) (u2 := (Value.slice qyO qyL qyC)) hbr; rw [← hwE] at hcy
  replace hx := hx.set3 (u0 := (Value.bool qB)) (u1 := (Value.slice qxO qxL qxC)) (u2 := (Value.slice qyO qyL qyC)) hbr; rw [← hwE] at hx
  replace hy := hy.set3 (u0 := (Value.bool qB)) (u1 := (Value.slice qxO qxL qxC)) (u2 := (Value.slice qyO qyL qyC)) hbr; rw [← hwE] at hy
  replace hm := hm.set3 (u0 := (Value.bool qB)) (u1 := (Value.slice qxO qxL qxC)) (u2 := (Value.slice qyO qyL qyC)) hbr; rw [← hwE] at hm
  replace hz := hz.set3 (u0 := (Value.bool qB)) (u1 := (Value.slice qxO qxL qxC)) (u2 := (Value.slice qyO qyL qyC)) hbr; rw [← hwE] at hz
  replace hqx := hqx.set3 (u0 := (Value.bool qB)) (u1 := (Value.slice qxO qxL qxC)) (u2 := (Value.slice qyO qyL qyC)) hbr; rw [← hwE] at hqx
  replace hqy := hqy.set3 (u0 := (Value.bool qB)) (u1 := (Value.slice qxO qxL qxC)) (u2 := (Value.slice qyO qyL qyC)) hbr; rw [← hwE] at hqy
  replace hq := hq.set3 (u0 := (Value.bool qB)) (u1 := (Value.slice qxO qxL qxC)) (u2 := (Value.slice qyO qyL qyC)) hbr; rw [← hwE] at hq
  replace hba := hba.set3o (u0 := (Value.bool qB)) (u1 := (Value.slice qxO qxL qxC)) (u2 := (Value.slice qyO qyL qyC)) (show pa ≠ pr by have := HP.out; omega); rw [← hwE] at hba
  replace hbc := hbc.set3o (u0 := (Value.bool qB)) (u1 := (Value.slice qxO qxL qxC)) (u2 := (Value.slice qyO qyL qyC)) (show pc ≠ pr by have := HP.out; omega); rw [← hwE] at hbc
  replace hbf := below_set3 (u0 := (Value.bool qB)) (u1 := (Value.slice qxO qxL qxC)) (u2 := (Value.slice qyO qyL qyC)) hbf (show w.heap.size ≤ pr by have := HP.out; omega); rw [← hwE] at hbf
  replace hbr := hbr.set3 (u0 := (Value.bool qB)) (u1 := (Value.slice qxO qxL qxC)) (u2 := (Value.slice qyO qyL qyC)); rw [← hwE] at hbr; clear hwE
  first | refine hK.out _ _ hba (fun _ => ?_) | (go_wp2_with fail; refine hK.out _ _ hba (fun _ => ?_))
  clear hK K
  (try simp only [Act.put, List.setIfInBounds_toArray, List.set_cons_zero, List.set_cons_succ])
  refine seq_end ?_
  rw [qadd_same HaS.out.symm HcS.out.symm] at hq
  go_wp2_with fail
  exact ret_rrat rfl rfl hbr rfl ⟨_, rfl, hq, hbf⟩
 have hsb : (aB == cB) = false := by cases aB <;> cases cB <;> first | rfl | exact (hs rfl).elim
 have HSN : Hid (decide (a < 0) ≠ decide (c < 0)) := Lib.hid (by rw [← HaS.out, ← HcS.out]; exact hs)
 clear hs
 have ea0 := hba.c0
 have ea1 := hba.c1
 have ea2 := hba.c2
 have ec0 := hbc.c0
 have ec1 := hbc.c1
 have ec2 := hbc.c2
 go_wp2_with fail
 refine (rcmp_any _ _ _ _ _ hx hy).mono ?_
 rintro e w5 ⟨rfl, hb⟩
 clear ea0 ea1 ea2 ec0 ec1 ec2
 replace hba := hba.kept hb
 replace hbc := hbc.kept hb
 replace hbr := hbr.kept hb
 replace ha := ha.below hb
 replace hc := hc.below hb
 replace hax := hax.below hb
 replace hay := hay.below hb
 replace hcx := hcx.below hb
 replace hcy := hcy.below hb
 replace hx := hx.below hb
 replace hy := hy.below hb
 replace hm := hm.below hb
 replace hbf := hbf.trans (hb.mono hbf.size)
 clear hb
 have hcg := cmpI_ge (a.num.natAbs * c.den) (c.num.natAbs * a.den)
 generalize cmpI (a.num.natAbs * c.den) (c.num.natAbs * a.den) = c9 at *
 by_cases hle : c.num.natAbs * a.den ≤ a.num.natAbs * c.den
 case pos =>
  have hge : (0 : Int) ≤ c9 := hcg.2 hle
  have HLE := Lib.hid hle; clear hle hcg
  go_upto_region 5 with fail
  refine wp_region_seq (S := fun w' => Box3 w' pa (Value.bool aB) (Value.slice axO axL axC) (Value.slice ayO ayL ayC)) [(true, 0), (true, 1), (true, 2), (true, 3), (true, 5), (false, 4), (false, 6), (false, 7)] (by kernel_rfl) (by kernel_rfl) (by kernel_rfl) (by kernel_rfl) (by kernel_rfl) (fun d _ _ _ _ h => by cases d <;> exact h) hba.drew (fun _ => ?_)
  simp only [pickOps, List.append_eq, List.cons_append, List.nil_append, List.getElem?_toArray, List.getElem?_cons_succ, List.getElem?_cons_zero]
  have hb : Below w5.heap.size w5 w5.drew := (Below.refl _ _).drew
  generalize w5.drew = w6 at hb ⊢
  replace hba := hba.kept hb
  replace hbc := hbc.kept hb
  replace hbr := hbr.kept hb
  replace ha := ha.below hb
  replace hc := hc.below hb
  replace hax := hax.below hb
  replace hay := hay.below hb
  replace hcx := hcx.below hb
  replace hcy := hcy.below hb
  replace hx := hx.below hb
  replace hy := hy.below hb
  replace hm := hm.below hb
  replace hbf := hbf.trans (hb.mono hbf.size)
  clear hb
  repeat (first | (refine seq_take (v := ?_) (by rfl) ?_ ?_; rotate_left; (· intro w hSw; (try dsimp only at hSw); obtain ⟨ea0, ea1, ea2, _, _, _⟩ := hSw; go_simp; all_goals with_reducible rfl); (try simp only [Act.put, List.setIfInBounds_toArray, List.set_cons_zero, List.set_cons_succ])) | (refine seq_leave (by rfl) ?_; (try simp only [Act.put, List.setIfInBounds_toArray, List.set_cons_zero, List.set_cons_succ])))
  refine seq_step (by rfl) (fun K hK => ?_)
  go_simp
  go_at_call 55
  (with_reducible refine (rsub_any _ _ _ _ _ hx hy (by omega) HLE.out).mono ?_)
  rintro e w7 ⟨r9, rfl, hz, hb⟩
  obtain ⟨zO, zL, zC, rfl⟩ := hz.form
  replace hba := hba.kept hb
  replace hbc := hbc.kept hb
  replace hbr := hbr.kept hb
  replace ha := ha.below hb
  replace hc := hc.below hb
  replace hax := hax.below hb
  replace hay := hay.below hb
  replace hcx := hcx.below hb
  replace hcy := hcy.below hb
  replace hx := hx.below hb
  replace hy := hy.below hb
  replace hm := hm.below hb
  replace hbf := hbf.trans (hb.mono hbf.size)
  clear hb
  first | refine hK.out _ _ hba (fun _ => ?_) | (go_wp2_with fail; refine hK.out _ _ hba (fun _ => ?_))
  clear hK K
  (try simp only [Act.put, List.setIfInBounds_toArray, List.set_cons_zero, List.set_cons_succ])
  refine seq_step (by rfl) (fun K hK => ?_)
  go_simp
  go_at_call 48
  (with_reducible refine (rmake_any _ _ _ _ _ _ hz hm (rlimbs_mono (Nat.sub_le _ _) (by omega)) (by omega) HPD.out).mono ?_)
  rintro e w8 hq9
  obtain ⟨qB, qxO, qxL, qxC, qyO, qyL, qyC, rfl, hS, hqx, hqy, hq, hb⟩ := hq9.out
  have HqS := Lib.hid hS; clear hS
  replace hba := hba.kept hb
  replace hbc := hbc.kept hb
  replace hbr := hbr.kept hb
  replace ha := ha.below hb
  replace hc := hc.below hb
  replace hax := hax.below hb
  replace hay := hay.below hb
  replace hcx := hcx.below hb
  replace hcy := hcy.below hb
  replace hx := hx.below hb
  replace hy := hy.below hb
  replace hm := hm.below hb
  replace hz := hz.below hb
  replace hbf := hbf.trans (hb.mono hbf.size)
  clear hb
  first | refine hK.out _ _ hba (fun _ => ?_) | (go_wp2_with fail; refine hK.out _ _ hba (fun _ => ?_))
  clear hK K
  (try simp only [Act.put, List.setIfInBounds_toArray, List.set_cons_zero, List.set_cons_succ])
  refine seq_step (by rfl) (fun K hK => ?_)
  have er0 := hbr.c0
  have fr0 := hbr.f0
  have er1 := hbr.c1
  have fr1 := hbr.f1
  have er2 := hbr.c2
  have fr2 := hbr.f2
  go_simp
  clear er0 fr0 er1 fr1 er2 fr2
  obtain ⟨w9, hwE⟩ : ∃ W, W = ((w8.setCell ⟨pr, 0, none⟩ (Value.bool qB)).setCell ⟨pr, 1, none⟩ (Value.slice qxO qxL qxC)).setCell ⟨pr, 2, none⟩ (Value.slice qyO qyL qyC) := ⟨_, rfl⟩
  rw [← hwE]
  replace ha := ha.set3 (u0 := (Value.bool qB)) (u1 := (Value.slice qxO qxL qxC)) (u2 := (Value.slice qyO qyL qyC)) hbr; rw [← hwE] at ha
  replace hc := hc.set3 (u0 := (Value.bool qB)) (u1 := (Value.slice qxO qxL qxC)) (u2 := (Value.slice qyO qyL qyC)) hbr; rw [← hwE] at hc
  replace hax := hax.set3 (u0 := (Value.bool qB)) (u1 := (Value.slice qxO qxL qxC)) (u2 := (Value.slice qyO qyL qyC)) hbr; rw [← hwE] at hax
  replace hay := hay.set3 (u0 := (Value.bool qB)) (u1 := (Value.slice qxO qxL qxC)) (u2 := (Value.slice qyO qyL qyC)) hbr; rw [← hwE] at hay
  replace hcx := hcx.set3 (u0 := (Value.bool qB)) (u1 := (Value.slice qxO qxL qxC)) (u2 := (Value.slice qyO qyL qyC)) hbr; rw [← hwE] at hcx
  replace hcy := hcy.set3 (u0 := (Value.bool qB)) (u1 := (Value.slice qxO qxL qxC)) (u2 := (Value.slice qyO qyL qyC)) hbr; rw [← hwE] at hcy
  replace hx := hx.set3 (u0 := (Value.bool qB)) (u1 := (Value.slice qxO qxL qxC)) (u2 := (Value.slice qyO qyL qyC)) hbr; rw [← hwE] at hx
  replace hy := hy.set3 (u0 := (Value.bool qB)) (u1 := (Value.slice qxO qxL qxC)) (u2 := (Value.slice qyO qyL qyC)) hbr; rw [← hwE] at hy
  replace hm := hm.set3 (u0 := (Value.bool qB)) (u1 := (Value.slice qxO qxL qxC)) (u2 := (Value.slice qyO qyL qyC)) hbr; rw [← hwE] at hm
  replace hz := hz.set3 (u0 := (Value.bool qB)) (u1 := (Value.slice qxO qxL qxC)) (u2 := (Value.slice qyO qyL qyC)) hbr; rw [← hwE] at hz
  replace hqx := hqx.set3 (u0 := (Value.bool qB)) (u1 := (Value.slice qxO qxL qxC)) (u2 := (Value.slice qyO qyL qyC)) hbr; rw [← hwE] at hqx
  replace hqy := hqy.set3 (u0 := (Value.bool qB)) (u1 := (Value.slice qxO qxL qxC)) (u2 := (Value.slice qyO qyL qyC)) hbr; rw [← hwE] at hqy
  replace hq := hq.set3 (u0 := (Value.bool qB)) (u1 := (Value.slice qxO qxL qxC)) (u2 := (Value.slice qyO qyL qyC)) hbr; rw [← hwE] at hq
  replace hba := hba.set3o (u0 := (Value.bool qB)) (u1 := (Value.slice qxO qxL qxC)) (u2 := (Value.slice qyO qyL qyC)) (show pa ≠ pr by have := HP.out; omega); rw [← hwE] at hba
  replace hbc := hbc.set3o (u0 := (Value.bool qB)) (u1 := (Value.slice qxO qxL qxC)) (u2 := (Value.slice qyO qyL qyC)) (show pc ≠ pr by have := HP.out; omega); rw [← hwE] at hbc
  replace hbf := below_set3 (u0 := (Value.bool qB)) (u1 := (Value.slice qxO qxL qxC)) (u2 := (Value.slice qyO qyL qyC)) hbf (show w.heap.size ≤ pr by have := HP.out; omega); rw [← hwE] at hbf
  replace hbr := hbr.set3 (u0 := (Value.bool qB)) (u1 := (Value.slice qxO qxL qxC)) (u2 := (Value.slice qyO qyL qyC)); rw [← hwE] at hbr; clear hwE
  first | refine hK.out _ _ hba (fun _ => ?_) | (go_wp2_with fail; refine hK.out _ _ hba (fun _ => ?_))
  clear hK K
  (try simp only [Act.put, List.setIfInBounds_toArray, List.set_cons_zero, List.set_cons_succ])
  refine seq_end ?_
  rw [HaS.out, qadd_more HSN.out HLE.out] at hq
  go_wp2_with fail
  exact ret_rrat rfl rfl hbr rfl ⟨_, rfl, hq, hbf⟩
 have hge : ¬ (0 : Int) ≤ c9 := fun h => hle (hcg.1 h)
 have hge2 : c9 < 0 := by omega
 have HLE : Hid (a.num.natAbs * c.den ≤ c.num.natAbs * a.den) := Lib.hid (by omega)
 clear hle hcg
 go_upto_region 6 with fail
 refine wp_region_seq (S := fun w' => Box3 w' pc (Value.bool cB) (Value.slice cxO cxL cxC) (Value.slice cyO cyL cyC)) [(true, 0), (true, 1), (true, 2), (true, 3), (true, 5), (false, 4), (false, 6), (false, 7)] (by kernel_rfl) (by kernel_rfl) (by kernel_rfl) (by kernel_rfl) (by kernel_rfl) (fun d _ _ _ _ h => by cases d <;> exact h) hbc.drew (fun _ => ?_)
 simp only [pickOps, List.append_eq, List.cons_append, List.nil_append, List.getElem?_toArray, List.getElem?_cons_succ, List.getElem?_cons_zero]
 have hb : Below w5.heap.size w5 w5.drew := (Below.refl _ _).drew
 generalize w5.drew = w6 at hb ⊢
 replace hba := hba.kept hb
 replace hbc := hbc.kept hb
 replace hbr := hbr.kept hb
 replace ha := ha.below hb
 replace hc := hc.below hb
 replace hax := hax.below hb
 replace hay := hay.below hb
 replace hcx := hcx.below hb
 replace hcy := hcy.below hb
 replace hx := hx.below hb
 replace hy := hy.below hb
 replace hm := hm.below hb
 replace hbf := hbf.trans (hb.mono hbf.size)
 clear hb
 repeat (first | (refine seq_take (v := ?_) (by rfl) ?_ ?_; rotate_left; (· intro w hSw; (try dsimp only at hSw); obtain ⟨ec0, ec1, ec2, _, _, _⟩ := hSw; go_simp; all_goals with_reducible rfl); (try simp only [Act.put, List.setIfInBounds_toArray, List.set_cons_zero, List.set_cons_succ])) | (refine seq_leave (by rfl) ?_; (try simp only [Act.put, List.setIfInBounds_toArray, List.set_cons_zero, List.set_cons_succ])))
 refine seq_step (by rfl) (fun K hK => ?_)
 go_simp
 go_at_call 55
 (with_reducible refine (rsub_any _ _ _ _ _ hy hx (by omega) HLE.out).mono ?_)
 rintro e w7 ⟨r9, rfl, hz, hb⟩
 obtain ⟨zO, zL, zC, rfl⟩ := hz.form
 replace hba := hba.kept hb
 replace hbc := hbc.kept hb
 replace hbr := hbr.kept hb
 replace ha := ha.below hb
 replace hc := hc.below hb
 replace hax := hax.below hb
 replace hay := hay.below hb
 replace hcx := hcx.below hb
 replace hcy := hcy.below hb
 replace hx := hx.below hb
 replace hy := hy.below hb
 replace hm := hm.below hb
 replace hbf := hbf.trans (hb.mono hbf.size)
 clear hb
 first | refine hK.out _ _ hbc (fun _ => ?_) | (go_wp2_with fail; refine hK.out _ _ hbc (fun _ => ?_))
 clear hK K
 (try simp only [Act.put, List.setIfInBounds_toArray, List.set_cons_zero, List.set_cons_succ])
 refine seq_step (by rfl) (fun K hK => ?_)
 go_simp
 go_at_call 48
 (with_reducible refine (rmake_any _ _ _ _ _ _ hz hm (rlimbs_mono (Nat.sub_le _ _) (by omega)) (by omega) HPD.out).mono ?_)
 rintro e w8 hq9
 obtain ⟨qB, qxO, qxL, qxC, qyO, qyL, qyC, rfl, hS, hqx, hqy, hq, hb⟩ := hq9.out
 have HqS := Lib.hid hS; clear hS
 replace hba := hba.kept hb
 replace hbc := hbc.kept hb
 replace hbr := hbr.kept hb
 replace ha := ha.below hb
 replace hc := hc.below hb
 replace hax := hax.below hb
 replace hay := hay.below hb
 replace hcx := hcx.below hb
 replace hcy := hcy.below hb
 replace hx := hx.below hb
 replace hy := hy.below hb
 replace hm := hm.below hb
 replace hz := hz.below hb
 replace hbf := hbf.trans (hb.mono hbf.size)
 clear hb
 first | refine hK.out _ _ hbc (fun _ => ?_) | (go_wp2_with fail; refine hK.out _ _ hbc (fun _ => ?_))
 clear hK K
 (try simp only [Act.put, List.setIfInBounds_toArray, List.set_cons_zero, List.set_cons_succ])
 refine seq_step (by rfl) (fun K hK => ?_)
 have er0 := hbr.c0
 have fr0 := hbr.f0
 have er1 := hbr.c1
 have fr1 := hbr.f1
 have er2 := hbr.c2
 have fr2 := hbr.f2
 go_simp
 clear er0 fr0 er1 fr1 er2 fr2
 obtain ⟨w9, hwE⟩ : ∃ W, W = ((w8.setCell ⟨pr, 0, none⟩ (Value.bool qB)).setCell ⟨pr, 1, none⟩ (Value.slice qxO qxL qxC)).setCell ⟨pr, 2, none⟩ (Value.slice qyO qyL qyC) := ⟨_, rfl⟩
 rw [← hwE]
 replace ha := ha.set3 (u0 := (Value.bool qB)) (u1 := (Value.slice qxO qxL qxC)) (u2 := (Value.slice qyO qyL qyC)) hbr; rw [← hwE] at ha
 replace hc := hc.set3 (u0 := (Value.bool qB)) (u1 := (Value.slice qxO qxL qxC)) (u2 := (Value.slice qyO qyL qyC)) hbr; rw [← hwE] at hc
 replace hax := hax.set3 (u0 := (Value.bool qB)) (u1 := (Value.slice qxO qxL qxC)) (u2 := (Value.slice qyO qyL qyC)) hbr; rw [← hwE] at hax
 replace hay := hay.set3 (u0 := (Value.bool qB)) (u1 := (Value.slice qxO qxL qxC)) (u2 := (Value.slice qyO qyL qyC)) hbr; rw [← hwE] at hay
 replace hcx := hcx.set3 (u0 := (Value.bool qB)) (u1 := (Value.slice qxO qxL qxC)) (u2 := (Value.slice qyO qyL qyC)) hbr; rw [← hwE] at hcx
 replace hcy := hcy.set3 (u0 := (Value.bool qB)) (u1 := (Value.slice qxO qxL qxC)) (u2 := (Value.slice qyO qyL qyC)) hbr; rw [← hwE] at hcy
 replace hx := hx.set3 (u0 := (Value.bool qB)) (u1 := (Value.slice qxO qxL qxC)) (u2 := (Value.slice qyO qyL qyC)) hbr; rw [← hwE] at hx
 replace hy := hy.set3 (u0 := (Value.bool qB)) (u1 := (Value.slice qxO qxL qxC)) (u2 := (Value.slice qyO qyL qyC)) hbr; rw [← hwE] at hy
 replace hm := hm.set3 (u0 := (Value.bool qB)) (u1 := (Value.slice qxO qxL qxC)) (u2 := (Value.slice qyO qyL qyC)) hbr; rw [← hwE] at hm
 replace hz := hz.set3 (u0 := (Value.bool qB)) (u1 := (Value.slice qxO qxL qxC)) (u2 := (Value.slice qyO qyL qyC)) hbr; rw [← hwE] at hz
 replace hqx := hqx.set3 (u0 := (Value.bool qB)) (u1 := (Value.slice qxO qxL qxC)) (u2 := (Value.slice qyO qyL qyC)) hbr; rw [← hwE] at hqx
 replace hqy := hqy.set3 (u0 := (Value.bool qB)) (u1 := (Value.slice qxO qxL qxC)) (u2 := (Value.slice qyO qyL qyC)) hbr; rw [← hwE] at hqy
 replace hq := hq.set3 (u0 := (Value.bool qB)) (u1 := (Value.slice qxO qxL qxC)) (u2 := (Value.slice qyO qyL qyC)) hbr; rw [← hwE] at hq
 replace hba := hba.set3o (u0 := (Value.bool qB)) (u1 := (Value.slice qxO qxL qxC)) (u2 := (Value.slice qyO qyL qyC)) (show pa ≠ pr by have := HP.out; omega); rw [← hwE] at hba
 replace hbc := hbc.set3o (u0 := (Value.bool qB)) (u1 := (Value.slice qxO qxL qxC)) (u2 := (Value.slice qyO qyL qyC)) (show pc ≠ pr by have := HP.out; omega); rw [← hwE] at hbc
 replace hbf := below_set3 (u0 := (Value.bool qB)) (u1 := (Value.slice qxO qxL qxC)) (u2 := (Value.slice qyO qyL qyC)) hbf (show w.heap.size ≤ pr by have := HP.out; omega); rw [← hwE] at hbf
 replace hbr := hbr.set3 (u0 := (Value.bool qB)) (u1 := (Value.slice qxO qxL qxC)) (u2 := (Value.slice qyO qyL qyC)); rw [← hwE] at hbr; clear hwE
 first | refine hK.out _ _ hbc (fun _ => ?_) | (go_wp2_with fail; refine hK.out _ _ hbc (fun _ => ?_))
 clear hK K
 (try simp only [Act.put, List.setIfInBounds_toArray, List.set_cons_zero, List.set_cons_succ])
 refine seq_end ?_
 rw [Nat.mul_comm a.den c.den, HcS.out, qadd_more (Ne.symm HSN.out) HLE.out, Rat.add_comm] at hq
 go_wp2_with fail
 exact ret_rrat rfl rfl hbr rfl ⟨_, rfl, hq, hbf⟩
end Go.Proofs.YtieffhkfefimeaaGreatDoor
namespace Go.Proofs.YtieffhkfefimeaaGreatDoor
open Go.RowKit


attribute [local go_sem] field_nat
set_option maxHeartbeats 1000000 in
theorem rof_any (v : Nat) (w : World) (hv : v < 18446744073709551616) :
  Calls Tryz.prog 50 #[.int .u64 (v : Int)] w fun e w' => ∃ r, e = .returned r ∧ RIs w' r v ∧ Below w.heap.size w w' := by
 have hlen : (rlimbs v).length ≤ 5 := rlimbs_length_le (Nat.lt_of_lt_of_le hv (by decide))
 have HL := Lib.hid hlen; clear hlen
 go_enter Tryz.func50, Tryz.ntmps50
 go_wp2_with fail
 go_loopg [0, 3] v (fun gg nv av wr => ∃ (zs : List Nat), gg ≤ v ∧ nv = .int .u64 (gg : Int) ∧ Owns w.heap.size 3 wr av (ints .i64 zs) ∧ rlimbs v = zs ++ rlimbs gg ∧ Below w.heap.size w wr)
 case atStart => exact ⟨[], Nat.le_refl _, rfl, Owns.nil _ _ _, rfl, Below.refl _ _⟩
 case round =>
  obtain ⟨zs, hle, rfl, ho, hz, hbr⟩ := hrel
  have hzl : zs.length ≤ 5 := by have := HL.out; rw [hz] at this; simp at this; omega
  have HZ := Lib.hid hz; clear hz
  have HLE := Lib.hid hle; clear hle
  by_cases h0 : 0 < gk
  ·have hg64 : gk < 18446744073709551616 := by have := HLE.out; omega
   go_wp2_with (at_builtin; refine append1 ER ho rfl rfl rfl rfl rfl (by rw [ints_length]; omega) (by rw [ints_length]; unfold maxLen; omega) hbr.size ?_; intro v5 w5 ho5 hb5 hg5)
   go_roundg (gk / 10000)
   case measure => omega
   case rel =>
    refine ⟨zs ++ [gk % 10000], by have := HLE.out; omega, by go_num, ?_, by rw [HZ.out, rlimbs_pos h0]; simp, hbr.trans hb5⟩
    rw [ints_append]
    refine owns_cast ho5 ?_
    simp [ints]
  ·obtain rfl : gk = 0 := by omega
   have hz2 : rlimbs v = zs := by have := HZ.out; rw [rlimbs_zero] at this; simpa using this
   go_wp2
   go_ret
   exact ⟨_, rfl, by show Ints .i64 _ _ (rlimbs v); rw [hz2]; exact ho.toInts, hbr⟩
end Go.Proofs.YtieffhkfefimeaaGreatDoor
namespace Go.Proofs.YtieffhkfefimeaaGreatDoor
open Go.RowKit


attribute [local go_sem] field_nat
end Go.Proofs.YtieffhkfefimeaaGreatDoor
namespace Go.Proofs.YtieffhkfefimeaaGreatDoor
open Go.RowKit


attribute [local go_sem] field_nat
end Go.Proofs.YtieffhkfefimeaaGreatDoor
namespace Go.Proofs.YtieffhkfefimeaaGreatDoor
open Go.RowKit


attribute [local go_sem] field_nat
end Go.Proofs.YtieffhkfefimeaaGreatDoor
namespace Go.Proofs.YtieffhkfefimeaaGreatDoor
open Go.RowKit


attribute [local go_sem] field_nat
theorem and_frac {F b : Nat} (hF : F ≤ 52) (hb : b < 18446744073709551616) : bits .and .u64 (b : Int) (IntKind.u64.wrap (IntKind.u64.wrap (2 ^ F) - 1)) = ((b % 2 ^ F : Nat) : Int) := by
 have h1 : 0 < 2 ^ F := Nat.pow_pos (by decide)
 have h2 : 2 ^ F ≤ 2 ^ 62 := Nat.pow_le_pow_right (by decide) (by omega)
 rw [wrap_two (by omega), IntWalk.u64_in _ (by omega), show ((2 ^ F : Nat) : Int) - 1 = ((2 ^ F - 1 : Nat) : Int) by omega]
 exact and_mask hb (by omega)
theorem and_exp {E F b : Nat} (hE : E ≤ 11) (hb : b < 18446744073709551616) : IntKind.i64.wrap (bits .and .u64 ((b : Int) / 2 ^ F) (IntKind.u64.wrap (IntKind.u64.wrap (2 ^ E) - 1))) = ((b / 2 ^ F % 2 ^ E : Nat) : Int) := by
 have h3 : b / 2 ^ F ≤ b := Nat.div_le_self _ _
 have h4 : 2 ^ E ≤ 2 ^ 11 := Nat.pow_le_pow_right (by decide) hE
 have h5 : b / 2 ^ F % 2 ^ E < 2 ^ E := Nat.mod_lt _ (Nat.pow_pos (by decide))
 rw [show ((b : Int) / 2 ^ F) = ((b / 2 ^ F : Nat) : Int) by simp, and_frac (F := E) (by omega) (by omega)]
 generalize b / 2 ^ F % 2 ^ E = q at *
 exact IntWalk.i64_in _ ⟨by omega, by omega⟩
theorem and_sgn {E F b : Nat} (hE : E ≤ 11) (hF : F ≤ 52) (hb : b < 18446744073709551616) : (bits .and .u64 ((b : Int) / 2 ^ (E + F)) 1 == 1) = fneg E F b := by
 have h3 : b / 2 ^ (E + F) ≤ b := Nat.div_le_self _ _
 rw [show ((b : Int) / 2 ^ (E + F)) = ((b / 2 ^ (E + F) : Nat) : Int) by simp, show (1 : Int) = ((2 ^ 1 - 1 : Nat) : Int) by rfl, and_mask (by omega) (by decide)]
 unfold fneg
 rw [Nat.testBit_eq_decide_div_mod_eq]
 have h4 : b / 2 ^ (E + F) % 2 ^ 1 < 2 := Nat.mod_lt _ (by decide)
 rw [show (2 : Nat) ^ 1 = 2 by rfl] at h4 ⊢
 generalize b / 2 ^ (E + F) % 2 = q at *
 rcases (show q = 0 ∨ q = 1 by omega) with rfl | rfl <;> rfl
theorem wrap_ones {E : Nat} (hE : E ≤ 11) : wrap64 (wrap64 (2 ^ E) - 1) = ((2 ^ E - 1 : Nat) : Int) := by
 have h4 : 2 ^ E ≤ 2 ^ 11 := Nat.pow_le_pow_right (by decide) hE
 have h5 : 0 < 2 ^ E := Nat.pow_pos (by decide)
 rw [show (2 : Int) ^ E = ((2 ^ E : Nat) : Int) by simp]
 generalize 2 ^ E = P at *
 unfold wrap64; omega
theorem parts_is (E F b : Nat) : fsize E F b = b / 2 ^ F % 2 ^ E * 2 ^ F + b % 2 ^ F := by
 unfold fsize
 rw [Nat.add_comm E F, Nat.pow_add, Nat.mod_mul, Nat.mul_comm]; omega
theorem parts_quo (E F b : Nat) : fsize E F b / 2 ^ F = b / 2 ^ F % 2 ^ E ∧ fsize E F b % 2 ^ F = b % 2 ^ F := by
 have h1 : 0 < 2 ^ F := Nat.pow_pos (by decide)
 have h2 : b % 2 ^ F < 2 ^ F := Nat.mod_lt _ h1
 rw [parts_is]
 generalize b / 2 ^ F % 2 ^ E = q at *
 generalize b % 2 ^ F = m at *
 generalize 2 ^ F = P at *
 rw [Nat.mul_comm]
 exact ⟨by rw [Nat.mul_add_div h1, Nat.div_eq_of_lt h2, Nat.add_zero], by rw [Nat.mul_add_mod, Nat.mod_eq_of_lt h2]⟩
theorem parts_top {E F b : Nat} (h : b / 2 ^ F % 2 ^ E = 2 ^ E - 1) : (b % 2 ^ F = 0 → fsize E F b = finf E F) ∧ (0 < b % 2 ^ F → finf E F < fsize E F b) := by
 rw [parts_is, h]; unfold finf
 generalize (2 ^ E - 1) * 2 ^ F = q
 omega
theorem parts_low {E F b : Nat} (h : ¬ b / 2 ^ F % 2 ^ E = 2 ^ E - 1) : fsize E F b < finf E F := by
 have h1 : b / 2 ^ F % 2 ^ E < 2 ^ E := Nat.mod_lt _ (Nat.pow_pos (by decide))
 have h2 : b % 2 ^ F < 2 ^ F := Nat.mod_lt _ (Nat.pow_pos (by decide))
 rw [parts_is]; unfold finf
 generalize b / 2 ^ F % 2 ^ E = q at *
 have h3 : (q + 1) * 2 ^ F ≤ (2 ^ E - 1) * 2 ^ F := Nat.mul_le_mul_right _ (by omega)
 rw [Nat.add_mul] at h3
 omega
theorem qOf_sign (neg : Bool) (n d : Nat) : qOf neg n d = if neg then -(qOf false n d) else qOf false n d := by
 cases neg
 ·rfl
 ·simp only [if_true]
  unfold qOf sg
  simp only [if_true, Bool.false_eq_true, if_false]
  rw [Rat.neg_mkRat]
theorem decode_up {E F b : Nat} (m : Nat) (hE : 2 ≤ E) (hF : 1 ≤ F) (hs : fsize E F b < finf E F) (hm : m = b % 2 ^ F + if 0 < b / 2 ^ F % 2 ^ E then 2 ^ F else 0) (k : Nat)
  (hk : (((max (b / 2 ^ F % 2 ^ E) 1 : Nat) - (2 ^ (E - 1) - 1 : Nat) - (F : Nat) : Int)) = (k : Int)) : qOf (fneg E F b) (m * 2 ^ k) 1 = dval' E F b ∧ dkind E F b = 1 := by
 have h1 := fval_is (n := fsize E F b) hE hF
 rw [(parts_quo E F b).1, (parts_quo E F b).2, ← hm, hk, tval_pos] at h1
 rw [qOf_sign, h1, (dk_fin hs).2]
 exact ⟨rfl, (dk_fin hs).1⟩
theorem decode_down {E F b : Nat} (m : Nat) (hE : 2 ≤ E) (hF : 1 ≤ F) (hs : fsize E F b < finf E F) (hm : m = b % 2 ^ F + if 0 < b / 2 ^ F % 2 ^ E then 2 ^ F else 0) (k : Nat) (h0 : 0 < k)
  (hk : (((max (b / 2 ^ F % 2 ^ E) 1 : Nat) - (2 ^ (E - 1) - 1 : Nat) - (F : Nat) : Int)) = -(k : Int)) : qOf (fneg E F b) m (2 ^ k) = dval' E F b ∧ dkind E F b = 1 := by
 have h1 := fval_is (n := fsize E F b) hE hF
 rw [(parts_quo E F b).1, (parts_quo E F b).2, ← hm, hk, tval_neg m h0] at h1
 rw [qOf_sign, h1, (dk_fin hs).2]
 exact ⟨rfl, (dk_fin hs).1⟩
theorem rl_pow9 {n k : Nat} (hn : n < 18446744073709551616) (hk : k ≤ 2100) : (rlimbs (n * 2 ^ k)).length ≤ 1000000 := by
 have h1 : (rlimbs n).length ≤ 5 := rlimbs_length_le (Nat.lt_of_lt_of_le hn (by decide))
 have h2 := rl_pow (m := k) (by omega)
 have h3 := rlimbs_mul h1 h2
 omega
theorem rl9 {n : Nat} (hn : n < 18446744073709551616) : (rlimbs n).length ≤ 10000 := Nat.le_trans (rlimbs_length_le (k := 5) (Nat.lt_of_lt_of_le hn (by decide))) (by decide)
theorem rlp {k : Nat} (hk : k ≤ 9990) : (rlimbs (2 ^ k)).length ≤ 9999 := rl_two (by omega)
set_option maxHeartbeats 1000000 in
theorem rdecode_any (E F b : Nat) (w : World) (hE2 : 2 ≤ E) (hE : E ≤ 11) (hF1 : 1 ≤ F) (hF : F ≤ 52) (hb64 : b < 18446744073709551616) :
  Calls Tryz.prog 15 #[.int .i64 (E : Int), .int .i64 (F : Int), .int .u64 (b : Int)] w (RQPostC w (dval' E F b) (dkind E F b)) := by
 obtain ⟨w0, hw0⟩ : ∃ w0, w0 = (w.alloc (.cells #[.bool false, .slice none 0 0, .slice none 0 0] 44)) := ⟨_, rfl⟩
 have hbf : Below w.heap.size w w0 := by rw [hw0]; exact ((Below.refl _ w).alloc (Nat.le_refl _) _)
 obtain ⟨pr, hpr⟩ : ∃ p, p = w.heap.size := ⟨_, rfl⟩
 have hbr : Box3 w0 pr (Value.bool false) (Value.slice none 0 0) (Value.slice none 0 0) := by rw [hw0, hpr]; exact ⟨by go_simp, by go_simp, by go_simp, by go_simp, by go_simp, by go_simp⟩
 have HP : Hid (w.heap.size ≤ pr) := Lib.hid (by omega)
 have HW := Lib.hid hw0; clear hw0
 go_enter Tryz.func15, Tryz.ntmps15
 go_upto_region 1 with fail
 rw [← HW.out, ← hpr]
 clear hpr HW
 go_upto_region 2 with fail
 rw [and_frac hF hb64]
 refine wp_region_seqQ (S := fun w' => True) [(0, 4, some 19), (0, 2, some 20), (3, 1572864, some 21), (0, 1, some 22), (8, 4194304, some 23), (16, 8388608, some 24), (36, 18874368, some 25), (64, 33554432, some 26), (255, 67108864, some 9)] [(true, 0), (true, 1), (true, 2), (true, 3), (true, 4), (true, 5), (true, 6), (true, 7), (true, 8)] (by kernel_rfl) (by kernel_rfl) (by kernel_rfl) (by kernel_rfl) (by kernel_rfl) (by kernel_rfl) (fun d _ _ _ _ h => by cases d <;> exact h) True.intro (fun _ => ?_)
 simp only [pickOps, List.append_eq, List.cons_append, List.nil_append, List.getElem?_toArray, List.getElem?_cons_succ, List.getElem?_cons_zero]
 have hb : Below w0.heap.size w0 w0.drew := (Below.refl _ _).drew
 generalize w0.drew = w1 at hb ⊢
 replace hbr := hbr.kept hb
 replace hbf := hbf.trans (hb.mono hbf.size)
 clear hb
 repeat (first | (refine seq_take (v := ?_) (by rfl) ?_ ?_; rotate_left; (· intro w hSw; (try dsimp only at hSw); go_simp; all_goals with_reducible rfl); (try simp only [Act.put, List.setIfInBounds_toArray, List.set_cons_zero, List.set_cons_succ])) | (refine seq_leave (by rfl) ?_; (try simp only [Act.put, List.setIfInBounds_toArray, List.set_cons_zero, List.set_cons_succ])))
 refine seq_end ?_
 rw [and_exp hE hb64]
 have HP1 := Lib.hid (@parts_top E F b)
 have HP2 := Lib.hid (@parts_low E F b)
 have HUP := Lib.hid (@decode_up E F b)
 have HDN := Lib.hid (@decode_down E F b)
 have hm2 : b % 2 ^ F < 2 ^ F := Nat.mod_lt _ (Nat.pow_pos (by decide))
 have he2 : b / 2 ^ F % 2 ^ E < 2 ^ 11 := Nat.lt_of_lt_of_le (Nat.mod_lt _ (Nat.pow_pos (by decide))) (Nat.pow_le_pow_right (by decide) hE)
 have hpF := pow_small hF
 generalize b % 2 ^ F = m at *
 generalize b / 2 ^ F % 2 ^ E = q at *
 have hsg := and_sgn hE hF hb64
 go_upto_region 4 with fail
 clear hsg
 obtain ⟨w2, hwE⟩ : ∃ W, W = ((w1.alloc (.cells #[.int .i64 1] 3)).alloc (.cells #[.bool false, .slice none 0 0, .slice (some ⟨w1.heap.size, 0, none⟩) 1 1] 44)) := ⟨_, rfl⟩
 have hb : Below w1.heap.size w1 w2 := by rw [hwE]; exact (((Below.refl _ w1).alloc (Nat.le_refl _) _).alloc (by simp <;> omega) _)
 obtain ⟨oP, hpo⟩ : ∃ p, p = w1.heap.size := ⟨_, rfl⟩
 obtain ⟨pz, hpz⟩ : ∃ p, p = w1.heap.size + 1 := ⟨_, rfl⟩
 have ho : RIs w2 (.slice (some ⟨oP, 0, none⟩) 1 1) 1 := by rw [hwE, hpo]; exact RIs.below (one_is w1 (x := 1) (by omega) (by omega)) ((Below.refl _ _).alloc (Nat.le_refl _) _)
 have hbz : Box3 w2 pz (Value.bool false) (Value.slice none 0 0) (Value.slice (some ⟨oP, 0, none⟩) 1 1) := by rw [hwE, hpo, hpz]; exact ⟨by go_simp, by go_simp, by go_simp, by go_simp, by go_simp, by go_simp⟩
 replace HP : Hid (w.heap.size ≤ pr ∧ pr < pz) := Lib.hid (by have h1 := HP.out; have h9 := hbf.size; have h2r := hbr.lt; omega)
 have HW := Lib.hid hwE; clear hwE
 go_upto_region 5 with fail
 rw [← HW.out, ← hpz]
 clear hpo hpz HW
 replace hbr := hbr.kept hb
 replace hbf := hbf.trans (hb.mono hbf.size)
 clear hb
 have hones := wrap_ones hE
 by_cases hq : q = 2 ^ E - 1
 case pos =>
  have hqc : ((q : Int) == wrap64 (wrap64 (2 ^ E) - 1)) = true := by rw [hones, beq_iff_eq]; omega
  have hp := HP1.out hq
  clear HP1 HP2 HUP HDN
  by_cases h0 : m = 0
  case pos =>
   subst h0
   have hd := dk_inf (hp.1 rfl)
   cases hs : fneg E F b
   case false =>
    rw [hs] at hd
    have ez0 := hbz.c0
    have ez1 := hbz.c1
    have ez2 := hbz.c2
    have er0 := hbr.c0
    have fr0 := hbr.f0
    have er1 := hbr.c1
    have fr1 := hbr.f1
    have er2 := hbr.c2
    have fr2 := hbr.f2
    go_wp2_with fail
    (try rw [hd.1])
    (try rw [hd.2])
    exact end_rc rfl rfl rfl rfl hbr (show w.heap.size ≤ pr by have := HP.out; omega) (RQIs.zero ho) hbf
   case true =>
    rw [hs] at hd
    have ez0 := hbz.c0
    have ez1 := hbz.c1
    have ez2 := hbz.c2
    have er0 := hbr.c0
    have fr0 := hbr.f0
    have er1 := hbr.c1
    have fr1 := hbr.f1
    have er2 := hbr.c2
    have fr2 := hbr.f2
    go_wp2_with fail
    (try rw [hd.1])
    (try rw [hd.2])
    exact end_rc rfl rfl rfl rfl hbr (show w.heap.size ≤ pr by have := HP.out; omega) (RQIs.zero ho) hbf
  case neg =>
   have hm0 : ((m : Int) == 0) = false := by rw [beq_eq_false_iff_ne, ne_eq]; omega
   have hm1 : ((m : Int) != 0) = true := by rw [bne, hm0]; rfl
   have hd := dk_nan (hp.2 (by omega))
   have ez0 := hbz.c0
   have ez1 := hbz.c1
   have ez2 := hbz.c2
   have er0 := hbr.c0
   have fr0 := hbr.f0
   have er1 := hbr.c1
   have fr1 := hbr.f1
   have er2 := hbr.c2
   have fr2 := hbr.f2
   go_wp2_with fail
   (try rw [hd.1])
   (try rw [hd.2])
   exact end_rc rfl rfl rfl rfl hbr (show w.heap.size ≤ pr by have := HP.out; omega) (RQIs.zero ho) hbf
 case neg =>
  have hqc : ((q : Int) == wrap64 (wrap64 (2 ^ E) - 1)) = false := by rw [hones, beq_eq_false_iff_ne, ne_eq]; omega
  have hs := HP2.out hq
  have HS := Lib.hid hs
  clear hs HP1 HP2 hq
  by_cases hq0 : q = 0
  case pos =>
   subst hq0
   obtain ⟨u, hu⟩ : ∃ u : Int, u = ((max 0 1 : Nat) - (2 ^ (E - 1) - 1 : Nat) - (F : Nat) : Int) := ⟨_, rfl⟩
   have hup := value_exp (F := F) hE2 hE hF he2 (1) (by omega)
   have hlo := value_low (F := F) hE2 hE hF he2
   have hhi := value_high (F := F) hE2 hE hF he2
   rw [← hu] at hup hlo hhi
   have HU := Lib.hid hu
   clear hu
   have hm64 : m < 18446744073709551616 := by omega
   by_cases hu0 : 0 ≤ u
   case pos =>
    obtain ⟨k, rfl⟩ : ∃ k : Nat, u = (k : Int) := ⟨u.toNat, by omega⟩
    have hc : decide ((0 : Int) ≤ (k : Int)) = true := decide_eq_true (by omega)
    have hl := rl_pow9 (n := m) (k := k) hm64 (by omega)
    have hd := HUP.out (m) hE2 hF1 HS.out (by simp) k HU.out.symm
    clear HUP HDN
    go_wp2_with fail
    refine (rof_any (m) _ hm64).mono ?_
    rintro e w3 ⟨r9, rfl, hx, hb⟩
    replace hbr := hbr.kept hb
    replace hbz := hbz.kept hb
    replace ho := ho.below hb
    replace hbf := hbf.trans (hb.mono hbf.size)
    clear hb
    obtain ⟨xO, xL, xC, rfl⟩ := hx.form
    go_wp2_with fail
    refine (rtwo_any k _ (by omega)).mono ?_
    rintro e w4 ⟨r9, rfl, hy, hb⟩
    replace hbr := hbr.kept hb
    replace hbz := hbz.kept hb
    replace ho := ho.below hb
    replace hx := hx.below hb
    replace hbf := hbf.trans (hb.mono hbf.size)
    clear hb
    obtain ⟨yO, yL, yC, rfl⟩ := hy.form
    go_wp2_with fail
    refine (rmul_any _ _ (m) (2 ^ k) _ hx hy (Nat.le_trans (rl9 hm64) (by decide)) (Nat.le_trans (rlp (k := k) (by omega)) (by decide))).mono ?_
    rintro e w5 ⟨r9, rfl, hv, hb⟩
    replace hbr := hbr.kept hb
    replace hbz := hbz.kept hb
    replace ho := ho.below hb
    replace hx := hx.below hb
    replace hy := hy.below hb
    replace hbf := hbf.trans (hb.mono hbf.size)
    clear hb
    obtain ⟨vO, vL, vC, rfl⟩ := hv.form
    obtain ⟨w6, hwE⟩ : ∃ W, W = (w5.alloc (.cells #[.int .i64 1] 3)) := ⟨_, rfl⟩
    have hb : Below w5.heap.size w5 w6 := by rw [hwE]; exact ((Below.refl _ w5).alloc (Nat.le_refl _) _)
    obtain ⟨iP, hpi⟩ : ∃ p, p = w5.heap.size := ⟨_, rfl⟩
    have hi : RIs w6 (.slice (some ⟨iP, 0, none⟩) 1 1) 1 := by rw [hwE, hpi]; exact (one_is w5 (x := 1) (by omega) (by omega))
    have HW := Lib.hid hwE; clear hwE
    go_wp2_with fail
    rw [← HW.out, ← hpi]
    clear hpi HW
    replace hbr := hbr.kept hb
    replace hbz := hbz.kept hb
    replace ho := ho.below hb
    replace hx := hx.below hb
    replace hy := hy.below hb
    replace hv := hv.below hb
    replace hbf := hbf.trans (hb.mono hbf.size)
    clear hb
    refine (rmake_any (fneg E F b) _ _ (m * 2 ^ k) 1 _ hv hi hl (by rw [rlimbs_one]; decide) (by decide)).mono ?_
    rintro e w7 hq9
    obtain ⟨qB, qxO, qxL, qxC, qyO, qyL, qyC, rfl, hS, hqx, hqy, hq, hb⟩ := hq9.out
    have HqS := Lib.hid hS; clear hS
    replace hbr := hbr.kept hb
    replace hbz := hbz.kept hb
    replace ho := ho.below hb
    replace hx := hx.below hb
    replace hy := hy.below hb
    replace hv := hv.below hb
    replace hi := hi.below hb
    replace hbf := hbf.trans (hb.mono hbf.size)
    clear hb
    rw [hd.1] at hq
    have er0 := hbr.c0
    have fr0 := hbr.f0
    have er1 := hbr.c1
    have fr1 := hbr.f1
    have er2 := hbr.c2
    have fr2 := hbr.f2
    go_wp2_with fail
    (try rw [hd.2])
    exact end_rc rfl rfl rfl rfl hbr (show w.heap.size ≤ pr by have := HP.out; omega) hq hbf
   case neg =>
    obtain ⟨k, rfl⟩ : ∃ k : Nat, u = -(k : Int) := ⟨u.natAbs, by omega⟩
    have hc : decide ((0 : Int) ≤ -(k : Int)) = false := decide_eq_false (by omega)
    have hd := HDN.out (m) hE2 hF1 HS.out (by simp) k (by omega) HU.out.symm
    clear HUP HDN
    go_wp2_with fail
    refine (rof_any (m) _ hm64).mono ?_
    rintro e w3 ⟨r9, rfl, hx, hb⟩
    replace hbr := hbr.kept hb
    replace hbz := hbz.kept hb
    replace ho := ho.below hb
    replace hbf := hbf.trans (hb.mono hbf.size)
    clear hb
    obtain ⟨xO, xL, xC, rfl⟩ := hx.form
    go_wp2_with fail
    refine (rtwo_any k _ (by omega)).mono ?_
    rintro e w4 ⟨r9, rfl, hy, hb⟩
    replace hbr := hbr.kept hb
    replace hbz := hbz.kept hb
    replace ho := ho.below hb
    replace hx := hx.below hb
    replace hbf := hbf.trans (hb.mono hbf.size)
    clear hb
    obtain ⟨yO, yL, yC, rfl⟩ := hy.form
    go_wp2_with fail
    refine (rmake_any (fneg E F b) _ _ (m) (2 ^ k) _ hx hy (Nat.le_trans (rl9 hm64) (by decide)) (Nat.le_trans (rlp (k := k) (by omega)) (by decide)) (Nat.pow_pos (by decide))).mono ?_
    rintro e w5 hq9
    obtain ⟨qB, qxO, qxL, qxC, qyO, qyL, qyC, rfl, hS, hqx, hqy, hq, hb⟩ := hq9.out
    have HqS := Lib.hid hS; clear hS
    replace hbr := hbr.kept hb
    replace hbz := hbz.kept hb
    replace ho := ho.below hb
    replace hx := hx.below hb
    replace hy := hy.below hb
    replace hbf := hbf.trans (hb.mono hbf.size)
    clear hb
    rw [hd.1] at hq
    have er0 := hbr.c0
    have fr0 := hbr.f0
    have er1 := hbr.c1
    have fr1 := hbr.f1
    have er2 := hbr.c2
    have fr2 := hbr.f2
    go_wp2_with fail
    (try rw [hd.2])
    exact end_rc rfl rfl rfl rfl hbr (show w.heap.size ≤ pr by have := HP.out; omega) hq hbf
  case neg =>
   have hqb : ((q : Int) == 0) = false := by rw [beq_eq_false_iff_ne, ne_eq]; omega
   have hor := or_two hm2 hF
   obtain ⟨u, hu⟩ : ∃ u : Int, u = ((max q 1 : Nat) - (2 ^ (E - 1) - 1 : Nat) - (F : Nat) : Int) := ⟨_, rfl⟩
   have hup := value_exp (F := F) hE2 hE hF he2 ((q : Int)) (by omega)
   have hlo := value_low (F := F) hE2 hE hF he2
   have hhi := value_high (F := F) hE2 hE hF he2
   rw [← hu] at hup hlo hhi
   have HU := Lib.hid hu
   clear hu
   have hm64 : m + 2 ^ F < 18446744073709551616 := by omega
   by_cases hu0 : 0 ≤ u
   case pos =>
    obtain ⟨k, rfl⟩ : ∃ k : Nat, u = (k : Int) := ⟨u.toNat, by omega⟩
    have hc : decide ((0 : Int) ≤ (k : Int)) = true := decide_eq_true (by omega)
    have hl := rl_pow9 (n := m + 2 ^ F) (k := k) hm64 (by omega)
    have hd := HUP.out (m + 2 ^ F) hE2 hF1 HS.out (by rw [if_pos (by omega)]) k HU.out.symm
    clear HUP HDN
    go_wp2_with fail
    refine (rof_any (m + 2 ^ F) _ hm64).mono ?_
    rintro e w3 ⟨r9, rfl, hx, hb⟩
    replace hbr := hbr.kept hb
    replace hbz := hbz.kept hb
    replace ho := ho.below hb
    replace hbf := hbf.trans (hb.mono hbf.size)
    clear hb
    obtain ⟨xO, xL, xC, rfl⟩ := hx.form
    go_wp2_with fail
    refine (rtwo_any k _ (by omega)).mono ?_
    rintro e w4 ⟨r9, rfl, hy, hb⟩
    replace hbr := hbr.kept hb
    replace hbz := hbz.kept hb
    replace ho := ho.below hb
    replace hx := hx.below hb
    replace hbf := hbf.trans (hb.mono hbf.size)
    clear hb
    obtain ⟨yO, yL, yC, rfl⟩ := hy.form
    go_wp2_with fail
    refine (rmul_any _ _ (m + 2 ^ F) (2 ^ k) _ hx hy (Nat.le_trans (rl9 hm64) (by decide)) (Nat.le_trans (rlp (k := k) (by omega)) (by decide))).mono ?_
    rintro e w5 ⟨r9, rfl, hv, hb⟩
    replace hbr := hbr.kept hb
    replace hbz := hbz.kept hb
    replace ho := ho.below hb
    replace hx := hx.below hb
    replace hy := hy.below hb
    replace hbf := hbf.trans (hb.mono hbf.size)
    clear hb
    obtain ⟨vO, vL, vC, rfl⟩ := hv.form
    obtain ⟨w6, hwE⟩ : ∃ W, W = (w5.alloc (.cells #[.int .i64 1] 3)) := ⟨_, rfl⟩
    have hb : Below w5.heap.size w5 w6 := by rw [hwE]; exact ((Below.refl _ w5).alloc (Nat.le_refl _) _)
    obtain ⟨iP, hpi⟩ : ∃ p, p = w5.heap.size := ⟨_, rfl⟩
    have hi : RIs w6 (.slice (some ⟨iP, 0, none⟩) 1 1) 1 := by rw [hwE, hpi]; exact (one_is w5 (x := 1) (by omega) (by omega))
    have HW := Lib.hid hwE; clear hwE
    go_wp2_with fail
    rw [← HW.out, ← hpi]
    clear hpi HW
    replace hbr := hbr.kept hb
    replace hbz := hbz.kept hb
    replace ho := ho.below hb
    replace hx := hx.below hb
    replace hy := hy.below hb
    replace hv := hv.below hb
    replace hbf := hbf.trans (hb.mono hbf.size)
    clear hb
    refine (rmake_any (fneg E F b) _ _ ((m + 2 ^ F) * 2 ^ k) 1 _ hv hi hl (by rw [rlimbs_one]; decide) (by decide)).mono ?_
    rintro e w7 hq9
    obtain ⟨qB, qxO, qxL, qxC, qyO, qyL, qyC, rfl, hS, hqx, hqy, hq, hb⟩ := hq9.out
    have HqS := Lib.hid hS; clear hS
    replace hbr := hbr.kept hb
    replace hbz := hbz.kept hb
    replace ho := ho.below hb
    replace hx := hx.below hb
    replace hy := hy.below hb
    replace hv := hv.below hb
    replace hi := hi.below hb
    replace hbf := hbf.trans (hb.mono hbf.size)
    clear hb
    rw [hd.1] at hq
    have er0 := hbr.c0
    have fr0 := hbr.f0
    have er1 := hbr.c1
    have fr1 := hbr.f1
    have er2 := hbr.c2
    have fr2 := hbr.f2
    go_wp2_with fail
    (try rw [hd.2])
    exact end_rc rfl rfl rfl rfl hbr (show w.heap.size ≤ pr by have := HP.out; omega) hq hbf
   case neg =>
    obtain ⟨k, rfl⟩ : ∃ k : Nat, u = -(k : Int) := ⟨u.natAbs, by omega⟩
    have hc : decide ((0 : Int) ≤ -(k : Int)) = false := decide_eq_false (by omega)
    have hd := HDN.out (m + 2 ^ F) hE2 hF1 HS.out (by rw [if_pos (by omega)]) k (by omega) HU.out.symm
    clear HUP HDN
    go_wp2_with fail
    refine (rof_any (m + 2 ^ F) _ hm64).mono ?_
    rintro e w3 ⟨r9, rfl, hx, hb⟩
    replace hbr := hbr.kept hb
    replace hbz := hbz.kept hb
    replace ho := ho.below hb
    replace hbf := hbf.trans (hb.mono hbf.size)
    clear hb
    obtain ⟨xO, xL, xC, rfl⟩ := hx.form
    go_wp2_with fail
    refine (rtwo_any k _ (by omega)).mono ?_
    rintro e w4 ⟨r9, rfl, hy, hb⟩
    replace hbr := hbr.kept hb
    replace hbz := hbz.kept hb
    replace ho := ho.below hb
    replace hx := hx.below hb
    replace hbf := hbf.trans (hb.mono hbf.size)
    clear hb
    obtain ⟨yO, yL, yC, rfl⟩ := hy.form
    go_wp2_with fail
    refine (rmake_any (fneg E F b) _ _ (m + 2 ^ F) (2 ^ k) _ hx hy (Nat.le_trans (rl9 hm64) (by decide)) (Nat.le_trans (rlp (k := k) (by omega)) (by decide)) (Nat.pow_pos (by decide))).mono ?_
    rintro e w5 hq9
    obtain ⟨qB, qxO, qxL, qxC, qyO, qyL, qyC, rfl, hS, hqx, hqy, hq, hb⟩ := hq9.out
    have HqS := Lib.hid hS; clear hS
    replace hbr := hbr.kept hb
    replace hbz := hbz.kept hb
    replace ho := ho.below hb
    replace hx := hx.below hb
    replace hy := hy.below hb
    replace hbf := hbf.trans (hb.mono hbf.size)
    clear hb
    rw [hd.1] at hq
    have er0 := hbr.c0
    have fr0 := hbr.f0
    have er1 := hbr.c1
    have fr1 := hbr.f1
    have er2 := hbr.c2
    have fr2 := hbr.f2
    go_wp2_with fail
    (try rw [hd.2])
    exact end_rc rfl rfl rfl rfl hbr (show w.heap.size ≤ pr by have := HP.out; omega) hq hbf
end Go.Proofs.YtieffhkfefimeaaGreatDoor
namespace Go.Proofs.YtieffhkfefimeaaGreatDoor
open Go.RowKit


theorem rdecode_s (b : Nat) (k : Int) (q : Rat) (w : World) (hk : Hid (dkind 8 23 b = k)) (hq : Hid (dval' 8 23 b = q)) (hb64 : b < 18446744073709551616) :
  Calls Tryz.prog 15 #[.int .i64 8, .int .i64 23, .int .u64 (b : Int)] w (RQPostC w q k) := by
 have h := rdecode_any 8 23 b w (by decide) (by decide) (by decide) (by decide) hb64
 rwa [hk.out, hq.out] at h
set_option maxHeartbeats 1000000 in
theorem rnumber_any (b : Nat) (k : Int) (q : Rat) (w : World) (hk : Hid (dkind 8 23 b = k)) (hq : Hid (dval' 8 23 b = q)) (hb64 : b < 18446744073709551616) :
  Calls Tryz.prog 33 #[.int .u64 (b : Int)] w (RQPostC w q k) := by
 obtain ⟨w0, hw0⟩ : ∃ w0, w0 = (w.alloc (.cells #[.bool false, .slice none 0 0, .slice none 0 0] 44)) := ⟨_, rfl⟩
 have hbf : Below w.heap.size w w0 := by rw [hw0]; exact ((Below.refl _ w).alloc (Nat.le_refl _) _)
 obtain ⟨pr, hpr⟩ : ∃ p, p = w.heap.size := ⟨_, rfl⟩
 have hbr : Box3 w0 pr (Value.bool false) (Value.slice none 0 0) (Value.slice none 0 0) := by rw [hw0, hpr]; exact ⟨by go_simp, by go_simp, by go_simp, by go_simp, by go_simp, by go_simp⟩
 have HP : Hid (w.heap.size ≤ pr) := Lib.hid (by omega)
 have HW := Lib.hid hw0; clear hw0
 go_enter Tryz.func33, Tryz.ntmps33
 go_upto_region 1 with fail
 rw [← HW.out, ← hpr]
 clear hpr HW
 go_wp2_with fail
 refine (rdecode_s b k q _ hk hq hb64).mono ?_
 rintro e w1 hq9
 obtain ⟨xB, xxO, xxL, xxC, xyO, xyL, xyC, rfl, hS, hxx, hxy, hx, hb⟩ := hq9.out
 have HxS := Lib.hid hS; clear hS
 replace hbr := hbr.kept hb
 replace hbf := hbf.trans (hb.mono hbf.size)
 clear hb
 have er0 := hbr.c0
 have fr0 := hbr.f0
 have er1 := hbr.c1
 have fr1 := hbr.f1
 have er2 := hbr.c2
 have fr2 := hbr.f2
 go_wp2_with fail
 clear er0 fr0 er1 fr1 er2 fr2
 obtain ⟨w2, hwE⟩ : ∃ W, W = ((w1.setCell ⟨pr, 0, none⟩ (Value.bool xB)).setCell ⟨pr, 1, none⟩ (Value.slice xxO xxL xxC)).setCell ⟨pr, 2, none⟩ (Value.slice xyO xyL xyC) := ⟨_, rfl⟩
 rw [← hwE]
 replace hxx := hxx.set3 (u0 := (Value.bool xB)) (u1 := (Value.slice xxO xxL xxC)) (u2 := (Value.slice xyO xyL xyC)) hbr; rw [← hwE] at hxx
 replace hxy := hxy.set3 (u0 := (Value.bool xB)) (u1 := (Value.slice xxO xxL xxC)) (u2 := (Value.slice xyO xyL xyC)) hbr; rw [← hwE] at hxy
 replace hx := hx.set3 (u0 := (Value.bool xB)) (u1 := (Value.slice xxO xxL xxC)) (u2 := (Value.slice xyO xyL xyC)) hbr; rw [← hwE] at hx
 replace hbf := below_set3 (u0 := (Value.bool xB)) (u1 := (Value.slice xxO xxL xxC)) (u2 := (Value.slice xyO xyL xyC)) hbf (show w.heap.size ≤ pr by have := HP.out; omega); rw [← hwE] at hbf
 replace hbr := hbr.set3 (u0 := (Value.bool xB)) (u1 := (Value.slice xxO xxL xxC)) (u2 := (Value.slice xyO xyL xyC)); rw [← hwE] at hbr; clear hwE
 have er0 := hbr.c0
 have er1 := hbr.c1
 have er2 := hbr.c2
 (try go_wp2_with fail)
 exact bodyPost_ret (v := .tuple #[.agg #[.bool xB, .slice xxO xxL xxC, .slice xyO xyL xyC], .int .i64 k]) (by simp [results, Tryz.results33, go_sem, er0, er1, er2]) rfl ⟨_, rfl, hx, hbf⟩
end Go.Proofs.YtieffhkfefimeaaGreatDoor
