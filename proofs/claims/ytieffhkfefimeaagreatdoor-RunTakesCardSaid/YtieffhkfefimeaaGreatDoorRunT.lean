import Derived.Test.YtieffhkfefimeaaGreatDoorRatD
import Derived.Test.YtieffhkfefimeaaGreatDoorIeeeB
import Derived.Test.YtieffhkfefimeaaGreatDoorSeqF
import Derived.Test.YtieffhkfefimeaaGreatDoorRunP
namespace Go.Proofs.YtieffhkfefimeaaGreatDoor
open Go.RowKit
set_option linter.unusedVariables false
set_option linter.unusedSimpArgs false
attribute [local go_sem] field_nat
theorem trim_r (v : Value) (n : Nat) (w : World) (h : RIs w v n) : Calls Tryz.prog 125 #[v] w fun e w' => e = .returned v ∧ Below w.heap.size w w' :=
  (rtrim_same v n w h).mono fun e w' h => ⟨h.1, h.2 ▸ Below.refl _ _⟩
theorem RIs.len {w : World} {o : Option Addr} {l c n : Nat} (h : RIs w (.slice o l c) n) : l = (rlimbs n).length := by
  obtain ⟨ao, cap, h1, _⟩ := h.open
  injection h1
theorem rlimbs_mono {a b k : Nat} (hab : a ≤ b) (h : (rlimbs b).length ≤ k) : (rlimbs a).length ≤ k := Nat.le_trans (rlimbs_length_mono hab) h
theorem rlimbs_one : (rlimbs 1).length = 1 := by rw [rlimbs_pos (by omega)]; simp [rlimbs_zero]
theorem rlimbs_mul {a b m n : Nat} (ha : (rlimbs a).length ≤ m) (hb : (rlimbs b).length ≤ n) : (rlimbs (a * b)).length ≤ m + n := by
  have h1 := lt_pow_rlimbs a
  have h2 := lt_pow_rlimbs b
  refine rlimbs_length_le ?_
  have h3 : a < 10000 ^ m := Nat.lt_of_lt_of_le h1 (Nat.pow_le_pow_right (by decide) ha)
  have h4 : b < 10000 ^ n := Nat.lt_of_lt_of_le h2 (Nat.pow_le_pow_right (by decide) hb)
  rw [Nat.pow_add]
  exact Nat.mul_lt_mul'' h3 h4
theorem rlimbs_add {a b m : Nat} (ha : (rlimbs a).length ≤ m) (hb : (rlimbs b).length ≤ m) : (rlimbs (a + b)).length ≤ m + 1 := by
  have h1 := lt_pow_rlimbs a
  have h2 := lt_pow_rlimbs b
  refine rlimbs_length_le ?_
  have h3 : a < 10000 ^ m := Nat.lt_of_lt_of_le h1 (Nat.pow_le_pow_right (by decide) ha)
  have h4 : b < 10000 ^ m := Nat.lt_of_lt_of_le h2 (Nat.pow_le_pow_right (by decide) hb)
  rw [Nat.pow_succ]
  omega
set_option maxRecDepth 100000 in
set_option maxHeartbeats 1000000 in
/-- Make. -/
theorem rmake_any (neg : Bool) (vn vd : Value) (n d : Nat) (w : World) (hn : RIs w vn n) (hd : RIs w vd d) (hln : (rlimbs n).length ≤ 1000000) (hld : (rlimbs d).length ≤ 1000000) (hd0 : 0 < d) :
    Calls Tryz.prog 48 #[.bool neg, vn, vd] w (RQPost w (qOf neg n d)) := by
  obtain ⟨nO, nL, nC, rfl⟩ := hn.form
  obtain ⟨dO, dL, dC, rfl⟩ := hd.form
  obtain ⟨w0, hw0⟩ : ∃ w0, w0 = (w.alloc (.cells #[.bool false, .slice none 0 0, .slice none 0 0] 44)) := ⟨_, rfl⟩
  have hbf : Below w.heap.size w w0 := by rw [hw0]; exact ((Below.refl _ w).alloc (Nat.le_refl _) _)
  obtain ⟨pr, hpr⟩ : ∃ p, p = w.heap.size := ⟨_, rfl⟩
  have hbr : Box3 w0 pr (Value.bool false) (Value.slice none 0 0) (Value.slice none 0 0) := by rw [hw0, hpr]; exact ⟨by go_simp, by go_simp, by go_simp, by go_simp, by go_simp, by go_simp⟩
  have HP : Hid (w.heap.size ≤ pr) := Lib.hid (by omega)
  replace hn := hn.below hbf
  replace hd := hd.below hbf
  have HW := Lib.hid hw0; clear hw0
  go_enter Tryz.func48, Tryz.ntmps48
  go_upto_region 1 with fail
  rw [← HW.out, ← hpr]
  clear hpr HW
  have HD := Lib.hid hd0; clear hd0
  go_wp2_with fail
  refine (trim_r _ n _ hn).mono ?_
  rintro e w1 ⟨rfl, hb⟩
  replace hbr := hbr.kept hb
  replace hn := hn.below hb
  replace hd := hd.below hb
  replace hbf := hbf.trans (hb.mono hbf.size)
  clear hb
  go_wp2_with fail
  refine (trim_r _ d _ hd).mono ?_
  rintro e w2 ⟨rfl, hb⟩
  replace hbr := hbr.kept hb
  replace hn := hn.below hb
  replace hd := hd.below hb
  replace hbf := hbf.trans (hb.mono hbf.size)
  clear hb
  go_wp2_with fail
  refine (rgcd_any _ _ n d _ hn hd hln hld).mono ?_
  rintro e w3 ⟨r9, rfl, hg, hb⟩
  replace hbr := hbr.kept hb
  replace hn := hn.below hb
  replace hd := hd.below hb
  replace hbf := hbf.trans (hb.mono hbf.size)
  clear hb
  obtain ⟨gO, gL, gC, rfl⟩ := hg.form
  have HG : Hid (0 < Nat.gcd n d) := Lib.hid (Nat.gcd_pos_of_pos_right _ HD.out)
  have hlg : (rlimbs (Nat.gcd n d)).length ≤ 1000000 := rlimbs_mono (Nat.gcd_le_right _ HD.out) hld
  go_wp2_with fail
  refine (rdivmod_any _ _ n (Nat.gcd n d) _ hn hg hln hlg HG.out).mono ?_
  rintro e w4 ⟨r9, s9, rfl, hx, hs, hb⟩
  replace hbr := hbr.kept hb
  replace hn := hn.below hb
  replace hd := hd.below hb
  replace hg := hg.below hb
  replace hbf := hbf.trans (hb.mono hbf.size)
  clear hb
  obtain ⟨xO, xL, xC, rfl⟩ := hx.form
  obtain ⟨sO, sL, sC, rfl⟩ := hs.form
  clear hs
  go_wp2_with fail
  refine (rdivmod_any _ _ d (Nat.gcd n d) _ hd hg hld hlg HG.out).mono ?_
  rintro e w5 ⟨r9, s9, rfl, hy, hs, hb⟩
  replace hbr := hbr.kept hb
  replace hn := hn.below hb
  replace hd := hd.below hb
  replace hg := hg.below hb
  replace hx := hx.below hb
  replace hbf := hbf.trans (hb.mono hbf.size)
  clear hb
  obtain ⟨yO, yL, yC, rfl⟩ := hy.form
  obtain ⟨tO, tL, tC, rfl⟩ := hs.form
  clear hs
  have hxl := hx.len
  have hx0 : decide ((0 : Int) < (xL : Int)) = decide (0 < n) := by
    rw [hxl]
    by_cases h0 : n = 0
    · subst h0; simp [rlimbs_zero]
    · have h1 : 0 < n / Nat.gcd n d := Nat.div_pos (Nat.gcd_le_left _ (by omega)) HG.out
      have h2 : rlimbs (n / Nat.gcd n d) ≠ [] := fun h => by have := rlimbs_eq_nil.1 h; omega
      have h3 : 0 < (rlimbs (n / Nat.gcd n d)).length := List.length_pos_iff.2 h2
      rw [decide_eq_true (by omega), decide_eq_true (by omega)]
  have HX := Lib.hid hx0; clear hx0 hxl
  cases neg
  case false =>
    have er0 := hbr.c0
    have fr0 := hbr.f0
    have er1 := hbr.c1
    have fr1 := hbr.f1
    have er2 := hbr.c2
    have fr2 := hbr.f2
    go_wp2_with fail
    exact end_r rfl rfl rfl hbr (show w.heap.size ≤ pr by have := HP.out; omega) (RQIs.made HD.out (by first | rfl | (rw [← HX.out]; simp)) hx hy) hbf
  case true =>
    have er0 := hbr.c0
    have fr0 := hbr.f0
    have er1 := hbr.c1
    have fr1 := hbr.f1
    have er2 := hbr.c2
    have fr2 := hbr.f2
    go_wp2_with fail
    exact end_r rfl rfl rfl hbr (show w.heap.size ≤ pr by have := HP.out; omega) (RQIs.made HD.out (by first | rfl | (rw [← HX.out]; simp)) hx hy) hbf
theorem qb_pf2 {a : Rat} (hs : Hid (false = decide (a < 0))) (h : ¬ a.den = 1) : ((⟨(str (dec a.num.natAbs)).toArray⟩ ++ ⟨#[47]⟩) ++ ⟨(str (dec a.den)).toArray⟩ : ByteArray) = ⟨(qtext a).toArray⟩ := by
  rw [← qb_pf hs h]; apply ByteArray.ext; simp
theorem qb_nf2 {a : Rat} (hs : Hid (true = decide (a < 0))) (h : ¬ a.den = 1) : (((⟨#[45]⟩ ++ ⟨(str (dec a.num.natAbs)).toArray⟩) ++ ⟨#[47]⟩) ++ ⟨(str (dec a.den)).toArray⟩ : ByteArray) = ⟨(qtext a).toArray⟩ := by
  rw [← qb_nf hs h]; apply ByteArray.ext; simp
set_option maxRecDepth 100000 in
set_option maxHeartbeats 1000000 in
/-- RatText. -/
theorem rqtext_any (va : Value) (a : Rat) (w : World) (ha : RQIs w va a) (hla : QB a 30000) :
    Calls Tryz.prog 16 #[va] w fun e w' => e = .returned (.string ⟨(qtext a).toArray⟩) ∧ Below w.heap.size w w' := by
  obtain ⟨aB, axO, axL, axC, ayO, ayL, ayC, rfl, hS, hax, hay⟩ := ha.form
  have HaS := Lib.hid hS; clear hS
  obtain ⟨w0, hw0⟩ : ∃ w0, w0 = (w.alloc (.cells #[.bool aB, .slice axO axL axC, .slice ayO ayL ayC] 44)) := ⟨_, rfl⟩
  have hbf : Below w.heap.size w w0 := by rw [hw0]; exact ((Below.refl _ w).alloc (Nat.le_refl _) _)
  obtain ⟨pa, hpa⟩ : ∃ p, p = w.heap.size := ⟨_, rfl⟩
  have hba : Box3 w0 pa (Value.bool aB) (Value.slice axO axL axC) (Value.slice ayO ayL ayC) := by rw [hw0, hpa]; exact ⟨by go_simp, by go_simp, by go_simp, by go_simp, by go_simp, by go_simp⟩
  have HP : Hid (w.heap.size ≤ pa) := Lib.hid (by omega)
  replace ha := ha.below hbf
  replace hax := hax.below hbf
  replace hay := hay.below hbf
  have HW := Lib.hid hw0; clear hw0
  go_enter Tryz.func16, Tryz.ntmps16
  go_upto_region 1 with fail
  rw [← HW.out, ← hpa]
  clear hpa HW
  have hla1 := hla.1
  have hla2 := hla.2
  have hr1 := rlimbs_of_limbs hla1
  have hr2 := rlimbs_of_limbs hla2
  have ea0 := hba.c0
  have ea1 := hba.c1
  have ea2 := hba.c2
  go_wp2_with fail
  refine (rtext_any _ a.num.natAbs _ hax (by omega)).mono ?_
  rintro e w1 ⟨rfl, hb⟩
  clear ea0 ea1 ea2
  replace hba := hba.kept hb
  replace ha := ha.below hb
  replace hax := hax.below hb
  replace hay := hay.below hb
  replace hbf := hbf.trans (hb.mono hbf.size)
  clear hb
  obtain ⟨T, hT⟩ : ∃ T, T = str (dec a.num.natAbs) := ⟨_, rfl⟩
  obtain ⟨D, hD⟩ : ∃ D, D = str (dec a.den) := ⟨_, rfl⟩
  rw [← hT]
  have hTl : T.length ≤ 300001 := by rw [hT]; exact dec_limbsK hla1 (by omega)
  have hDl : D.length ≤ 300001 := by rw [hD]; exact dec_limbsK hla2 (by omega)
  have HT := Lib.hid hT.symm; clear hT
  have HDD := Lib.hid hD.symm; clear hD
  have hcmp : (cmpI a.den 1 != 0) = !decide (a.den = 1) := by
    unfold cmpI; by_cases h1 : a.den < 1 <;> by_cases h2 : 1 < a.den <;> simp [h1, h2] <;> omega
  have HCM := Lib.hid hcmp; clear hcmp
  cases aB
  case false =>
    obtain ⟨w2, hwE⟩ : ∃ W, W = (w1.alloc (.cells #[.int .i64 1] 3)) := ⟨_, rfl⟩
    have hb : Below w1.heap.size w1 w2 := by rw [hwE]; exact ((Below.refl _ w1).alloc (Nat.le_refl _) _)
    obtain ⟨oP, hpo⟩ : ∃ p, p = w1.heap.size := ⟨_, rfl⟩
    have ho : RIs w2 (.slice (some ⟨oP, 0, none⟩) 1 1) 1 := by rw [hwE, hpo]; exact (one_is w1 (x := 1) (by omega) (by omega))
    have ea0 := hba.c0
    have ea1 := hba.c1
    have ea2 := hba.c2
    have HW := Lib.hid hwE; clear hwE
    go_wp2_with fail
    rw [← HW.out, ← hpo]
    clear hpo HW
    clear ea0 ea1 ea2
    replace hba := hba.kept hb
    replace ha := ha.below hb
    replace hax := hax.below hb
    replace hay := hay.below hb
    replace hbf := hbf.trans (hb.mono hbf.size)
    clear hb
    refine (rcmp_any _ _ a.den 1 _ hay ho).mono ?_
    rintro e w3 ⟨rfl, hb⟩
    replace hba := hba.kept hb
    replace ha := ha.below hb
    replace hax := hax.below hb
    replace hay := hay.below hb
    replace ho := ho.below hb
    replace hbf := hbf.trans (hb.mono hbf.size)
    clear hb
    by_cases h1 : a.den = 1
    case pos =>
      have hc0 : cmpI a.den 1 = 0 := by rw [h1]; rfl
      rw [hc0]
      have hq := qb_pw HaS h1
      rw [HT.out] at hq
      have HQ := Lib.hid hq; clear hq h1 hc0
      go_wp2_with fail
      go_ret
      exact ⟨ret_one (by rw [← HQ.out]; rfl), hbf⟩
    obtain ⟨c9, hc9⟩ : ∃ c, c = cmpI a.den 1 := ⟨_, rfl⟩
    rw [← hc9]
    have hcn : (c9 != 0) = true := by rw [hc9, HCM.out, decide_eq_false h1]; rfl
    have hcn2 : (c9 == 0) = false := by simpa using hcn
    have hcn3 : ¬ c9 = 0 := by simpa using hcn
    clear hc9
    have hq := qb_pf2 HaS h1
    rw [HT.out, HDD.out] at hq
    have HQ := Lib.hid hq; clear hq
    clear h1
    have ea0 := hba.c0
    have ea1 := hba.c1
    have ea2 := hba.c2
    go_wp2_with fail
    refine (rtext_any _ a.den _ hay (by omega)).mono ?_
    rintro e w4 ⟨rfl, hb⟩
    clear ea0 ea1 ea2
    replace hba := hba.kept hb
    replace ha := ha.below hb
    replace hax := hax.below hb
    replace hay := hay.below hb
    replace ho := ho.below hb
    replace hbf := hbf.trans (hb.mono hbf.size)
    clear hb
    rw [HDD.out]
    go_wp2_with fail
    go_ret
    exact ⟨ret_one (by rw [← HQ.out]; rfl), hbf⟩
  case true =>
    obtain ⟨w2, hwE⟩ : ∃ W, W = (w1.alloc (.cells #[.int .i64 1] 3)) := ⟨_, rfl⟩
    have hb : Below w1.heap.size w1 w2 := by rw [hwE]; exact ((Below.refl _ w1).alloc (Nat.le_refl _) _)
    obtain ⟨oP, hpo⟩ : ∃ p, p = w1.heap.size := ⟨_, rfl⟩
    have ho : RIs w2 (.slice (some ⟨oP, 0, none⟩) 1 1) 1 := by rw [hwE, hpo]; exact (one_is w1 (x := 1) (by omega) (by omega))
    have ea0 := hba.c0
    have ea1 := hba.c1
    have ea2 := hba.c2
    have HW := Lib.hid hwE; clear hwE
    go_wp2_with fail
    rw [← HW.out, ← hpo]
    clear hpo HW
    clear ea0 ea1 ea2
    replace hba := hba.kept hb
    replace ha := ha.below hb
    replace hax := hax.below hb
    replace hay := hay.below hb
    replace hbf := hbf.trans (hb.mono hbf.size)
    clear hb
    refine (rcmp_any _ _ a.den 1 _ hay ho).mono ?_
    rintro e w3 ⟨rfl, hb⟩
    replace hba := hba.kept hb
    replace ha := ha.below hb
    replace hax := hax.below hb
    replace hay := hay.below hb
    replace ho := ho.below hb
    replace hbf := hbf.trans (hb.mono hbf.size)
    clear hb
    by_cases h1 : a.den = 1
    case pos =>
      have hc0 : cmpI a.den 1 = 0 := by rw [h1]; rfl
      rw [hc0]
      have hq := qb_nw HaS h1
      rw [HT.out] at hq
      have HQ := Lib.hid hq; clear hq h1 hc0
      go_wp2_with fail
      go_ret
      exact ⟨ret_one (by rw [← HQ.out]; rfl), hbf⟩
    obtain ⟨c9, hc9⟩ : ∃ c, c = cmpI a.den 1 := ⟨_, rfl⟩
    rw [← hc9]
    have hcn : (c9 != 0) = true := by rw [hc9, HCM.out, decide_eq_false h1]; rfl
    have hcn2 : (c9 == 0) = false := by simpa using hcn
    have hcn3 : ¬ c9 = 0 := by simpa using hcn
    clear hc9
    have hq := qb_nf2 HaS h1
    rw [HT.out, HDD.out] at hq
    have HQ := Lib.hid hq; clear hq
    clear h1
    have ea0 := hba.c0
    have ea1 := hba.c1
    have ea2 := hba.c2
    go_wp2_with fail
    refine (rtext_any _ a.den _ hay (by omega)).mono ?_
    rintro e w4 ⟨rfl, hb⟩
    clear ea0 ea1 ea2
    replace hba := hba.kept hb
    replace ha := ha.below hb
    replace hax := hax.below hb
    replace hay := hay.below hb
    replace ho := ho.below hb
    replace hbf := hbf.trans (hb.mono hbf.size)
    clear hb
    rw [HDD.out]
    go_wp2_with fail
    go_ret
    exact ⟨ret_one (by rw [← HQ.out]; rfl), hbf⟩
theorem cmpI_cases (a b : Nat) : cmpI a b = -1 ∨ cmpI a b = 0 ∨ cmpI a b = 1 := by
  unfold cmpI; split <;> (try split) <;> simp
theorem cmpI_neg (a b : Nat) : cmpI b a = -cmpI a b := by
  unfold cmpI; by_cases h1 : a < b <;> by_cases h2 : b < a <;> simp [h1, h2] <;> omega
theorem cmpI_ge (a b : Nat) : 0 ≤ cmpI a b ↔ b ≤ a := by
  unfold cmpI; by_cases h1 : a < b <;> by_cases h2 : b < a <;> simp [h1, h2] <;> omega
theorem qOf_minus (a : Rat) {s : Bool} (hs : Hid (s = decide (a < 0))) : qOf (!s) a.num.natAbs a.den = -a := by
  rw [hs.out]
  have h := qOf_self (-a)
  rw [(qneg_num a).1, (qneg_num a).2, qneg_sign] at h
  by_cases h0 : a.num.natAbs = 0
  · rw [h0, qOf_zero, q_num_zero.1 h0]; rfl
  · rw [decide_eq_false h0] at h
    simpa using h
set_option maxRecDepth 100000 in
set_option maxHeartbeats 1000000 in
/-- RatCmp. -/
theorem rqcmp_any (va vc : Value) (a c : Rat) (i j : Nat) (w : World) (ha : RQIs w va a) (hc : RQIs w vc c) (hla : QB a i) (hlc : QB c j) (hij : i + j ≤ 90000) :
    Calls Tryz.prog 20 #[va, vc] w fun e w' => e = .returned (.int .i64 (qcmp a c)) ∧ Below w.heap.size w w' := by
  obtain ⟨aB, axO, axL, axC, ayO, ayL, ayC, rfl, hS, hax, hay⟩ := ha.form
  have HaS := Lib.hid hS; clear hS
  obtain ⟨cB, cxO, cxL, cxC, cyO, cyL, cyC, rfl, hS, hcx, hcy⟩ := hc.form
  have HcS := Lib.hid hS; clear hS
  obtain ⟨w0, hw0⟩ : ∃ w0, w0 = ((w.alloc (.cells #[.bool aB, .slice axO axL axC, .slice ayO ayL ayC] 44)).alloc (.cells #[.bool cB, .slice cxO cxL cxC, .slice cyO cyL cyC] 44)) := ⟨_, rfl⟩
  have hbf : Below w.heap.size w w0 := by rw [hw0]; exact (((Below.refl _ w).alloc (Nat.le_refl _) _).alloc (by simp <;> omega) _)
  obtain ⟨pa, hpa⟩ : ∃ p, p = w.heap.size := ⟨_, rfl⟩
  have hba : Box3 w0 pa (Value.bool aB) (Value.slice axO axL axC) (Value.slice ayO ayL ayC) := by rw [hw0, hpa]; exact ⟨by go_simp, by go_simp, by go_simp, by go_simp, by go_simp, by go_simp⟩
  obtain ⟨pc, hpc⟩ : ∃ p, p = w.heap.size + 1 := ⟨_, rfl⟩
  have hbc : Box3 w0 pc (Value.bool cB) (Value.slice cxO cxL cxC) (Value.slice cyO cyL cyC) := by rw [hw0, hpc]; exact ⟨by go_simp, by go_simp, by go_simp, by go_simp, by go_simp, by go_simp⟩
  have HP : Hid (w.heap.size ≤ pa ∧ pa < pc) := Lib.hid (by omega)
  replace ha := ha.below hbf
  replace hc := hc.below hbf
  replace hax := hax.below hbf
  replace hay := hay.below hbf
  replace hcx := hcx.below hbf
  replace hcy := hcy.below hbf
  have HW := Lib.hid hw0; clear hw0
  go_enter Tryz.func20, Tryz.ntmps20
  go_upto_region 1 with fail
  rw [← HW.out, ← hpc, ← hpa]
  clear hpa hpc HW
  have hra1 := rlimbs_of_limbs hla.1
  have hra2 := rlimbs_of_limbs hla.2
  have hrc1 := rlimbs_of_limbs hlc.1
  have hrc2 := rlimbs_of_limbs hlc.2
  cases aB
  case false =>
    cases cB
    case false =>
      have ea0 := hba.c0
      have ea1 := hba.c1
      have ea2 := hba.c2
      have ec0 := hbc.c0
      have ec1 := hbc.c1
      have ec2 := hbc.c2
      go_upto_region 5 with fail
      clear ea0 ea1 ea2 ec0 ec1 ec2
      refine wp_region_seq (S := fun w' => Box3 w' pa (Value.bool false) (Value.slice axO axL axC) (Value.slice ayO ayL ayC) ∧ Box3 w' pc (Value.bool false) (Value.slice cxO cxL cxC) (Value.slice cyO cyL cyC)) [(true, 0), (true, 1), (true, 2), (true, 3), (true, 5), (true, 6), (true, 7), (true, 8), (false, 4), (false, 9), (false, 10), (true, 11)] (by kernel_rfl) (by kernel_rfl) (by kernel_rfl) (by kernel_rfl) (by kernel_rfl) (fun d _ _ _ _ h => by cases d <;> exact h) ⟨hba.drew, hbc.drew⟩ (fun _ => ?_)
      simp only [pickOps, List.append_eq, List.cons_append, List.nil_append, List.getElem?_toArray, List.getElem?_cons_succ, List.getElem?_cons_zero]
      have hb : Below w0.heap.size w0 w0.drew := (Below.refl _ _).drew
      generalize w0.drew = w1 at hb ⊢
      replace hba := hba.kept hb
      replace hbc := hbc.kept hb
      replace ha := ha.below hb
      replace hc := hc.below hb
      replace hax := hax.below hb
      replace hay := hay.below hb
      replace hcx := hcx.below hb
      replace hcy := hcy.below hb
      replace hbf := hbf.trans (hb.mono hbf.size)
      clear hb
      repeat (first | (refine seq_take (v := ?_) (by rfl) ?_ ?_; rotate_left; (· intro w hSw; (try dsimp only at hSw); obtain ⟨⟨ea0, ea1, ea2, _, _, _⟩, ⟨ec0, ec1, ec2, _, _, _⟩⟩ := hSw; go_simp; all_goals with_reducible rfl); (try simp only [Act.put, List.setIfInBounds_toArray, List.set_cons_zero, List.set_cons_succ])) | (refine seq_leave (by rfl) ?_; (try simp only [Act.put, List.setIfInBounds_toArray, List.set_cons_zero, List.set_cons_succ])))
      refine seq_step (by rfl) (fun K hK => ?_)
      go_simp
      go_at_call 49
      (with_reducible refine (rmul_any _ _ a.num.natAbs c.den _ hax hcy (by omega) (by omega)).mono ?_)
      rintro e w2 ⟨r9, rfl, hx, hb⟩
      obtain ⟨xO, xL, xC, rfl⟩ := hx.form
      replace hba := hba.kept hb
      replace hbc := hbc.kept hb
      replace ha := ha.below hb
      replace hc := hc.below hb
      replace hax := hax.below hb
      replace hay := hay.below hb
      replace hcx := hcx.below hb
      replace hcy := hcy.below hb
      replace hbf := hbf.trans (hb.mono hbf.size)
      clear hb
      first | refine hK.out _ _ ⟨hba, hbc⟩ (fun _ => ?_) | (go_wp2_with fail; refine hK.out _ _ ⟨hba, hbc⟩ (fun _ => ?_))
      clear hK K
      (try simp only [Act.put, List.setIfInBounds_toArray, List.set_cons_zero, List.set_cons_succ])
      refine seq_step (by rfl) (fun K hK => ?_)
      go_simp
      go_at_call 49
      (with_reducible refine (rmul_any _ _ c.num.natAbs a.den _ hcx hay (by omega) (by omega)).mono ?_)
      rintro e w3 ⟨r9, rfl, hy, hb⟩
      obtain ⟨yO, yL, yC, rfl⟩ := hy.form
      replace hba := hba.kept hb
      replace hbc := hbc.kept hb
      replace ha := ha.below hb
      replace hc := hc.below hb
      replace hax := hax.below hb
      replace hay := hay.below hb
      replace hcx := hcx.below hb
      replace hcy := hcy.below hb
      replace hx := hx.below hb
      replace hbf := hbf.trans (hb.mono hbf.size)
      clear hb
      first | refine hK.out _ _ ⟨hba, hbc⟩ (fun _ => ?_) | (go_wp2_with fail; refine hK.out _ _ ⟨hba, hbc⟩ (fun _ => ?_))
      clear hK K
      (try simp only [Act.put, List.setIfInBounds_toArray, List.set_cons_zero, List.set_cons_succ])
      refine seq_step (by rfl) (fun K hK => ?_)
      go_simp
      go_at_call 53
      (with_reducible refine (rcmp_any _ _ _ _ _ hx hy).mono ?_)
      rintro e w4 ⟨rfl, hb⟩
      replace hba := hba.kept hb
      replace hbc := hbc.kept hb
      replace ha := ha.below hb
      replace hc := hc.below hb
      replace hax := hax.below hb
      replace hay := hay.below hb
      replace hcx := hcx.below hb
      replace hcy := hcy.below hb
      replace hx := hx.below hb
      replace hy := hy.below hb
      replace hbf := hbf.trans (hb.mono hbf.size)
      clear hb
      first | refine hK.out _ _ ⟨hba, hbc⟩ (fun _ => ?_) | (go_wp2_with fail; refine hK.out _ _ ⟨hba, hbc⟩ (fun _ => ?_))
      clear hK K
      (try simp only [Act.put, List.setIfInBounds_toArray, List.set_cons_zero, List.set_cons_succ])
      repeat (first | (refine seq_take (v := ?_) (by rfl) ?_ ?_; rotate_left; (· intro w hSw; (try dsimp only at hSw); obtain ⟨⟨ea0, ea1, ea2, _, _, _⟩, ⟨ec0, ec1, ec2, _, _, _⟩⟩ := hSw; go_simp; all_goals with_reducible rfl); (try simp only [Act.put, List.setIfInBounds_toArray, List.set_cons_zero, List.set_cons_succ])) | (refine seq_leave (by rfl) ?_; (try simp only [Act.put, List.setIfInBounds_toArray, List.set_cons_zero, List.set_cons_succ])))
      refine seq_end ?_
      have hq : qcmp a c = cmpI (a.num.natAbs * c.den) (c.num.natAbs * a.den) := (qcmp_pp HaS.out.symm HcS.out.symm).symm
      have hcs := cmpI_cases (a.num.natAbs * c.den) (c.num.natAbs * a.den)
      generalize cmpI (a.num.natAbs * c.den) (c.num.natAbs * a.den) = c9 at *
      have HQ := Lib.hid hq; clear hq
      have HC9 := Lib.hid hcs; clear hcs
      rcases HC9.out with rfl | rfl | rfl
      all_goals
        have ea0 := hba.c0
        have ea1 := hba.c1
        have ea2 := hba.c2
        go_wp2_with fail
        go_ret
        exact ⟨ret_one (by rw [HQ.out]; rfl), hbf⟩
    case true =>
      have ea0 := hba.c0
      have ea1 := hba.c1
      have ea2 := hba.c2
      have ec0 := hbc.c0
      have ec1 := hbc.c1
      have ec2 := hbc.c2
      go_wp2_with fail
      go_ret
      exact ⟨ret_one (by rw [qcmp_pn HaS.out.symm HcS.out.symm]; rfl), hbf⟩
  case true =>
    cases cB
    case false =>
      have ea0 := hba.c0
      have ea1 := hba.c1
      have ea2 := hba.c2
      have ec0 := hbc.c0
      have ec1 := hbc.c1
      have ec2 := hbc.c2
      go_wp2_with fail
      go_ret
      exact ⟨ret_one (by rw [qcmp_np HaS.out.symm HcS.out.symm]; rfl), hbf⟩
    case true =>
      have ea0 := hba.c0
      have ea1 := hba.c1
      have ea2 := hba.c2
      have ec0 := hbc.c0
      have ec1 := hbc.c1
      have ec2 := hbc.c2
      go_upto_region 5 with fail
      clear ea0 ea1 ea2 ec0 ec1 ec2
      refine wp_region_seq (S := fun w' => Box3 w' pa (Value.bool true) (Value.slice axO axL axC) (Value.slice ayO ayL ayC) ∧ Box3 w' pc (Value.bool true) (Value.slice cxO cxL cxC) (Value.slice cyO cyL cyC)) [(true, 0), (true, 1), (true, 2), (true, 3), (true, 5), (true, 6), (true, 7), (true, 8), (false, 4), (false, 9), (false, 10), (true, 11)] (by kernel_rfl) (by kernel_rfl) (by kernel_rfl) (by kernel_rfl) (by kernel_rfl) (fun d _ _ _ _ h => by cases d <;> exact h) ⟨hba.drew, hbc.drew⟩ (fun _ => ?_)
      simp only [pickOps, List.append_eq, List.cons_append, List.nil_append, List.getElem?_toArray, List.getElem?_cons_succ, List.getElem?_cons_zero]
      have hb : Below w0.heap.size w0 w0.drew := (Below.refl _ _).drew
      generalize w0.drew = w1 at hb ⊢
      replace hba := hba.kept hb
      replace hbc := hbc.kept hb
      replace ha := ha.below hb
      replace hc := hc.below hb
      replace hax := hax.below hb
      replace hay := hay.below hb
      replace hcx := hcx.below hb
      replace hcy := hcy.below hb
      replace hbf := hbf.trans (hb.mono hbf.size)
      clear hb
      repeat (first | (refine seq_take (v := ?_) (by rfl) ?_ ?_; rotate_left; (· intro w hSw; (try dsimp only at hSw); obtain ⟨⟨ea0, ea1, ea2, _, _, _⟩, ⟨ec0, ec1, ec2, _, _, _⟩⟩ := hSw; go_simp; all_goals with_reducible rfl); (try simp only [Act.put, List.setIfInBounds_toArray, List.set_cons_zero, List.set_cons_succ])) | (refine seq_leave (by rfl) ?_; (try simp only [Act.put, List.setIfInBounds_toArray, List.set_cons_zero, List.set_cons_succ])))
      refine seq_step (by rfl) (fun K hK => ?_)
      go_simp
      go_at_call 49
      (with_reducible refine (rmul_any _ _ a.num.natAbs c.den _ hax hcy (by omega) (by omega)).mono ?_)
      rintro e w2 ⟨r9, rfl, hx, hb⟩
      obtain ⟨xO, xL, xC, rfl⟩ := hx.form
      replace hba := hba.kept hb
      replace hbc := hbc.kept hb
      replace ha := ha.below hb
      replace hc := hc.below hb
      replace hax := hax.below hb
      replace hay := hay.below hb
      replace hcx := hcx.below hb
      replace hcy := hcy.below hb
      replace hbf := hbf.trans (hb.mono hbf.size)
      clear hb
      first | refine hK.out _ _ ⟨hba, hbc⟩ (fun _ => ?_) | (go_wp2_with fail; refine hK.out _ _ ⟨hba, hbc⟩ (fun _ => ?_))
      clear hK K
      (try simp only [Act.put, List.setIfInBounds_toArray, List.set_cons_zero, List.set_cons_succ])
      refine seq_step (by rfl) (fun K hK => ?_)
      go_simp
      go_at_call 49
      (with_reducible refine (rmul_any _ _ c.num.natAbs a.den _ hcx hay (by omega) (by omega)).mono ?_)
      rintro e w3 ⟨r9, rfl, hy, hb⟩
      obtain ⟨yO, yL, yC, rfl⟩ := hy.form
      replace hba := hba.kept hb
      replace hbc := hbc.kept hb
      replace ha := ha.below hb
      replace hc := hc.below hb
      replace hax := hax.below hb
      replace hay := hay.below hb
      replace hcx := hcx.below hb
      replace hcy := hcy.below hb
      replace hx := hx.below hb
      replace hbf := hbf.trans (hb.mono hbf.size)
      clear hb
      first | refine hK.out _ _ ⟨hba, hbc⟩ (fun _ => ?_) | (go_wp2_with fail; refine hK.out _ _ ⟨hba, hbc⟩ (fun _ => ?_))
      clear hK K
      (try simp only [Act.put, List.setIfInBounds_toArray, List.set_cons_zero, List.set_cons_succ])
      refine seq_step (by rfl) (fun K hK => ?_)
      go_simp
      go_at_call 53
      (with_reducible refine (rcmp_any _ _ _ _ _ hx hy).mono ?_)
      rintro e w4 ⟨rfl, hb⟩
      replace hba := hba.kept hb
      replace hbc := hbc.kept hb
      replace ha := ha.below hb
      replace hc := hc.below hb
      replace hax := hax.below hb
      replace hay := hay.below hb
      replace hcx := hcx.below hb
      replace hcy := hcy.below hb
      replace hx := hx.below hb
      replace hy := hy.below hb
      replace hbf := hbf.trans (hb.mono hbf.size)
      clear hb
      first | refine hK.out _ _ ⟨hba, hbc⟩ (fun _ => ?_) | (go_wp2_with fail; refine hK.out _ _ ⟨hba, hbc⟩ (fun _ => ?_))
      clear hK K
      (try simp only [Act.put, List.setIfInBounds_toArray, List.set_cons_zero, List.set_cons_succ])
      repeat (first | (refine seq_take (v := ?_) (by rfl) ?_ ?_; rotate_left; (· intro w hSw; (try dsimp only at hSw); obtain ⟨⟨ea0, ea1, ea2, _, _, _⟩, ⟨ec0, ec1, ec2, _, _, _⟩⟩ := hSw; go_simp; all_goals with_reducible rfl); (try simp only [Act.put, List.setIfInBounds_toArray, List.set_cons_zero, List.set_cons_succ])) | (refine seq_leave (by rfl) ?_; (try simp only [Act.put, List.setIfInBounds_toArray, List.set_cons_zero, List.set_cons_succ])))
      refine seq_end ?_
      have hq : qcmp a c = -cmpI (a.num.natAbs * c.den) (c.num.natAbs * a.den) := by rw [← qcmp_nn HaS.out.symm HcS.out.symm, cmpI_neg]
      have hcs := cmpI_cases (a.num.natAbs * c.den) (c.num.natAbs * a.den)
      generalize cmpI (a.num.natAbs * c.den) (c.num.natAbs * a.den) = c9 at *
      have HQ := Lib.hid hq; clear hq
      have HC9 := Lib.hid hcs; clear hcs
      rcases HC9.out with rfl | rfl | rfl
      all_goals
        have ea0 := hba.c0
        have ea1 := hba.c1
        have ea2 := hba.c2
        go_wp2_with fail
        go_ret
        exact ⟨ret_one (by rw [HQ.out]; rfl), hbf⟩
set_option maxRecDepth 100000 in
set_option maxHeartbeats 1000000 in
/-- RatAdd. -/
theorem rqadd_any (va vc : Value) (a c : Rat) (i j : Nat) (w : World) (ha : RQIs w va a) (hc : RQIs w vc c) (hla : QB a i) (hlc : QB c j) (hij : i + j ≤ 90000) :
    Calls Tryz.prog 17 #[va, vc] w (RQPost w (a + c)) := by
  obtain ⟨aB, axO, axL, axC, ayO, ayL, ayC, rfl, hS, hax, hay⟩ := ha.form
  have HaS := Lib.hid hS; clear hS
  obtain ⟨cB, cxO, cxL, cxC, cyO, cyL, cyC, rfl, hS, hcx, hcy⟩ := hc.form
  have HcS := Lib.hid hS; clear hS
  obtain ⟨w0, hw0⟩ : ∃ w0, w0 = (((w.alloc (.cells #[.bool aB, .slice axO axL axC, .slice ayO ayL ayC] 44)).alloc (.cells #[.bool cB, .slice cxO cxL cxC, .slice cyO cyL cyC] 44)).alloc (.cells #[.bool false, .slice none 0 0, .slice none 0 0] 44)) := ⟨_, rfl⟩
  have hbf : Below w.heap.size w w0 := by rw [hw0]; exact ((((Below.refl _ w).alloc (Nat.le_refl _) _).alloc (by simp <;> omega) _).alloc (by simp <;> omega) _)
  obtain ⟨pa, hpa⟩ : ∃ p, p = w.heap.size := ⟨_, rfl⟩
  have hba : Box3 w0 pa (Value.bool aB) (Value.slice axO axL axC) (Value.slice ayO ayL ayC) := by rw [hw0, hpa]; exact ⟨by go_simp, by go_simp, by go_simp, by go_simp, by go_simp, by go_simp⟩
  obtain ⟨pc, hpc⟩ : ∃ p, p = w.heap.size + 1 := ⟨_, rfl⟩
  have hbc : Box3 w0 pc (Value.bool cB) (Value.slice cxO cxL cxC) (Value.slice cyO cyL cyC) := by rw [hw0, hpc]; exact ⟨by go_simp, by go_simp, by go_simp, by go_simp, by go_simp, by go_simp⟩
  obtain ⟨pr, hpr⟩ : ∃ p, p = w.heap.size + 1 + 1 := ⟨_, rfl⟩
  have hbr : Box3 w0 pr (Value.bool false) (Value.slice none 0 0) (Value.slice none 0 0) := by rw [hw0, hpr]; exact ⟨by go_simp, by go_simp, by go_simp, by go_simp, by go_simp, by go_simp⟩
  have HP : Hid (w.heap.size ≤ pa ∧ pa < pc ∧ pc < pr) := Lib.hid (by omega)
  replace ha := ha.below hbf
  replace hc := hc.below hbf
  replace hax := hax.below hbf
  replace hay := hay.below hbf
  replace hcx := hcx.below hbf
  replace hcy := hcy.below hbf
  have HW := Lib.hid hw0; clear hw0
  go_enter Tryz.func17, Tryz.ntmps17
  go_upto_region 1 with fail
  rw [← HW.out, ← hpr, ← hpc, ← hpa]
  clear hpa hpc hpr HW
  have hra1 := rlimbs_of_limbs hla.1
  have hra2 := rlimbs_of_limbs hla.2
  have hrc1 := rlimbs_of_limbs hlc.1
  have hrc2 := rlimbs_of_limbs hlc.2
  have hl1 := rlimbs_of_limbs (limbs_mul hla.1 hlc.2)
  have hl2 := rlimbs_of_limbs (limbs_mul hlc.1 hla.2)
  have hl3 := rlimbs_of_limbs (limbs_mul hla.2 hlc.2)
  rw [Nat.add_comm j i] at hl2
  have hl4 := rlimbs_add hl1 hl2
  have HPD : Hid (0 < a.den * c.den) := Lib.hid (Nat.mul_pos a.den_pos c.den_pos)
  refine wp_region_seq (S := fun w' => Box3 w' pa (Value.bool aB) (Value.slice axO axL axC) (Value.slice ayO ayL ayC) ∧ Box3 w' pc (Value.bool cB) (Value.slice cxO cxL cxC) (Value.slice cyO cyL cyC)) [(true, 0), (true, 1), (true, 2), (true, 3), (true, 5), (true, 6), (true, 7), (true, 8), (true, 10), (true, 11), (true, 12), (true, 13), (false, 4), (false, 9), (false, 14), (true, 15), (true, 16), (true, 17)] (by kernel_rfl) (by kernel_rfl) (by kernel_rfl) (by kernel_rfl) (by kernel_rfl) (fun d _ _ _ _ h => by cases d <;> exact h) ⟨hba.drew, hbc.drew⟩ (fun _ => ?_)
  simp only [pickOps, List.append_eq, List.cons_append, List.nil_append, List.getElem?_toArray, List.getElem?_cons_succ, List.getElem?_cons_zero]
  have hb : Below w0.heap.size w0 w0.drew := (Below.refl _ _).drew
  generalize w0.drew = w1 at hb ⊢
  replace hba := hba.kept hb
  replace hbc := hbc.kept hb
  replace hbr := hbr.kept hb
  replace ha := ha.below hb
  replace hc := hc.below hb
  replace hax := hax.below hb
  replace hay := hay.below hb
  replace hcx := hcx.below hb
  replace hcy := hcy.below hb
  replace hbf := hbf.trans (hb.mono hbf.size)
  clear hb
  repeat (first | (refine seq_take (v := ?_) (by rfl) ?_ ?_; rotate_left; (· intro w hSw; (try dsimp only at hSw); obtain ⟨⟨ea0, ea1, ea2, _, _, _⟩, ⟨ec0, ec1, ec2, _, _, _⟩⟩ := hSw; go_simp; all_goals with_reducible rfl); (try simp only [Act.put, List.setIfInBounds_toArray, List.set_cons_zero, List.set_cons_succ])) | (refine seq_leave (by rfl) ?_; (try simp only [Act.put, List.setIfInBounds_toArray, List.set_cons_zero, List.set_cons_succ])))
  refine seq_step (by rfl) (fun K hK => ?_)
  go_simp
  go_at_call 49
  (with_reducible refine (rmul_any _ _ a.num.natAbs c.den _ hax hcy (by omega) (by omega)).mono ?_)
  rintro e w2 ⟨r9, rfl, hx, hb⟩
  obtain ⟨xO, xL, xC, rfl⟩ := hx.form
  replace hba := hba.kept hb
  replace hbc := hbc.kept hb
  replace hbr := hbr.kept hb
  replace ha := ha.below hb
  replace hc := hc.below hb
  replace hax := hax.below hb
  replace hay := hay.below hb
  replace hcx := hcx.below hb
  replace hcy := hcy.below hb
  replace hbf := hbf.trans (hb.mono hbf.size)
  clear hb
  first | refine hK.out _ _ ⟨hba, hbc⟩ (fun _ => ?_) | (go_wp2_with fail; refine hK.out _ _ ⟨hba, hbc⟩ (fun _ => ?_))
  clear hK K
  (try simp only [Act.put, List.setIfInBounds_toArray, List.set_cons_zero, List.set_cons_succ])
  refine seq_step (by rfl) (fun K hK => ?_)
  go_simp
  go_at_call 49
  (with_reducible refine (rmul_any _ _ c.num.natAbs a.den _ hcx hay (by omega) (by omega)).mono ?_)
  rintro e w3 ⟨r9, rfl, hy, hb⟩
  obtain ⟨yO, yL, yC, rfl⟩ := hy.form
  replace hba := hba.kept hb
  replace hbc := hbc.kept hb
  replace hbr := hbr.kept hb
  replace ha := ha.below hb
  replace hc := hc.below hb
  replace hax := hax.below hb
  replace hay := hay.below hb
  replace hcx := hcx.below hb
  replace hcy := hcy.below hb
  replace hx := hx.below hb
  replace hbf := hbf.trans (hb.mono hbf.size)
  clear hb
  first | refine hK.out _ _ ⟨hba, hbc⟩ (fun _ => ?_) | (go_wp2_with fail; refine hK.out _ _ ⟨hba, hbc⟩ (fun _ => ?_))
  clear hK K
  (try simp only [Act.put, List.setIfInBounds_toArray, List.set_cons_zero, List.set_cons_succ])
  refine seq_step (by rfl) (fun K hK => ?_)
  go_simp
  go_at_call 49
  (with_reducible refine (rmul_any _ _ a.den c.den _ hay hcy (by omega) (by omega)).mono ?_)
  rintro e w4 ⟨r9, rfl, hm, hb⟩
  obtain ⟨mO, mL, mC, rfl⟩ := hm.form
  replace hba := hba.kept hb
  replace hbc := hbc.kept hb
  replace hbr := hbr.kept hb
  replace ha := ha.below hb
  replace hc := hc.below hb
  replace hax := hax.below hb
  replace hay := hay.below hb
  replace hcx := hcx.below hb
  replace hcy := hcy.below hb
  replace hx := hx.below hb
  replace hy := hy.below hb
  replace hbf := hbf.trans (hb.mono hbf.size)
  clear hb
  first | refine hK.out _ _ ⟨hba, hbc⟩ (fun _ => ?_) | (go_wp2_with fail; refine hK.out _ _ ⟨hba, hbc⟩ (fun _ => ?_))
  clear hK K
  (try simp only [Act.put, List.setIfInBounds_toArray, List.set_cons_zero, List.set_cons_succ])
  repeat (first | (refine seq_take (v := ?_) (by rfl) ?_ ?_; rotate_left; (· intro w hSw; (try dsimp only at hSw); obtain ⟨⟨ea0, ea1, ea2, _, _, _⟩, ⟨ec0, ec1, ec2, _, _, _⟩⟩ := hSw; go_simp; all_goals with_reducible rfl); (try simp only [Act.put, List.setIfInBounds_toArray, List.set_cons_zero, List.set_cons_succ])) | (refine seq_leave (by rfl) ?_; (try simp only [Act.put, List.setIfInBounds_toArray, List.set_cons_zero, List.set_cons_succ])))
  refine seq_end ?_
  by_cases hs : aB = cB
  case pos =>
    subst hs
    have ea0 := hba.c0
    have ea1 := hba.c1
    have ea2 := hba.c2
    have ec0 := hbc.c0
    have ec1 := hbc.c1
    have ec2 := hbc.c2
    go_upto_region 3 with fail
    clear ea0 ea1 ea2 ec0 ec1 ec2
    refine wp_region_seq (S := fun w' => Box3 w' pa (Value.bool aB) (Value.slice axO axL axC) (Value.slice ayO ayL ayC)) [(true, 0), (true, 1), (true, 2), (true, 3), (true, 5), (false, 4), (false, 6), (false, 7)] (by kernel_rfl) (by kernel_rfl) (by kernel_rfl) (by kernel_rfl) (by kernel_rfl) (fun d _ _ _ _ h => by cases d <;> exact h) hba.drew (fun _ => ?_)
    simp only [pickOps, List.append_eq, List.cons_append, List.nil_append, List.getElem?_toArray, List.getElem?_cons_succ, List.getElem?_cons_zero]
    have hb : Below w4.heap.size w4 w4.drew := (Below.refl _ _).drew
    generalize w4.drew = w5 at hb ⊢
    replace hba := hba.kept hb
    replace hbc := hbc.kept hb
    replace hbr := hbr.kept hb
    replace ha := ha.below hb
    replace hc := hc.below hb
    replace hax := hax.below hb
    replace hay := hay.below hb
    replace hcx := hcx.below hb
    replace hcy := hcy.below hb
    replace hx := hx.below hb
    replace hy := hy.below hb
    replace hm := hm.below hb
    replace hbf := hbf.trans (hb.mono hbf.size)
    clear hb
    repeat (first | (refine seq_take (v := ?_) (by rfl) ?_ ?_; rotate_left; (· intro w hSw; (try dsimp only at hSw); obtain ⟨ea0, ea1, ea2, _, _, _⟩ := hSw; go_simp; all_goals with_reducible rfl); (try simp only [Act.put, List.setIfInBounds_toArray, List.set_cons_zero, List.set_cons_succ])) | (refine seq_leave (by rfl) ?_; (try simp only [Act.put, List.setIfInBounds_toArray, List.set_cons_zero, List.set_cons_succ])))
    refine seq_step (by rfl) (fun K hK => ?_)
    go_simp
    go_at_call 54
    (with_reducible refine (radd_any _ _ _ _ _ hx hy (by omega) (by omega)).mono ?_)
    rintro e w6 ⟨r9, rfl, hz, hb⟩
    obtain ⟨zO, zL, zC, rfl⟩ := hz.form
    replace hba := hba.kept hb
    replace hbc := hbc.kept hb
    replace hbr := hbr.kept hb
    replace ha := ha.below hb
    replace hc := hc.below hb
    replace hax := hax.below hb
    replace hay := hay.below hb
    replace hcx := hcx.below hb
    replace hcy := hcy.below hb
    replace hx := hx.below hb
    replace hy := hy.below hb
    replace hm := hm.below hb
    replace hbf := hbf.trans (hb.mono hbf.size)
    clear hb
    first | refine hK.out _ _ hba (fun _ => ?_) | (go_wp2_with fail; refine hK.out _ _ hba (fun _ => ?_))
    clear hK K
    (try simp only [Act.put, List.setIfInBounds_toArray, List.set_cons_zero, List.set_cons_succ])
    refine seq_step (by rfl) (fun K hK => ?_)
    go_simp
    go_at_call 48
    (with_reducible refine (rmake_any _ _ _ _ _ _ hz hm (by omega) (by omega) HPD.out).mono ?_)
    rintro e w7 hq9
    obtain ⟨qB, qxO, qxL, qxC, qyO, qyL, qyC, rfl, hS, hqx, hqy, hq, hb⟩ := hq9.out
    have HqS := Lib.hid hS; clear hS
    replace hba := hba.kept hb
    replace hbc := hbc.kept hb
    replace hbr := hbr.kept hb
    replace ha := ha.below hb
    replace hc := hc.below hb
    replace hax := hax.below hb
    replace hay := hay.below hb
    replace hcx := hcx.below hb
    replace hcy := hcy.below hb
    replace hx := hx.below hb
    replace hy := hy.below hb
    replace hm := hm.below hb
    replace hz := hz.below hb
    replace hbf := hbf.trans (hb.mono hbf.size)
    clear hb
    first | refine hK.out _ _ hba (fun _ => ?_) | (go_wp2_with fail; refine hK.out _ _ hba (fun _ => ?_))
    clear hK K
    (try simp only [Act.put, List.setIfInBounds_toArray, List.set_cons_zero, List.set_cons_succ])
    refine seq_step (by rfl) (fun K hK => ?_)
    have er0 := hbr.c0
    have fr0 := hbr.f0
    have er1 := hbr.c1
    have fr1 := hbr.f1
    have er2 := hbr.c2
    have fr2 := hbr.f2
    go_simp
    clear er0 fr0 er1 fr1 er2 fr2
    obtain ⟨w8, hwE⟩ : ∃ W, W = ((w7.setCell ⟨pr, 0, none⟩ (Value.bool qB)).setCell ⟨pr, 1, none⟩ (Value.slice qxO qxL qxC)).setCell ⟨pr, 2, none⟩ (Value.slice qyO qyL qyC) := ⟨_, rfl⟩
    rw [← hwE]
    replace ha := ha.set3 (u0 := (Value.bool qB)) (u1 := (Value.slice qxO qxL qxC)) (u2 := (Value.slice qyO qyL qyC)) hbr; rw [← hwE] at ha
    replace hc := hc.set3 (u0 := (Value.bool qB)) (u1 := (Value.slice qxO qxL qxC)) (u2 := (Value.slice qyO qyL qyC)) hbr; rw [← hwE] at hc
    replace hax := hax.set3 (u0 := (Value.bool qB)) (u1 := (Value.slice qxO qxL qxC)) (u2 := (Value.slice qyO qyL qyC)) hbr; rw [← hwE] at hax
    replace hay := hay.set3 (u0 := (Value.bool qB)) (u1 := (Value.slice qxO qxL qxC)) (u2 := (Value.slice qyO qyL qyC)) hbr; rw [← hwE] at hay
    replace hcx := hcx.set3 (u0 := (Value.bool qB)) (u1 := (Value.slice qxO qxL qxC)) (u2 := (Value.slice qyO qyL qyC)) hbr; rw [← hwE] at hcx
    replace hcy := hcy.set3 (u0 := (Value.bool qB)) (u1 := (Value.slice qxO qxL qxC)) (u2 := (Value.slice qyO qyL qyC)) hbr; rw [← hwE] at hcy
    replace hx := hx.set3 (u0 := (Value.bool qB)) (u1 := (Value.slice qxO qxL qxC)) (u2 := (Value.slice qyO qyL qyC)) hbr; rw [← hwE] at hx
    replace hy := hy.set3 (u0 := (Value.bool qB)) (u1 := (Value.slice qxO qxL qxC)) (u2 := (Value.slice qyO qyL qyC)) hbr; rw [← hwE] at hy
    replace hm := hm.set3 (u0 := (Value.bool qB)) (u1 := (Value.slice qxO qxL qxC)) (u2 := (Value.slice qyO qyL qyC)) hbr; rw [← hwE] at hm
    replace hz := hz.set3 (u0 := (Value.bool qB)) (u1 := (Value.slice qxO qxL qxC)) (u2 := (Value.slice qyO qyL qyC)) hbr; rw [← hwE] at hz
    replace hqx := hqx.set3 (u0 := (Value.bool qB)) (u1 := (Value.slice qxO qxL qxC)) (u2 := (Value.slice qyO qyL qyC)) hbr; rw [← hwE] at hqx
    replace hqy := hqy.set3 (u0 := (Value.bool qB)) (u1 := (Value.slice qxO qxL qxC)) (u2 := (Value.slice qyO qyL qyC)) hbr; rw [← hwE] at hqy
    replace hq := hq.set3 (u0 := (Value.bool qB)) (u1 := (Value.slice qxO qxL qxC)) (u2 := (Value.slice qyO qyL qyC)) hbr; rw [← hwE] at hq
    replace hba := hba.set3o (u0 := (Value.bool qB)) (u1 := (Value.slice qxO qxL qxC)) (u2 := (Value.slice qyO qyL qyC)) (show pa ≠ pr by have := HP.out; omega); rw [← hwE] at hba
    replace hbc := hbc.set3o (u0 := (Value.bool qB)) (u1 := (Value.slice qxO qxL qxC)) (u2 := (Value.slice qyO qyL qyC)) (show pc ≠ pr by have := HP.out; omega); rw [← hwE] at hbc
    replace hbf := below_set3 (u0 := (Value.bool qB)) (u1 := (Value.slice qxO qxL qxC)) (u2 := (Value.slice qyO qyL qyC)) hbf (show w.heap.size ≤ pr by have := HP.out; omega); rw [← hwE] at hbf
    replace hbr := hbr.set3 (u0 := (Value.bool qB)) (u1 := (Value.slice qxO qxL qxC)) (u2 := (Value.slice qyO qyL qyC)); rw [← hwE] at hbr; clear hwE
    first | refine hK.out _ _ hba (fun _ => ?_) | (go_wp2_with fail; refine hK.out _ _ hba (fun _ => ?_))
    clear hK K
    (try simp only [Act.put, List.setIfInBounds_toArray, List.set_cons_zero, List.set_cons_succ])
    refine seq_end ?_
    rw [qadd_same HaS.out.symm HcS.out.symm] at hq
    go_wp2_with fail
    exact ret_rrat rfl rfl hbr rfl ⟨_, rfl, hq, hbf⟩
  have hsb : (aB == cB) = false := by cases aB <;> cases cB <;> first | rfl | exact (hs rfl).elim
  have HSN : Hid (decide (a < 0) ≠ decide (c < 0)) := Lib.hid (by rw [← HaS.out, ← HcS.out]; exact hs)
  clear hs
  have ea0 := hba.c0
  have ea1 := hba.c1
  have ea2 := hba.c2
  have ec0 := hbc.c0
  have ec1 := hbc.c1
  have ec2 := hbc.c2
  go_wp2_with fail
  refine (rcmp_any _ _ _ _ _ hx hy).mono ?_
  rintro e w5 ⟨rfl, hb⟩
  clear ea0 ea1 ea2 ec0 ec1 ec2
  replace hba := hba.kept hb
  replace hbc := hbc.kept hb
  replace hbr := hbr.kept hb
  replace ha := ha.below hb
  replace hc := hc.below hb
  replace hax := hax.below hb
  replace hay := hay.below hb
  replace hcx := hcx.below hb
  replace hcy := hcy.below hb
  replace hx := hx.below hb
  replace hy := hy.below hb
  replace hm := hm.below hb
  replace hbf := hbf.trans (hb.mono hbf.size)
  clear hb
  have hcg := cmpI_ge (a.num.natAbs * c.den) (c.num.natAbs * a.den)
  generalize cmpI (a.num.natAbs * c.den) (c.num.natAbs * a.den) = c9 at *
  by_cases hle : c.num.natAbs * a.den ≤ a.num.natAbs * c.den
  case pos =>
    have hge : (0 : Int) ≤ c9 := hcg.2 hle
    have HLE := Lib.hid hle; clear hle hcg
    go_upto_region 5 with fail
    refine wp_region_seq (S := fun w' => Box3 w' pa (Value.bool aB) (Value.slice axO axL axC) (Value.slice ayO ayL ayC)) [(true, 0), (true, 1), (true, 2), (true, 3), (true, 5), (false, 4), (false, 6), (false, 7)] (by kernel_rfl) (by kernel_rfl) (by kernel_rfl) (by kernel_rfl) (by kernel_rfl) (fun d _ _ _ _ h => by cases d <;> exact h) hba.drew (fun _ => ?_)
    simp only [pickOps, List.append_eq, List.cons_append, List.nil_append, List.getElem?_toArray, List.getElem?_cons_succ, List.getElem?_cons_zero]
    have hb : Below w5.heap.size w5 w5.drew := (Below.refl _ _).drew
    generalize w5.drew = w6 at hb ⊢
    replace hba := hba.kept hb
    replace hbc := hbc.kept hb
    replace hbr := hbr.kept hb
    replace ha := ha.below hb
    replace hc := hc.below hb
    replace hax := hax.below hb
    replace hay := hay.below hb
    replace hcx := hcx.below hb
    replace hcy := hcy.below hb
    replace hx := hx.below hb
    replace hy := hy.below hb
    replace hm := hm.below hb
    replace hbf := hbf.trans (hb.mono hbf.size)
    clear hb
    repeat (first | (refine seq_take (v := ?_) (by rfl) ?_ ?_; rotate_left; (· intro w hSw; (try dsimp only at hSw); obtain ⟨ea0, ea1, ea2, _, _, _⟩ := hSw; go_simp; all_goals with_reducible rfl); (try simp only [Act.put, List.setIfInBounds_toArray, List.set_cons_zero, List.set_cons_succ])) | (refine seq_leave (by rfl) ?_; (try simp only [Act.put, List.setIfInBounds_toArray, List.set_cons_zero, List.set_cons_succ])))
    refine seq_step (by rfl) (fun K hK => ?_)
    go_simp
    go_at_call 55
    (with_reducible refine (rsub_any _ _ _ _ _ hx hy (by omega) HLE.out).mono ?_)
    rintro e w7 ⟨r9, rfl, hz, hb⟩
    obtain ⟨zO, zL, zC, rfl⟩ := hz.form
    replace hba := hba.kept hb
    replace hbc := hbc.kept hb
    replace hbr := hbr.kept hb
    replace ha := ha.below hb
    replace hc := hc.below hb
    replace hax := hax.below hb
    replace hay := hay.below hb
    replace hcx := hcx.below hb
    replace hcy := hcy.below hb
    replace hx := hx.below hb
    replace hy := hy.below hb
    replace hm := hm.below hb
    replace hbf := hbf.trans (hb.mono hbf.size)
    clear hb
    first | refine hK.out _ _ hba (fun _ => ?_) | (go_wp2_with fail; refine hK.out _ _ hba (fun _ => ?_))
    clear hK K
    (try simp only [Act.put, List.setIfInBounds_toArray, List.set_cons_zero, List.set_cons_succ])
    refine seq_step (by rfl) (fun K hK => ?_)
    go_simp
    go_at_call 48
    (with_reducible refine (rmake_any _ _ _ _ _ _ hz hm (rlimbs_mono (Nat.sub_le _ _) (by omega)) (by omega) HPD.out).mono ?_)
    rintro e w8 hq9
    obtain ⟨qB, qxO, qxL, qxC, qyO, qyL, qyC, rfl, hS, hqx, hqy, hq, hb⟩ := hq9.out
    have HqS := Lib.hid hS; clear hS
    replace hba := hba.kept hb
    replace hbc := hbc.kept hb
    replace hbr := hbr.kept hb
    replace ha := ha.below hb
    replace hc := hc.below hb
    replace hax := hax.below hb
    replace hay := hay.below hb
    replace hcx := hcx.below hb
    replace hcy := hcy.below hb
    replace hx := hx.below hb
    replace hy := hy.below hb
    replace hm := hm.below hb
    replace hz := hz.below hb
    replace hbf := hbf.trans (hb.mono hbf.size)
    clear hb
    first | refine hK.out _ _ hba (fun _ => ?_) | (go_wp2_with fail; refine hK.out _ _ hba (fun _ => ?_))
    clear hK K
    (try simp only [Act.put, List.setIfInBounds_toArray, List.set_cons_zero, List.set_cons_succ])
    refine seq_step (by rfl) (fun K hK => ?_)
    have er0 := hbr.c0
    have fr0 := hbr.f0
    have er1 := hbr.c1
    have fr1 := hbr.f1
    have er2 := hbr.c2
    have fr2 := hbr.f2
    go_simp
    clear er0 fr0 er1 fr1 er2 fr2
    obtain ⟨w9, hwE⟩ : ∃ W, W = ((w8.setCell ⟨pr, 0, none⟩ (Value.bool qB)).setCell ⟨pr, 1, none⟩ (Value.slice qxO qxL qxC)).setCell ⟨pr, 2, none⟩ (Value.slice qyO qyL qyC) := ⟨_, rfl⟩
    rw [← hwE]
    replace ha := ha.set3 (u0 := (Value.bool qB)) (u1 := (Value.slice qxO qxL qxC)) (u2 := (Value.slice qyO qyL qyC)) hbr; rw [← hwE] at ha
    replace hc := hc.set3 (u0 := (Value.bool qB)) (u1 := (Value.slice qxO qxL qxC)) (u2 := (Value.slice qyO qyL qyC)) hbr; rw [← hwE] at hc
    replace hax := hax.set3 (u0 := (Value.bool qB)) (u1 := (Value.slice qxO qxL qxC)) (u2 := (Value.slice qyO qyL qyC)) hbr; rw [← hwE] at hax
    replace hay := hay.set3 (u0 := (Value.bool qB)) (u1 := (Value.slice qxO qxL qxC)) (u2 := (Value.slice qyO qyL qyC)) hbr; rw [← hwE] at hay
    replace hcx := hcx.set3 (u0 := (Value.bool qB)) (u1 := (Value.slice qxO qxL qxC)) (u2 := (Value.slice qyO qyL qyC)) hbr; rw [← hwE] at hcx
    replace hcy := hcy.set3 (u0 := (Value.bool qB)) (u1 := (Value.slice qxO qxL qxC)) (u2 := (Value.slice qyO qyL qyC)) hbr; rw [← hwE] at hcy
    replace hx := hx.set3 (u0 := (Value.bool qB)) (u1 := (Value.slice qxO qxL qxC)) (u2 := (Value.slice qyO qyL qyC)) hbr; rw [← hwE] at hx
    replace hy := hy.set3 (u0 := (Value.bool qB)) (u1 := (Value.slice qxO qxL qxC)) (u2 := (Value.slice qyO qyL qyC)) hbr; rw [← hwE] at hy
    replace hm := hm.set3 (u0 := (Value.bool qB)) (u1 := (Value.slice qxO qxL qxC)) (u2 := (Value.slice qyO qyL qyC)) hbr; rw [← hwE] at hm
    replace hz := hz.set3 (u0 := (Value.bool qB)) (u1 := (Value.slice qxO qxL qxC)) (u2 := (Value.slice qyO qyL qyC)) hbr; rw [← hwE] at hz
    replace hqx := hqx.set3 (u0 := (Value.bool qB)) (u1 := (Value.slice qxO qxL qxC)) (u2 := (Value.slice qyO qyL qyC)) hbr; rw [← hwE] at hqx
    replace hqy := hqy.set3 (u0 := (Value.bool qB)) (u1 := (Value.slice qxO qxL qxC)) (u2 := (Value.slice qyO qyL qyC)) hbr; rw [← hwE] at hqy
    replace hq := hq.set3 (u0 := (Value.bool qB)) (u1 := (Value.slice qxO qxL qxC)) (u2 := (Value.slice qyO qyL qyC)) hbr; rw [← hwE] at hq
    replace hba := hba.set3o (u0 := (Value.bool qB)) (u1 := (Value.slice qxO qxL qxC)) (u2 := (Value.slice qyO qyL qyC)) (show pa ≠ pr by have := HP.out; omega); rw [← hwE] at hba
    replace hbc := hbc.set3o (u0 := (Value.bool qB)) (u1 := (Value.slice qxO qxL qxC)) (u2 := (Value.slice qyO qyL qyC)) (show pc ≠ pr by have := HP.out; omega); rw [← hwE] at hbc
    replace hbf := below_set3 (u0 := (Value.bool qB)) (u1 := (Value.slice qxO qxL qxC)) (u2 := (Value.slice qyO qyL qyC)) hbf (show w.heap.size ≤ pr by have := HP.out; omega); rw [← hwE] at hbf
    replace hbr := hbr.set3 (u0 := (Value.bool qB)) (u1 := (Value.slice qxO qxL qxC)) (u2 := (Value.slice qyO qyL qyC)); rw [← hwE] at hbr; clear hwE
    first | refine hK.out _ _ hba (fun _ => ?_) | (go_wp2_with fail; refine hK.out _ _ hba (fun _ => ?_))
    clear hK K
    (try simp only [Act.put, List.setIfInBounds_toArray, List.set_cons_zero, List.set_cons_succ])
    refine seq_end ?_
    rw [HaS.out, qadd_more HSN.out HLE.out] at hq
    go_wp2_with fail
    exact ret_rrat rfl rfl hbr rfl ⟨_, rfl, hq, hbf⟩
  have hge : ¬ (0 : Int) ≤ c9 := fun h => hle (hcg.1 h)
  have hge2 : c9 < 0 := by omega
  have HLE : Hid (a.num.natAbs * c.den ≤ c.num.natAbs * a.den) := Lib.hid (by omega)
  clear hle hcg
  go_upto_region 6 with fail
  refine wp_region_seq (S := fun w' => Box3 w' pc (Value.bool cB) (Value.slice cxO cxL cxC) (Value.slice cyO cyL cyC)) [(true, 0), (true, 1), (true, 2), (true, 3), (true, 5), (false, 4), (false, 6), (false, 7)] (by kernel_rfl) (by kernel_rfl) (by kernel_rfl) (by kernel_rfl) (by kernel_rfl) (fun d _ _ _ _ h => by cases d <;> exact h) hbc.drew (fun _ => ?_)
  simp only [pickOps, List.append_eq, List.cons_append, List.nil_append, List.getElem?_toArray, List.getElem?_cons_succ, List.getElem?_cons_zero]
  have hb : Below w5.heap.size w5 w5.drew := (Below.refl _ _).drew
  generalize w5.drew = w6 at hb ⊢
  replace hba := hba.kept hb
  replace hbc := hbc.kept hb
  replace hbr := hbr.kept hb
  replace ha := ha.below hb
  replace hc := hc.below hb
  replace hax := hax.below hb
  replace hay := hay.below hb
  replace hcx := hcx.below hb
  replace hcy := hcy.below hb
  replace hx := hx.below hb
  replace hy := hy.below hb
  replace hm := hm.below hb
  replace hbf := hbf.trans (hb.mono hbf.size)
  clear hb
  repeat (first | (refine seq_take (v := ?_) (by rfl) ?_ ?_; rotate_left; (· intro w hSw; (try dsimp only at hSw); obtain ⟨ec0, ec1, ec2, _, _, _⟩ := hSw; go_simp; all_goals with_reducible rfl); (try simp only [Act.put, List.setIfInBounds_toArray, List.set_cons_zero, List.set_cons_succ])) | (refine seq_leave (by rfl) ?_; (try simp only [Act.put, List.setIfInBounds_toArray, List.set_cons_zero, List.set_cons_succ])))
  refine seq_step (by rfl) (fun K hK => ?_)
  go_simp
  go_at_call 55
  (with_reducible refine (rsub_any _ _ _ _ _ hy hx (by omega) HLE.out).mono ?_)
  rintro e w7 ⟨r9, rfl, hz, hb⟩
  obtain ⟨zO, zL, zC, rfl⟩ := hz.form
  replace hba := hba.kept hb
  replace hbc := hbc.kept hb
  replace hbr := hbr.kept hb
  replace ha := ha.below hb
  replace hc := hc.below hb
  replace hax := hax.below hb
  replace hay := hay.below hb
  replace hcx := hcx.below hb
  replace hcy := hcy.below hb
  replace hx := hx.below hb
  replace hy := hy.below hb
  replace hm := hm.below hb
  replace hbf := hbf.trans (hb.mono hbf.size)
  clear hb
  first | refine hK.out _ _ hbc (fun _ => ?_) | (go_wp2_with fail; refine hK.out _ _ hbc (fun _ => ?_))
  clear hK K
  (try simp only [Act.put, List.setIfInBounds_toArray, List.set_cons_zero, List.set_cons_succ])
  refine seq_step (by rfl) (fun K hK => ?_)
  go_simp
  go_at_call 48
  (with_reducible refine (rmake_any _ _ _ _ _ _ hz hm (rlimbs_mono (Nat.sub_le _ _) (by omega)) (by omega) HPD.out).mono ?_)
  rintro e w8 hq9
  obtain ⟨qB, qxO, qxL, qxC, qyO, qyL, qyC, rfl, hS, hqx, hqy, hq, hb⟩ := hq9.out
  have HqS := Lib.hid hS; clear hS
  replace hba := hba.kept hb
  replace hbc := hbc.kept hb
  replace hbr := hbr.kept hb
  replace ha := ha.below hb
  replace hc := hc.below hb
  replace hax := hax.below hb
  replace hay := hay.below hb
  replace hcx := hcx.below hb
  replace hcy := hcy.below hb
  replace hx := hx.below hb
  replace hy := hy.below hb
  replace hm := hm.below hb
  replace hz := hz.below hb
  replace hbf := hbf.trans (hb.mono hbf.size)
  clear hb
  first | refine hK.out _ _ hbc (fun _ => ?_) | (go_wp2_with fail; refine hK.out _ _ hbc (fun _ => ?_))
  clear hK K
  (try simp only [Act.put, List.setIfInBounds_toArray, List.set_cons_zero, List.set_cons_succ])
  refine seq_step (by rfl) (fun K hK => ?_)
  have er0 := hbr.c0
  have fr0 := hbr.f0
  have er1 := hbr.c1
  have fr1 := hbr.f1
  have er2 := hbr.c2
  have fr2 := hbr.f2
  go_simp
  clear er0 fr0 er1 fr1 er2 fr2
  obtain ⟨w9, hwE⟩ : ∃ W, W = ((w8.setCell ⟨pr, 0, none⟩ (Value.bool qB)).setCell ⟨pr, 1, none⟩ (Value.slice qxO qxL qxC)).setCell ⟨pr, 2, none⟩ (Value.slice qyO qyL qyC) := ⟨_, rfl⟩
  rw [← hwE]
  replace ha := ha.set3 (u0 := (Value.bool qB)) (u1 := (Value.slice qxO qxL qxC)) (u2 := (Value.slice qyO qyL qyC)) hbr; rw [← hwE] at ha
  replace hc := hc.set3 (u0 := (Value.bool qB)) (u1 := (Value.slice qxO qxL qxC)) (u2 := (Value.slice qyO qyL qyC)) hbr; rw [← hwE] at hc
  replace hax := hax.set3 (u0 := (Value.bool qB)) (u1 := (Value.slice qxO qxL qxC)) (u2 := (Value.slice qyO qyL qyC)) hbr; rw [← hwE] at hax
  replace hay := hay.set3 (u0 := (Value.bool qB)) (u1 := (Value.slice qxO qxL qxC)) (u2 := (Value.slice qyO qyL qyC)) hbr; rw [← hwE] at hay
  replace hcx := hcx.set3 (u0 := (Value.bool qB)) (u1 := (Value.slice qxO qxL qxC)) (u2 := (Value.slice qyO qyL qyC)) hbr; rw [← hwE] at hcx
  replace hcy := hcy.set3 (u0 := (Value.bool qB)) (u1 := (Value.slice qxO qxL qxC)) (u2 := (Value.slice qyO qyL qyC)) hbr; rw [← hwE] at hcy
  replace hx := hx.set3 (u0 := (Value.bool qB)) (u1 := (Value.slice qxO qxL qxC)) (u2 := (Value.slice qyO qyL qyC)) hbr; rw [← hwE] at hx
  replace hy := hy.set3 (u0 := (Value.bool qB)) (u1 := (Value.slice qxO qxL qxC)) (u2 := (Value.slice qyO qyL qyC)) hbr; rw [← hwE] at hy
  replace hm := hm.set3 (u0 := (Value.bool qB)) (u1 := (Value.slice qxO qxL qxC)) (u2 := (Value.slice qyO qyL qyC)) hbr; rw [← hwE] at hm
  replace hz := hz.set3 (u0 := (Value.bool qB)) (u1 := (Value.slice qxO qxL qxC)) (u2 := (Value.slice qyO qyL qyC)) hbr; rw [← hwE] at hz
  replace hqx := hqx.set3 (u0 := (Value.bool qB)) (u1 := (Value.slice qxO qxL qxC)) (u2 := (Value.slice qyO qyL qyC)) hbr; rw [← hwE] at hqx
  replace hqy := hqy.set3 (u0 := (Value.bool qB)) (u1 := (Value.slice qxO qxL qxC)) (u2 := (Value.slice qyO qyL qyC)) hbr; rw [← hwE] at hqy
  replace hq := hq.set3 (u0 := (Value.bool qB)) (u1 := (Value.slice qxO qxL qxC)) (u2 := (Value.slice qyO qyL qyC)) hbr; rw [← hwE] at hq
  replace hba := hba.set3o (u0 := (Value.bool qB)) (u1 := (Value.slice qxO qxL qxC)) (u2 := (Value.slice qyO qyL qyC)) (show pa ≠ pr by have := HP.out; omega); rw [← hwE] at hba
  replace hbc := hbc.set3o (u0 := (Value.bool qB)) (u1 := (Value.slice qxO qxL qxC)) (u2 := (Value.slice qyO qyL qyC)) (show pc ≠ pr by have := HP.out; omega); rw [← hwE] at hbc
  replace hbf := below_set3 (u0 := (Value.bool qB)) (u1 := (Value.slice qxO qxL qxC)) (u2 := (Value.slice qyO qyL qyC)) hbf (show w.heap.size ≤ pr by have := HP.out; omega); rw [← hwE] at hbf
  replace hbr := hbr.set3 (u0 := (Value.bool qB)) (u1 := (Value.slice qxO qxL qxC)) (u2 := (Value.slice qyO qyL qyC)); rw [← hwE] at hbr; clear hwE
  first | refine hK.out _ _ hbc (fun _ => ?_) | (go_wp2_with fail; refine hK.out _ _ hbc (fun _ => ?_))
  clear hK K
  (try simp only [Act.put, List.setIfInBounds_toArray, List.set_cons_zero, List.set_cons_succ])
  refine seq_end ?_
  rw [Nat.mul_comm a.den c.den, HcS.out, qadd_more (Ne.symm HSN.out) HLE.out, Rat.add_comm] at hq
  go_wp2_with fail
  exact ret_rrat rfl rfl hbr rfl ⟨_, rfl, hq, hbf⟩
set_option maxRecDepth 100000 in
set_option maxHeartbeats 1000000 in
/-- RatDiv. -/
theorem rqdiv_any (va vc : Value) (a c : Rat) (i j : Nat) (w : World) (ha : RQIs w va a) (hc : RQIs w vc c) (hla : QB a i) (hlc : QB c j) (hij : i + j ≤ 90000) (h0 : c ≠ 0) :
    Calls Tryz.prog 57 #[va, vc] w (RQPost w (a / c)) := by
  obtain ⟨aB, axO, axL, axC, ayO, ayL, ayC, rfl, hS, hax, hay⟩ := ha.form
  have HaS := Lib.hid hS; clear hS
  obtain ⟨cB, cxO, cxL, cxC, cyO, cyL, cyC, rfl, hS, hcx, hcy⟩ := hc.form
  have HcS := Lib.hid hS; clear hS
  obtain ⟨w0, hw0⟩ : ∃ w0, w0 = (((w.alloc (.cells #[.bool aB, .slice axO axL axC, .slice ayO ayL ayC] 44)).alloc (.cells #[.bool cB, .slice cxO cxL cxC, .slice cyO cyL cyC] 44)).alloc (.cells #[.bool false, .slice none 0 0, .slice none 0 0] 44)) := ⟨_, rfl⟩
  have hbf : Below w.heap.size w w0 := by rw [hw0]; exact ((((Below.refl _ w).alloc (Nat.le_refl _) _).alloc (by simp <;> omega) _).alloc (by simp <;> omega) _)
  obtain ⟨pa, hpa⟩ : ∃ p, p = w.heap.size := ⟨_, rfl⟩
  have hba : Box3 w0 pa (Value.bool aB) (Value.slice axO axL axC) (Value.slice ayO ayL ayC) := by rw [hw0, hpa]; exact ⟨by go_simp, by go_simp, by go_simp, by go_simp, by go_simp, by go_simp⟩
  obtain ⟨pc, hpc⟩ : ∃ p, p = w.heap.size + 1 := ⟨_, rfl⟩
  have hbc : Box3 w0 pc (Value.bool cB) (Value.slice cxO cxL cxC) (Value.slice cyO cyL cyC) := by rw [hw0, hpc]; exact ⟨by go_simp, by go_simp, by go_simp, by go_simp, by go_simp, by go_simp⟩
  obtain ⟨pr, hpr⟩ : ∃ p, p = w.heap.size + 1 + 1 := ⟨_, rfl⟩
  have hbr : Box3 w0 pr (Value.bool false) (Value.slice none 0 0) (Value.slice none 0 0) := by rw [hw0, hpr]; exact ⟨by go_simp, by go_simp, by go_simp, by go_simp, by go_simp, by go_simp⟩
  have HP : Hid (w.heap.size ≤ pa ∧ pa < pc ∧ pc < pr) := Lib.hid (by omega)
  replace ha := ha.below hbf
  replace hc := hc.below hbf
  replace hax := hax.below hbf
  replace hay := hay.below hbf
  replace hcx := hcx.below hbf
  replace hcy := hcy.below hbf
  have HW := Lib.hid hw0; clear hw0
  go_enter Tryz.func57, Tryz.ntmps57
  go_upto_region 1 with fail
  rw [← HW.out, ← hpr, ← hpc, ← hpa]
  clear hpa hpc hpr HW
  have hra1 := rlimbs_of_limbs hla.1
  have hra2 := rlimbs_of_limbs hla.2
  have hrc1 := rlimbs_of_limbs hlc.1
  have hrc2 := rlimbs_of_limbs hlc.2
  have HC := Lib.hid h0; clear h0
  have hl1 := rlimbs_of_limbs (limbs_mul hla.1 hlc.2)
  have hl2 := rlimbs_of_limbs (limbs_mul hla.2 hlc.1)
  refine wp_region_seq (S := fun w' => Box3 w' pa (Value.bool aB) (Value.slice axO axL axC) (Value.slice ayO ayL ayC) ∧ Box3 w' pc (Value.bool cB) (Value.slice cxO cxL cxC) (Value.slice cyO cyL cyC)) [(true, 0), (true, 1), (true, 2), (true, 3), (true, 4), (true, 5), (true, 6), (true, 7), (true, 8), (true, 10), (true, 11), (true, 12), (true, 13), (false, 9), (false, 14), (false, 15), (false, 16)] (by kernel_rfl) (by kernel_rfl) (by kernel_rfl) (by kernel_rfl) (by kernel_rfl) (fun d _ _ _ _ h => by cases d <;> exact h) ⟨hba.drew, hbc.drew⟩ (fun _ => ?_)
  simp only [pickOps, List.append_eq, List.cons_append, List.nil_append, List.getElem?_toArray, List.getElem?_cons_succ, List.getElem?_cons_zero]
  have hb : Below w0.heap.size w0 w0.drew := (Below.refl _ _).drew
  generalize w0.drew = w1 at hb ⊢
  replace hba := hba.kept hb
  replace hbc := hbc.kept hb
  replace hbr := hbr.kept hb
  replace ha := ha.below hb
  replace hc := hc.below hb
  replace hax := hax.below hb
  replace hay := hay.below hb
  replace hcx := hcx.below hb
  replace hcy := hcy.below hb
  replace hbf := hbf.trans (hb.mono hbf.size)
  clear hb
  repeat (first | (refine seq_take (v := ?_) (by rfl) ?_ ?_; rotate_left; (· intro w hSw; (try dsimp only at hSw); obtain ⟨⟨ea0, ea1, ea2, _, _, _⟩, ⟨ec0, ec1, ec2, _, _, _⟩⟩ := hSw; go_simp; all_goals with_reducible rfl); (try simp only [Act.put, List.setIfInBounds_toArray, List.set_cons_zero, List.set_cons_succ])) | (refine seq_leave (by rfl) ?_; (try simp only [Act.put, List.setIfInBounds_toArray, List.set_cons_zero, List.set_cons_succ])))
  refine seq_step (by rfl) (fun K hK => ?_)
  go_simp
  go_at_call 49
  (with_reducible refine (rmul_any _ _ a.num.natAbs c.den _ hax hcy (by omega) (by omega)).mono ?_)
  rintro e w2 ⟨r9, rfl, hx, hb⟩
  obtain ⟨xO, xL, xC, rfl⟩ := hx.form
  replace hba := hba.kept hb
  replace hbc := hbc.kept hb
  replace hbr := hbr.kept hb
  replace ha := ha.below hb
  replace hc := hc.below hb
  replace hax := hax.below hb
  replace hay := hay.below hb
  replace hcx := hcx.below hb
  replace hcy := hcy.below hb
  replace hbf := hbf.trans (hb.mono hbf.size)
  clear hb
  first | refine hK.out _ _ ⟨hba, hbc⟩ (fun _ => ?_) | (go_wp2_with fail; refine hK.out _ _ ⟨hba, hbc⟩ (fun _ => ?_))
  clear hK K
  (try simp only [Act.put, List.setIfInBounds_toArray, List.set_cons_zero, List.set_cons_succ])
  refine seq_step (by rfl) (fun K hK => ?_)
  go_simp
  go_at_call 49
  (with_reducible refine (rmul_any _ _ a.den c.num.natAbs _ hay hcx (by omega) (by omega)).mono ?_)
  rintro e w3 ⟨r9, rfl, hy, hb⟩
  obtain ⟨yO, yL, yC, rfl⟩ := hy.form
  replace hba := hba.kept hb
  replace hbc := hbc.kept hb
  replace hbr := hbr.kept hb
  replace ha := ha.below hb
  replace hc := hc.below hb
  replace hax := hax.below hb
  replace hay := hay.below hb
  replace hcx := hcx.below hb
  replace hcy := hcy.below hb
  replace hx := hx.below hb
  replace hbf := hbf.trans (hb.mono hbf.size)
  clear hb
  first | refine hK.out _ _ ⟨hba, hbc⟩ (fun _ => ?_) | (go_wp2_with fail; refine hK.out _ _ ⟨hba, hbc⟩ (fun _ => ?_))
  clear hK K
  (try simp only [Act.put, List.setIfInBounds_toArray, List.set_cons_zero, List.set_cons_succ])
  refine seq_step (by rfl) (fun K hK => ?_)
  go_simp
  go_at_call 48
  (with_reducible refine (rmake_any _ _ _ _ _ _ hx hy (by omega) (by omega) (Nat.mul_pos a.den_pos (q_num_pos HC.out))).mono ?_)
  rintro e w4 hq9
  obtain ⟨qB, qxO, qxL, qxC, qyO, qyL, qyC, rfl, hS, hqx, hqy, hq, hb⟩ := hq9.out
  have HqS := Lib.hid hS; clear hS
  replace hba := hba.kept hb
  replace hbc := hbc.kept hb
  replace hbr := hbr.kept hb
  replace ha := ha.below hb
  replace hc := hc.below hb
  replace hax := hax.below hb
  replace hay := hay.below hb
  replace hcx := hcx.below hb
  replace hcy := hcy.below hb
  replace hx := hx.below hb
  replace hy := hy.below hb
  replace hbf := hbf.trans (hb.mono hbf.size)
  clear hb
  first | refine hK.out _ _ ⟨hba, hbc⟩ (fun _ => ?_) | (go_wp2_with fail; refine hK.out _ _ ⟨hba, hbc⟩ (fun _ => ?_))
  clear hK K
  (try simp only [Act.put, List.setIfInBounds_toArray, List.set_cons_zero, List.set_cons_succ])
  refine seq_step (by rfl) (fun K hK => ?_)
  have er0 := hbr.c0
  have fr0 := hbr.f0
  have er1 := hbr.c1
  have fr1 := hbr.f1
  have er2 := hbr.c2
  have fr2 := hbr.f2
  go_simp
  clear er0 fr0 er1 fr1 er2 fr2
  obtain ⟨w5, hwE⟩ : ∃ W, W = ((w4.setCell ⟨pr, 0, none⟩ (Value.bool qB)).setCell ⟨pr, 1, none⟩ (Value.slice qxO qxL qxC)).setCell ⟨pr, 2, none⟩ (Value.slice qyO qyL qyC) := ⟨_, rfl⟩
  rw [← hwE]
  replace ha := ha.set3 (u0 := (Value.bool qB)) (u1 := (Value.slice qxO qxL qxC)) (u2 := (Value.slice qyO qyL qyC)) hbr; rw [← hwE] at ha
  replace hc := hc.set3 (u0 := (Value.bool qB)) (u1 := (Value.slice qxO qxL qxC)) (u2 := (Value.slice qyO qyL qyC)) hbr; rw [← hwE] at hc
  replace hax := hax.set3 (u0 := (Value.bool qB)) (u1 := (Value.slice qxO qxL qxC)) (u2 := (Value.slice qyO qyL qyC)) hbr; rw [← hwE] at hax
  replace hay := hay.set3 (u0 := (Value.bool qB)) (u1 := (Value.slice qxO qxL qxC)) (u2 := (Value.slice qyO qyL qyC)) hbr; rw [← hwE] at hay
  replace hcx := hcx.set3 (u0 := (Value.bool qB)) (u1 := (Value.slice qxO qxL qxC)) (u2 := (Value.slice qyO qyL qyC)) hbr; rw [← hwE] at hcx
  replace hcy := hcy.set3 (u0 := (Value.bool qB)) (u1 := (Value.slice qxO qxL qxC)) (u2 := (Value.slice qyO qyL qyC)) hbr; rw [← hwE] at hcy
  replace hx := hx.set3 (u0 := (Value.bool qB)) (u1 := (Value.slice qxO qxL qxC)) (u2 := (Value.slice qyO qyL qyC)) hbr; rw [← hwE] at hx
  replace hy := hy.set3 (u0 := (Value.bool qB)) (u1 := (Value.slice qxO qxL qxC)) (u2 := (Value.slice qyO qyL qyC)) hbr; rw [← hwE] at hy
  replace hqx := hqx.set3 (u0 := (Value.bool qB)) (u1 := (Value.slice qxO qxL qxC)) (u2 := (Value.slice qyO qyL qyC)) hbr; rw [← hwE] at hqx
  replace hqy := hqy.set3 (u0 := (Value.bool qB)) (u1 := (Value.slice qxO qxL qxC)) (u2 := (Value.slice qyO qyL qyC)) hbr; rw [← hwE] at hqy
  replace hq := hq.set3 (u0 := (Value.bool qB)) (u1 := (Value.slice qxO qxL qxC)) (u2 := (Value.slice qyO qyL qyC)) hbr; rw [← hwE] at hq
  replace hba := hba.set3o (u0 := (Value.bool qB)) (u1 := (Value.slice qxO qxL qxC)) (u2 := (Value.slice qyO qyL qyC)) (show pa ≠ pr by have := HP.out; omega); rw [← hwE] at hba
  replace hbc := hbc.set3o (u0 := (Value.bool qB)) (u1 := (Value.slice qxO qxL qxC)) (u2 := (Value.slice qyO qyL qyC)) (show pc ≠ pr by have := HP.out; omega); rw [← hwE] at hbc
  replace hbf := below_set3 (u0 := (Value.bool qB)) (u1 := (Value.slice qxO qxL qxC)) (u2 := (Value.slice qyO qyL qyC)) hbf (show w.heap.size ≤ pr by have := HP.out; omega); rw [← hwE] at hbf
  replace hbr := hbr.set3 (u0 := (Value.bool qB)) (u1 := (Value.slice qxO qxL qxC)) (u2 := (Value.slice qyO qyL qyC)); rw [← hwE] at hbr; clear hwE
  first | refine hK.out _ _ ⟨hba, hbc⟩ (fun _ => ?_) | (go_wp2_with fail; refine hK.out _ _ ⟨hba, hbc⟩ (fun _ => ?_))
  clear hK K
  (try simp only [Act.put, List.setIfInBounds_toArray, List.set_cons_zero, List.set_cons_succ])
  refine seq_end ?_
  rw [bne_hid HaS HcS, qdiv_is HC.out] at hq
  go_wp2_with fail
  exact ret_rrat rfl rfl hbr rfl ⟨_, rfl, hq, hbf⟩
theorem QB.half (k : Nat) (hk : 1 ≤ k) : QB half k := ⟨by rw [half_num]; exact limbs_bound (by decide) hk, by rw [half_den]; exact limbs_bound (by decide) hk⟩
end Go.Proofs.YtieffhkfefimeaaGreatDoor
namespace Go.Proofs.YtieffhkfefimeaaGreatDoor
open Go.RowKit
set_option linter.unusedVariables false
set_option linter.unusedSimpArgs false
attribute [local go_sem] field_nat
set_option maxRecDepth 100000 in
set_option maxHeartbeats 1000000 in
/-- Of. -/
theorem rof_any (v : Nat) (w : World) (hv : v < 18446744073709551616) :
    Calls Tryz.prog 50 #[.int .u64 (v : Int)] w fun e w' => ∃ r, e = .returned r ∧ RIs w' r v ∧ Below w.heap.size w w' := by
  have hlen : (rlimbs v).length ≤ 5 := rlimbs_length_le (Nat.lt_of_lt_of_le hv (by decide))
  have HL := Lib.hid hlen; clear hlen
  go_enter Tryz.func50, Tryz.ntmps50
  go_wp2_with fail
  go_loopg [0, 3] v (fun gg nv av wr => ∃ (zs : List Nat), gg ≤ v ∧ nv = .int .u64 (gg : Int) ∧ Owns w.heap.size 3 wr av (ints .i64 zs) ∧ rlimbs v = zs ++ rlimbs gg ∧ Below w.heap.size w wr)
  case atStart => exact ⟨[], Nat.le_refl _, rfl, Owns.nil _ _ _, rfl, Below.refl _ _⟩
  case round =>
    obtain ⟨zs, hle, rfl, ho, hz, hbr⟩ := hrel
    have hzl : zs.length ≤ 5 := by have := HL.out; rw [hz] at this; simp at this; omega
    have HZ := Lib.hid hz; clear hz
    have HLE := Lib.hid hle; clear hle
    by_cases h0 : 0 < gk
    · have hg64 : gk < 18446744073709551616 := by have := HLE.out; omega
      go_wp2_with (at_builtin; refine append1 ER ho rfl rfl rfl rfl rfl (by rw [ints_length]; omega) (by rw [ints_length]; unfold maxLen; omega) hbr.size ?_; intro v5 w5 ho5 hb5 hg5)
      go_roundg (gk / 10000)
      case measure => omega
      case rel =>
        refine ⟨zs ++ [gk % 10000], by have := HLE.out; omega, by go_num, ?_, by rw [HZ.out, rlimbs_pos h0]; simp, hbr.trans hb5⟩
        rw [ints_append]
        refine owns_cast ho5 ?_
        simp [ints]
    · obtain rfl : gk = 0 := by omega
      have hz2 : rlimbs v = zs := by have := HZ.out; rw [rlimbs_zero] at this; simpa using this
      go_wp2
      go_ret
      exact ⟨_, rfl, by show Ints .i64 _ _ (rlimbs v); rw [hz2]; exact ho.toInts, hbr⟩
set_option maxRecDepth 100000 in
set_option maxHeartbeats 1000000 in
/-- Int. -/
theorem rint_any (v : Int) (w : World) (hv1 : -9223372036854775808 ≤ v) (hv2 : v ≤ 9223372036854775807) :
    Calls Tryz.prog 56 #[.int .i64 v] w (RQPost w (v : Rat)) := by
  obtain ⟨w0, hw0⟩ : ∃ w0, w0 = (w.alloc (.cells #[.bool false, .slice none 0 0, .slice none 0 0] 44)) := ⟨_, rfl⟩
  have hbf : Below w.heap.size w w0 := by rw [hw0]; exact ((Below.refl _ w).alloc (Nat.le_refl _) _)
  obtain ⟨pr, hpr⟩ : ∃ p, p = w.heap.size := ⟨_, rfl⟩
  have hbr : Box3 w0 pr (Value.bool false) (Value.slice none 0 0) (Value.slice none 0 0) := by rw [hw0, hpr]; exact ⟨by go_simp, by go_simp, by go_simp, by go_simp, by go_simp, by go_simp⟩
  have HP : Hid (w.heap.size ≤ pr) := Lib.hid (by omega)
  have HW := Lib.hid hw0; clear hw0
  go_enter Tryz.func56, Tryz.ntmps56
  go_upto_region 1 with fail
  rw [← HW.out, ← hpr]
  clear hpr HW
  have h1r : (rlimbs 1).length ≤ 1000000 := by rw [rlimbs_one]; omega
  have hvr : (rlimbs v.natAbs).length ≤ 1000000 := Nat.le_trans (rlimbs_length_le (k := 5) (Nat.lt_of_lt_of_le (show v.natAbs < 18446744073709551616 by omega) (by decide))) (by omega)
  by_cases h0 : v < 0
  case pos =>
    have hE1 : IntKind.i64.wrap (v + 1) = v + 1 := by simp [IntKind.wrap, IntKind.bits, IntKind.signed]; omega
    have hE2 : IntKind.i64.wrap (-(v + 1)) = -(v + 1) := by simp [IntKind.wrap, IntKind.bits, IntKind.signed]; omega
    have hE3 : IntKind.u64.wrap (-(v + 1)) = -(v + 1) := by simp only [IntKind.wrap, IntKind.bits, IntKind.signed, Bool.false_and, Bool.false_eq_true, if_false]; omega
    have hE4 : IntKind.u64.wrap (-(v + 1) + 1) = ((v.natAbs : Nat) : Int) := by simp only [IntKind.wrap, IntKind.bits, IntKind.signed, Bool.false_and, Bool.false_eq_true, if_false]; omega
    go_wp2_with fail
    refine (rof_any v.natAbs _ (by omega)).mono ?_
    rintro e w1 ⟨r9, rfl, hn, hb⟩
    replace hbr := hbr.kept hb
    replace hbf := hbf.trans (hb.mono hbf.size)
    clear hb
    obtain ⟨nO, nL, nC, rfl⟩ := hn.form
    obtain ⟨w2, hwE⟩ : ∃ W, W = (w1.alloc (.cells #[.int .i64 1] 3)) := ⟨_, rfl⟩
    have hb : Below w1.heap.size w1 w2 := by rw [hwE]; exact ((Below.refl _ w1).alloc (Nat.le_refl _) _)
    obtain ⟨oP, hpo⟩ : ∃ p, p = w1.heap.size := ⟨_, rfl⟩
    have ho : RIs w2 (.slice (some ⟨oP, 0, none⟩) 1 1) 1 := by rw [hwE, hpo]; exact (one_is w1 (x := 1) (by omega) (by omega))
    have HW := Lib.hid hwE; clear hwE
    go_wp2_with fail
    rw [← HW.out, ← hpo]
    clear hpo HW
    replace hbr := hbr.kept hb
    replace hn := hn.below hb
    replace hbf := hbf.trans (hb.mono hbf.size)
    clear hb
    refine (rmake_any true _ _ v.natAbs 1 _ hn ho hvr h1r (by decide)).mono ?_
    rintro e w3 hq9
    obtain ⟨qB, qxO, qxL, qxC, qyO, qyL, qyC, rfl, hS, hqx, hqy, hq, hb⟩ := hq9.out
    have HqS := Lib.hid hS; clear hS
    replace hbr := hbr.kept hb
    replace hn := hn.below hb
    replace ho := ho.below hb
    replace hbf := hbf.trans (hb.mono hbf.size)
    clear hb
    rw [of_neg v h0] at hq
    have er0 := hbr.c0
    have fr0 := hbr.f0
    have er1 := hbr.c1
    have fr1 := hbr.f1
    have er2 := hbr.c2
    have fr2 := hbr.f2
    go_wp2_with fail
    exact end_r rfl rfl rfl hbr (show w.heap.size ≤ pr by have := HP.out; omega) hq hbf
  have hE : IntKind.u64.wrap v = ((v.natAbs : Nat) : Int) := by simp only [IntKind.wrap, IntKind.bits, IntKind.signed, Bool.false_and, Bool.false_eq_true, if_false]; omega
  go_wp2_with fail
  refine (rof_any v.natAbs _ (by omega)).mono ?_
  rintro e w1 ⟨r9, rfl, hn, hb⟩
  replace hbr := hbr.kept hb
  replace hbf := hbf.trans (hb.mono hbf.size)
  clear hb
  obtain ⟨nO, nL, nC, rfl⟩ := hn.form
  obtain ⟨w2, hwE⟩ : ∃ W, W = (w1.alloc (.cells #[.int .i64 1] 3)) := ⟨_, rfl⟩
  have hb : Below w1.heap.size w1 w2 := by rw [hwE]; exact ((Below.refl _ w1).alloc (Nat.le_refl _) _)
  obtain ⟨oP, hpo⟩ : ∃ p, p = w1.heap.size := ⟨_, rfl⟩
  have ho : RIs w2 (.slice (some ⟨oP, 0, none⟩) 1 1) 1 := by rw [hwE, hpo]; exact (one_is w1 (x := 1) (by omega) (by omega))
  have HW := Lib.hid hwE; clear hwE
  go_wp2_with fail
  rw [← HW.out, ← hpo]
  clear hpo HW
  replace hbr := hbr.kept hb
  replace hn := hn.below hb
  replace hbf := hbf.trans (hb.mono hbf.size)
  clear hb
  refine (rmake_any false _ _ v.natAbs 1 _ hn ho hvr h1r (by decide)).mono ?_
  rintro e w3 hq9
  obtain ⟨qB, qxO, qxL, qxC, qyO, qyL, qyC, rfl, hS, hqx, hqy, hq, hb⟩ := hq9.out
  have HqS := Lib.hid hS; clear hS
  replace hbr := hbr.kept hb
  replace hn := hn.below hb
  replace ho := ho.below hb
  replace hbf := hbf.trans (hb.mono hbf.size)
  clear hb
  rw [of_pos v (by omega)] at hq
  have er0 := hbr.c0
  have fr0 := hbr.f0
  have er1 := hbr.c1
  have fr1 := hbr.f1
  have er2 := hbr.c2
  have fr2 := hbr.f2
  go_wp2_with fail
  exact end_r rfl rfl rfl hbr (show w.heap.size ≤ pr by have := HP.out; omega) hq hbf
theorem str3 : str (dec 3) = [51] := str_dec (l := [51]) (by decide)
theorem str2 : str (dec 2) = [50] := str_dec (l := [50]) (by decide)
theorem str5 : str (dec 5) = [53] := str_dec (l := [53]) (by decide)
theorem str7 : str (dec 7) = [55] := str_dec (l := [55]) (by decide)
theorem qt_a : qtext (qOf true 6 4) = [45, 51, 47, 50] := by
  unfold qtext
  rw [show decide (qOf true 6 4 < 0) = true by decide, show (qOf true 6 4).num.natAbs = 3 by decide, show (qOf true 6 4).den = 2 by decide, str3, str2]; rfl
theorem qt_b : qtext (qOf true 5 2) = [45, 53, 47, 50] := by
  unfold qtext
  rw [show decide (qOf true 5 2 < 0) = true by decide, show (qOf true 5 2).num.natAbs = 5 by decide, show (qOf true 5 2).den = 2 by decide, str5, str2]; rfl
theorem qt_c : qtext (qround (qOf true 5 2)) = [45, 51] := by
  have h : qround (qOf true 5 2) = qOf true 3 1 := by
    unfold qround
    rw [show decide (qOf true 5 2 < 0) = true by decide, show (qOf true 5 2).num.natAbs = 5 by decide, show (qOf true 5 2).den = 2 by decide]
  rw [h]
  unfold qtext
  rw [show decide (qOf true 3 1 < 0) = true by decide, show (qOf true 3 1).num.natAbs = 3 by decide, show (qOf true 3 1).den = 1 by decide, str3]; rfl
theorem qt_d : qtext ((-7 : Int) : Rat) = [45, 55] := by
  rw [← of_neg (-7) (by decide)]
  unfold qtext
  rw [show decide (qOf true (-7 : Int).natAbs 1 < 0) = true by decide, show (qOf true (-7 : Int).natAbs 1).num.natAbs = 7 by decide, show (qOf true (-7 : Int).natAbs 1).den = 1 by decide, str7]; rfl
theorem qt_z : qtext 0 = [48] := by
  unfold qtext
  rw [show decide ((0 : Rat) < 0) = false by decide, show (0 : Rat).num.natAbs = 0 by decide, show (0 : Rat).den = 1 by decide, str_dec_zero]; rfl
theorem dec_small {n : Nat} (h : n < 10) : (dec n).length ≤ 1200 := Nat.le_trans (dec_le (k := 1) (by omega) (by decide)) (by omega)
theorem qp_b : qcode [45, 53, 47, 50] = 0 ∧ qval [45, 53, 47, 50] = qOf true 5 2 := by
  rw [← qt_b]
  exact qparse_text _ (dec_small (by decide)) (dec_small (by decide))
theorem QB.small {neg : Bool} {n d k : Nat} (hn : n < 4294967296) (hd : d < 4294967296) (h0 : 0 < d) (hk : 1 ≤ k) : QB (qOf neg n d) k := QB.of _ (limbs_bound hn hk) (limbs_bound hd hk) h0
theorem QB.int {v : Int} {k : Nat} (h : v.natAbs < 18446744073709551616) (hk : 2 ≤ k) : QB (v : Rat) k := by
  have hl : (limbs v.natAbs).length ≤ k := Nat.le_trans (limbs_length_le (k := 2) (by omega)) hk
  rcases (show v < 0 ∨ 0 ≤ v by omega) with h0 | h0
  · rw [← of_neg v h0]; exact QB.of _ hl (limbs_bound (by decide) (by omega)) (by decide)
  · rw [← of_pos v h0]; exact QB.of _ hl (limbs_bound (by decide) (by omega)) (by decide)
theorem of_six (w : World) : Calls Tryz.prog 161 #[.int .u64 6] w fun e w' => ∃ r, e = .returned r ∧ NatIs w' r 6 ∧ Below w.heap.size w w' := of_any 6 w (by decide)
theorem of_four (w : World) : Calls Tryz.prog 161 #[.int .u64 4] w fun e w' => ∃ r, e = .returned r ∧ NatIs w' r 4 ∧ Below w.heap.size w w' := of_any 4 w (by decide)
theorem lim1 {n : Nat} (h : n < 4294967296) : (limbs n).length ≤ 1000000 := limbs_bound h (by omega)
end Go.Proofs.YtieffhkfefimeaaGreatDoor
namespace Go.Proofs.YtieffhkfefimeaaGreatDoor
open Go.RowKit
set_option linter.unusedVariables false
set_option linter.unusedSimpArgs false
attribute [local go_sem] field_nat
theorem QB.abs {q : Rat} {k : Nat} (h : QB q k) : QB (qabs q) k := by
  unfold qabs
  split
  · exact h.neg
  · exact h
/-- What the forms' functions answer; n: the pattern of the greatest number that is not farther from 0. -/
def fexact (E F : Nat) (r : Rat) (n : Nat) : Nat × Bool := if fval E F n = qabs r then (dsign E F (decide (r < 0)) n, true) else (0, false)
def fup (E F : Nat) (r : Rat) (n : Nat) : Nat := if fval E F n = qabs r then n else n + 1
def fbelow (E F : Nat) (r : Rat) (n : Nat) : Nat × Bool := if r < 0 then (if fup E F r n = finf E F then (0, false) else (dsign E F true (fup E F r n), true)) else (n, true)
def fabove (E F : Nat) (r : Rat) (n : Nat) : Nat × Bool := if 0 < r then (if fup E F r n = finf E F then (0, false) else (fup E F r n, true)) else (dsign E F true n, true)
def fnext (E F b : Nat) : Nat × Bool := if dkind E F b = 1 then (if fneg E F b = true ∧ 0 < fsize E F b then (dsign E F true (fsize E F b - 1), true) else if fsize E F b + 1 = finf E F then (0, false) else (fsize E F b + 1, true)) else (0, false)
theorem dsign_size {E F m : Nat} (s : Bool) (hm : m < fsgn E F) : fsize E F (dsign E F s m) = m := by
  unfold fsize dsign fsgn at *
  split
  · rw [Nat.add_mod_right]; exact Nat.mod_eq_of_lt hm
  · exact Nat.mod_eq_of_lt hm
theorem dsign_neg {E F m : Nat} (s : Bool) (hm : m < fsgn E F) : fneg E F (dsign E F s m) = (s && decide (0 < m)) := by
  unfold fneg dsign fsgn at *
  by_cases h : s = true ∧ 0 < m
  · rw [if_pos h, Nat.add_comm, Nat.testBit_two_pow_add_eq, Nat.testBit_lt_two_pow hm, h.1, decide_eq_true h.2]; rfl
  · rw [if_neg h, Nat.testBit_lt_two_pow hm]
    cases s
    · rfl
    · have : ¬ 0 < m := fun h9 => h ⟨rfl, h9⟩
      rw [decide_eq_false this]; rfl
theorem dsign_lt {E F m : Nat} (s : Bool) (hE : E ≤ 11) (hF : F ≤ 52) (hm : m < fsgn E F) : dsign E F s m < 18446744073709551616 := by
  have h : 2 ^ (E + F) ≤ 2 ^ 63 := Nat.pow_le_pow_right (by decide) (by omega)
  unfold dsign fsgn at *
  split <;> omega
theorem size_self {E F n : Nat} (hn : n < fsgn E F) : fsize E F n = n := Nat.mod_eq_of_lt hn
theorem neg_self {E F n : Nat} (hn : n < fsgn E F) : fneg E F n = false := Nat.testBit_lt_two_pow hn
theorem qabs_neg (r : Rat) : qabs (-r) = qabs r := by
  unfold qabs
  by_cases h1 : r < 0
  · rw [if_pos h1, if_neg (by grind)]
  · rw [if_neg h1]
    by_cases h2 : -r < 0
    · rw [if_pos h2, Rat.neg_neg]
    · rw [if_neg h2]; grind
theorem fup_neg (E F : Nat) (r : Rat) (n : Nat) : fup E F (-r) n = fup E F r n := by unfold fup; rw [qabs_neg]
theorem fup_le {E F n : Nat} {r : Rat} (hn : n < finf E F) : fup E F r n ≤ finf E F := by unfold fup; split <;> omega
theorem below_lt {E F n : Nat} {r : Rat} (hE : E ≤ 11) (hF : F ≤ 52) (hn : n < finf E F) : (fbelow E F r n).1 < 18446744073709551616 := by
  have h1 : finf E F < fsgn E F := finf_lt E F
  have h2 := fsgn_lt hE hF
  have h3 := fup_le (r := r) hn
  unfold fbelow
  split
  · split
    · exact (by decide : 0 < 18446744073709551616)
    · exact dsign_lt _ hE hF (by omega)
  · show n < _; omega
theorem above_of {E F n x : Nat} {y : Bool} {r : Rat} (hn : n < finf E F) (h : (x, y) = fbelow E F (-r) n) : fabove E F r n = if y then (dsign E F (!fneg E F x) (fsize E F x), true) else (0, false) := by
  have h1 : finf E F < fsgn E F := finf_lt E F
  have h3 := fup_le (r := r) hn
  unfold fbelow at h
  unfold fabove
  rw [fup_neg] at h
  by_cases hr : 0 < r
  · rw [if_pos (by grind)] at h
    rw [if_pos hr]
    by_cases hm : fup E F r n = finf E F
    · rw [if_pos hm] at h ⊢
      cases h; rfl
    · rw [if_neg hm] at h ⊢
      have hml : fup E F r n < fsgn E F := by omega
      cases h
      rw [dsign_neg _ hml, dsign_size _ hml]
      by_cases h0 : 0 < fup E F r n
      · rw [decide_eq_true h0]; simp [dsign]
      · rw [decide_eq_false h0]; simp [dsign, h0]
  · rw [if_neg (by grind)] at h
    rw [if_neg hr]
    cases h
    rw [neg_self (by omega), size_self (by omega)]; rfl
theorem dk_one {E F b : Nat} : dkind E F b = 1 ↔ fsize E F b < finf E F := by
  constructor
  · intro h
    rcases Nat.lt_trichotomy (fsize E F b) (finf E F) with h1 | h1 | h1
    · exact h1
    · rw [(dk_inf h1).1] at h; cases h9 : fneg E F b <;> rw [h9] at h <;> simp at h
    · rw [(dk_nan h1).1] at h; simp at h
  · intro h; exact (dk_fin h).1
theorem fnext_a {E F b : Nat} (hk : dkind E F b = 1) (h1 : fneg E F b = true) (h2 : 0 < fsize E F b) : fnext E F b = (dsign E F true (fsize E F b - 1), true) := by
  unfold fnext; rw [if_pos hk, if_pos ⟨h1, h2⟩]
theorem fnext_b {E F b : Nat} (hk : dkind E F b = 1) (h1 : fneg E F b = false ∨ fsize E F b = 0) (h2 : fsize E F b + 1 = finf E F) : fnext E F b = (0, false) := by
  unfold fnext; rw [if_pos hk, if_neg (fun h => by rcases h1 with h9 | h9 <;> simp [h9] at h), if_pos h2]
theorem fnext_c {E F b : Nat} (hk : dkind E F b = 1) (h1 : fneg E F b = false ∨ fsize E F b = 0) (h2 : ¬ fsize E F b + 1 = finf E F) : fnext E F b = (fsize E F b + 1, true) := by
  unfold fnext; rw [if_pos hk, if_neg (fun h => by rcases h1 with h9 | h9 <;> simp [h9] at h), if_neg h2]
theorem fnext_d {E F b : Nat} (hk : ¬ dkind E F b = 1) : fnext E F b = (0, false) := by
  unfold fnext; rw [if_neg hk]
end Go.Proofs.YtieffhkfefimeaaGreatDoor
namespace Go.Proofs.YtieffhkfefimeaaGreatDoor
open Go.RowKit
set_option linter.unusedVariables false
set_option linter.unusedSimpArgs false
attribute [local go_sem] field_nat
/-- The step behind a pattern; is it the next one that is nearer?; the nearest one. -/
def fstep (E F n : Nat) : Rat := if n + 1 < finf E F then fval E F (n + 1) - fval E F n else fval E F n - fval E F (n - 1)
def fmore (E F : Nat) (r : Rat) (n : Nat) : Bool := decide (qcmp (qabs r - fval E F n) (fstep E F n / 2) = 1 ∨ qcmp (qabs r - fval E F n) (fstep E F n / 2) = 0 ∧ n % 2 = 1)
def fnear (E F : Nat) (r : Rat) (n : Nat) : Nat := dsign E F (decide (r < 0)) (if fmore E F r n then n + 1 else n)
theorem value_x (E F n : Nat) (x : Int) (w : World) (hx : x = n) (hE2 : 2 ≤ E) (hE : E ≤ 11) (hF1 : 1 ≤ F) (hF : F ≤ 52) (hn : n < finf E F) : Calls Tryz.prog 88 #[formV (E : Int) (F : Int), .int .u64 x] w (QPost w (fval E F n)) := by
  rw [hx]; exact value_any E F n w hE2 hE hF1 hF hn
theorem qcmp_c (va vc : Value) (a c : Rat) (z : Int) (i j : Nat) (w : World) (ha : QIs w va a) (hc : QIs w vc c) (hla : QB a i) (hlc : QB c j) (hij : i + j ≤ 90000) (hz : Hid (qcmp a c = z)) :
    Calls Tryz.prog 90 #[va, vc] w fun e w' => e = .returned (.int .i64 z) ∧ Below w.heap.size w w' := by
  have := qcmp_any va vc a c i j w ha hc hla hlc hij
  rwa [hz.out] at this
theorem up_one (n : Nat) : (n : Int) + 1 = ((n + 1 : Nat) : Int) := by omega
theorem q_two_b : QB (2 : Rat) 2 := ⟨limbs_bound (by decide) (by decide), limbs_bound (by decide) (by decide)⟩
theorem q_two : ((2 : Int) : Rat) = 2 := rfl
end Go.Proofs.YtieffhkfefimeaaGreatDoor
namespace Go.Proofs.YtieffhkfefimeaaGreatDoor
open Go.RowKit
set_option linter.unusedVariables false
set_option linter.unusedSimpArgs false
attribute [local go_sem] field_nat
/-! Bits of ints. -/
theorem and_i64 (x : Int) (m : Nat) (hm : m < 9223372036854775808) : bits .and .i64 x (m : Int) = (((x % 18446744073709551616).toNat &&& m : Nat) : Int) := by
  obtain ⟨a, ha⟩ := Int.eq_ofNat_of_zero_le (Int.emod_nonneg x (show (18446744073709551616 : Int) ≠ 0 by decide))
  have hlt : a < 18446744073709551616 := by omega
  have e : BitVec.ofInt 64 x = BitVec.ofInt 64 (a : Int) := by
    apply BitVec.eq_of_toInt_eq
    simp only [BitVec.toInt_ofInt, Int.bmod_def]
    omega
  have e1 : bits .and .i64 x (m : Int) = IntKind.i64.wrap (bits .and .u64 (a : Int) (m : Int)) := by
    simp only [bits, IntKind.bits] at *
    rw [e]
    congr 1
    have h9 := (BitVec.ofInt 64 (a : Int) &&& BitVec.ofInt 64 (m : Int)).isLt
    exact (IntWalk.u64_in _ ⟨by omega, by omega⟩).symm
  rw [e1, ha, bits_and_u64_nat a m hlt (by omega)]
  have h9 : a &&& m ≤ m := Nat.and_le_right
  exact IntWalk.i64_in _ ⟨by omega, by omega⟩
theorem and_low_i (x : Int) (k : Nat) (hk : k < 63) : bits .and .i64 x ((2 ^ k - 1 : Nat) : Int) = x % ((2 ^ k : Nat) : Int) := by
  have h : 2 ^ k ≤ 2 ^ 62 := Nat.pow_le_pow_right (by decide) (by omega)
  rw [and_i64 x _ (by omega), Nat.and_two_pow_sub_one_eq_mod, Int.natCast_emod, Int.toNat_of_nonneg (Int.emod_nonneg _ (by decide))]
  exact Int.emod_emod_of_dvd x (by
    rw [show (18446744073709551616 : Int) = ((2 ^ 64 : Nat) : Int) by rfl]
    exact Int.natCast_dvd_natCast.2 (Nat.pow_dvd_pow 2 (by omega)))
theorem and_three (x : Int) : bits .and .i64 x 3 = x % 4 := and_low_i x 2 (by decide)
theorem and_seven (x : Int) : bits .and .i64 x 7 = x % 8 := and_low_i x 3 (by decide)
theorem and_two_i (x : Int) : bits .and .i64 x 2 = 0 ∨ bits .and .i64 x 2 = 2 := by
  have h : bits .and .i64 x 2 = (((x % 18446744073709551616).toNat &&& 2 : Nat) : Int) := and_i64 x 2 (by decide)
  have h2 : ∀ a : Nat, a &&& 2 = 0 ∨ a &&& 2 = 2 := by
    intro a
    have h3 : a &&& 2 = (a.testBit 1).toNat * 2 := by
      apply Nat.eq_of_testBit_eq
      intro i
      rw [show 2 = 2 ^ 1 by rfl, Nat.testBit_and, Nat.testBit_two_pow]
      by_cases hi : 1 = i
      · subst hi
        cases a.testBit 1 <;> decide
      · rw [decide_eq_false hi, Bool.and_false]
        cases a.testBit 1
        · simp
        · rw [show true.toNat * 2 ^ 1 = 2 ^ 1 by rfl, Nat.testBit_two_pow, decide_eq_false hi]
    rw [h3]
    cases a.testBit 1 <;> simp
  rw [h]
  rcases h2 (x % 18446744073709551616).toNat with h3 | h3 <;> rw [h3]
  · exact .inl rfl
  · exact .inr rfl
theorem wf_u64 {a : Int} (h : (Lit.int .u64 a).wf = true) : 0 ≤ a ∧ a < 18446744073709551616 := by
  simp [Lit.wf, IntKind.min, IntKind.max, IntKind.signed, IntKind.bits] at h; omega
theorem wf_i64 {a : Int} (h : (Lit.int .i64 a).wf = true) : -9223372036854775808 ≤ a ∧ a ≤ 9223372036854775807 := by
  simp [Lit.wf, IntKind.min, IntKind.max, IntKind.signed, IntKind.bits] at h; omega
theorem fsgn_63 {E F : Nat} (hE : E ≤ 11) (hF : F ≤ 52) : fsgn E F ≤ 9223372036854775808 := by
  have : 2 ^ (E + F) ≤ 2 ^ 63 := Nat.pow_le_pow_right (by decide) (by omega)
  unfold fsgn; omega
theorem under_of {E F n : Nat} {r : Rat} (h1 : n < finf E F) (h2 : fval E F n ≤ r) (h3 : n + 1 < finf E F → r < fval E F (n + 1)) : Under E F r n :=
  ⟨h1, h2, fun m hm hI => Std.lt_of_lt_of_le (h3 (by omega)) (fval_le.2 hm)⟩
/-! What the first call sees. -/
theorem al_val : dval' 8 23 1069547520 = (3 : Rat) / 2 ∧ dkind 8 23 1069547520 = 1 := ⟨by decide +kernel, by decide +kernel⟩
theorem al_text : qtext ((3 : Rat) / 2) = [51, 47, 50] := by decide +kernel
theorem al_under : Under 8 23 (qabs (qOf false 1 10)) 1036831948 := under_of (by decide +kernel) (by decide +kernel) (fun _ => by decide +kernel)
theorem al_near : 1036831949 = fnear 8 23 (qOf false 1 10) 1036831948 := by decide +kernel
theorem decode_al (w : World) : Calls Tryz.prog 31 #[formV 8 23, .int .u64 1069547520] w (QPostC w ((3 : Rat) / 2) 1) := by
  have h := decode_any 8 23 1069547520 w (by decide) (by decide) (by decide) (by decide) (by decide)
  rwa [al_val.1, al_val.2] at h
theorem of_ten (w : World) : Calls Tryz.prog 161 #[.int .u64 10] w fun e w' => ∃ r, e = .returned r ∧ NatIs w' r 10 ∧ Below w.heap.size w w' := of_any 10 w (by decide)
theorem lim9 {n : Nat} (h : n < 4294967296) : (limbs n).length ≤ 1000000 := limbs_bound h (by omega)
theorem q32_b : QB ((3 : Rat) / 2) 100000 := ⟨limbs_bound (by decide +kernel) (by decide), limbs_bound (by decide +kernel) (by decide)⟩
theorem text_al (v : Value) (w : World) (h : QIs w v ((3 : Rat) / 2)) : Calls Tryz.prog 46 #[v] w fun e w' => e = .returned (.string ⟨#[51, 47, 50]⟩) ∧ Below w.heap.size w w' := by
  have h2 := qtext_any v _ w h q32_b
  rwa [al_text] at h2
/-- The form that is looked at. -/
def formE (how x : Int) : Int := if how % 4 = 0 then 8 else if how % 4 = 1 then x else if how % 4 = 2 then 4 else 2 + x % 4
def formF (how y : Int) : Int := if how % 4 = 0 then 23 else if how % 4 = 1 then y else if how % 4 = 2 then 3 else 1 + y % 8
end Go.Proofs.YtieffhkfefimeaaGreatDoor
namespace Go.Proofs.YtieffhkfefimeaaGreatDoor
open Go.RowKit
set_option linter.unusedVariables false
set_option linter.unusedSimpArgs false
attribute [local go_sem] field_nat
theorem and_frac {F b : Nat} (hF : F ≤ 52) (hb : b < 18446744073709551616) : bits .and .u64 (b : Int) (IntKind.u64.wrap (IntKind.u64.wrap (2 ^ F) - 1)) = ((b % 2 ^ F : Nat) : Int) := by
  have h1 : 0 < 2 ^ F := Nat.pow_pos (by decide)
  have h2 : 2 ^ F ≤ 2 ^ 62 := Nat.pow_le_pow_right (by decide) (by omega)
  rw [wrap_two (by omega), IntWalk.u64_in _ (by omega), show ((2 ^ F : Nat) : Int) - 1 = ((2 ^ F - 1 : Nat) : Int) by omega]
  exact and_mask hb (by omega)
theorem and_exp {E F b : Nat} (hE : E ≤ 11) (hb : b < 18446744073709551616) : IntKind.i64.wrap (bits .and .u64 ((b : Int) / 2 ^ F) (IntKind.u64.wrap (IntKind.u64.wrap (2 ^ E) - 1))) = ((b / 2 ^ F % 2 ^ E : Nat) : Int) := by
  have h3 : b / 2 ^ F ≤ b := Nat.div_le_self _ _
  have h4 : 2 ^ E ≤ 2 ^ 11 := Nat.pow_le_pow_right (by decide) hE
  have h5 : b / 2 ^ F % 2 ^ E < 2 ^ E := Nat.mod_lt _ (Nat.pow_pos (by decide))
  rw [show ((b : Int) / 2 ^ F) = ((b / 2 ^ F : Nat) : Int) by simp, and_frac (F := E) (by omega) (by omega)]
  generalize b / 2 ^ F % 2 ^ E = q at *
  exact IntWalk.i64_in _ ⟨by omega, by omega⟩
theorem and_sgn {E F b : Nat} (hE : E ≤ 11) (hF : F ≤ 52) (hb : b < 18446744073709551616) : (bits .and .u64 ((b : Int) / 2 ^ (E + F)) 1 == 1) = fneg E F b := by
  have h3 : b / 2 ^ (E + F) ≤ b := Nat.div_le_self _ _
  rw [show ((b : Int) / 2 ^ (E + F)) = ((b / 2 ^ (E + F) : Nat) : Int) by simp, show (1 : Int) = ((2 ^ 1 - 1 : Nat) : Int) by rfl, and_mask (by omega) (by decide)]
  unfold fneg
  rw [Nat.testBit_eq_decide_div_mod_eq]
  have h4 : b / 2 ^ (E + F) % 2 ^ 1 < 2 := Nat.mod_lt _ (by decide)
  rw [show (2 : Nat) ^ 1 = 2 by rfl] at h4 ⊢
  generalize b / 2 ^ (E + F) % 2 = q at *
  rcases (show q = 0 ∨ q = 1 by omega) with rfl | rfl <;> rfl
theorem wrap_ones {E : Nat} (hE : E ≤ 11) : wrap64 (wrap64 (2 ^ E) - 1) = ((2 ^ E - 1 : Nat) : Int) := by
  have h4 : 2 ^ E ≤ 2 ^ 11 := Nat.pow_le_pow_right (by decide) hE
  have h5 : 0 < 2 ^ E := Nat.pow_pos (by decide)
  rw [show (2 : Int) ^ E = ((2 ^ E : Nat) : Int) by simp]
  generalize 2 ^ E = P at *
  unfold wrap64; omega
/-- A pattern's parts. -/
theorem parts_is (E F b : Nat) : fsize E F b = b / 2 ^ F % 2 ^ E * 2 ^ F + b % 2 ^ F := by
  unfold fsize
  rw [Nat.add_comm E F, Nat.pow_add, Nat.mod_mul, Nat.mul_comm]; omega
theorem parts_quo (E F b : Nat) : fsize E F b / 2 ^ F = b / 2 ^ F % 2 ^ E ∧ fsize E F b % 2 ^ F = b % 2 ^ F := by
  have h1 : 0 < 2 ^ F := Nat.pow_pos (by decide)
  have h2 : b % 2 ^ F < 2 ^ F := Nat.mod_lt _ h1
  rw [parts_is]
  generalize b / 2 ^ F % 2 ^ E = q at *
  generalize b % 2 ^ F = m at *
  generalize 2 ^ F = P at *
  rw [Nat.mul_comm]
  exact ⟨by rw [Nat.mul_add_div h1, Nat.div_eq_of_lt h2, Nat.add_zero], by rw [Nat.mul_add_mod, Nat.mod_eq_of_lt h2]⟩
theorem parts_top {E F b : Nat} (h : b / 2 ^ F % 2 ^ E = 2 ^ E - 1) : (b % 2 ^ F = 0 → fsize E F b = finf E F) ∧ (0 < b % 2 ^ F → finf E F < fsize E F b) := by
  rw [parts_is, h]; unfold finf
  generalize (2 ^ E - 1) * 2 ^ F = q
  omega
theorem parts_low {E F b : Nat} (h : ¬ b / 2 ^ F % 2 ^ E = 2 ^ E - 1) : fsize E F b < finf E F := by
  have h1 : b / 2 ^ F % 2 ^ E < 2 ^ E := Nat.mod_lt _ (Nat.pow_pos (by decide))
  have h2 : b % 2 ^ F < 2 ^ F := Nat.mod_lt _ (Nat.pow_pos (by decide))
  rw [parts_is]; unfold finf
  generalize b / 2 ^ F % 2 ^ E = q at *
  have h3 : (q + 1) * 2 ^ F ≤ (2 ^ E - 1) * 2 ^ F := Nat.mul_le_mul_right _ (by omega)
  rw [Nat.add_mul] at h3
  omega
theorem qOf_sign (neg : Bool) (n d : Nat) : qOf neg n d = if neg then -(qOf false n d) else qOf false n d := by
  cases neg
  · rfl
  · simp only [if_true]
    unfold qOf sg
    simp only [if_true, Bool.false_eq_true, if_false]
    rw [Rat.neg_mkRat]
theorem decode_up {E F b : Nat} (m : Nat) (hE : 2 ≤ E) (hF : 1 ≤ F) (hs : fsize E F b < finf E F) (hm : m = b % 2 ^ F + if 0 < b / 2 ^ F % 2 ^ E then 2 ^ F else 0) (k : Nat)
    (hk : (((max (b / 2 ^ F % 2 ^ E) 1 : Nat) - (2 ^ (E - 1) - 1 : Nat) - (F : Nat) : Int)) = (k : Int)) : qOf (fneg E F b) (m * 2 ^ k) 1 = dval' E F b ∧ dkind E F b = 1 := by
  have h1 := fval_is (n := fsize E F b) hE hF
  rw [(parts_quo E F b).1, (parts_quo E F b).2, ← hm, hk, tval_pos] at h1
  rw [qOf_sign, h1, (dk_fin hs).2]
  exact ⟨rfl, (dk_fin hs).1⟩
theorem decode_down {E F b : Nat} (m : Nat) (hE : 2 ≤ E) (hF : 1 ≤ F) (hs : fsize E F b < finf E F) (hm : m = b % 2 ^ F + if 0 < b / 2 ^ F % 2 ^ E then 2 ^ F else 0) (k : Nat) (h0 : 0 < k)
    (hk : (((max (b / 2 ^ F % 2 ^ E) 1 : Nat) - (2 ^ (E - 1) - 1 : Nat) - (F : Nat) : Int)) = -(k : Int)) : qOf (fneg E F b) m (2 ^ k) = dval' E F b ∧ dkind E F b = 1 := by
  have h1 := fval_is (n := fsize E F b) hE hF
  rw [(parts_quo E F b).1, (parts_quo E F b).2, ← hm, hk, tval_neg m h0] at h1
  rw [qOf_sign, h1, (dk_fin hs).2]
  exact ⟨rfl, (dk_fin hs).1⟩
theorem rl_pow9 {n k : Nat} (hn : n < 18446744073709551616) (hk : k ≤ 2100) : (rlimbs (n * 2 ^ k)).length ≤ 1000000 := by
  have h1 : (rlimbs n).length ≤ 5 := rlimbs_length_le (Nat.lt_of_lt_of_le hn (by decide))
  have h2 := rl_pow (m := k) (by omega)
  have h3 := rlimbs_mul h1 h2
  omega
theorem rl9 {n : Nat} (hn : n < 18446744073709551616) : (rlimbs n).length ≤ 10000 := Nat.le_trans (rlimbs_length_le (k := 5) (Nat.lt_of_lt_of_le hn (by decide))) (by decide)
theorem rlp {k : Nat} (hk : k ≤ 9990) : (rlimbs (2 ^ k)).length ≤ 9999 := rl_two (by omega)
set_option maxRecDepth 100000 in
set_option maxHeartbeats 1000000 in
/-- Decode. -/
theorem rdecode_any (E F b : Nat) (w : World) (hE2 : 2 ≤ E) (hE : E ≤ 11) (hF1 : 1 ≤ F) (hF : F ≤ 52) (hb64 : b < 18446744073709551616) :
    Calls Tryz.prog 15 #[.int .i64 (E : Int), .int .i64 (F : Int), .int .u64 (b : Int)] w (RQPostC w (dval' E F b) (dkind E F b)) := by
  obtain ⟨w0, hw0⟩ : ∃ w0, w0 = (w.alloc (.cells #[.bool false, .slice none 0 0, .slice none 0 0] 44)) := ⟨_, rfl⟩
  have hbf : Below w.heap.size w w0 := by rw [hw0]; exact ((Below.refl _ w).alloc (Nat.le_refl _) _)
  obtain ⟨pr, hpr⟩ : ∃ p, p = w.heap.size := ⟨_, rfl⟩
  have hbr : Box3 w0 pr (Value.bool false) (Value.slice none 0 0) (Value.slice none 0 0) := by rw [hw0, hpr]; exact ⟨by go_simp, by go_simp, by go_simp, by go_simp, by go_simp, by go_simp⟩
  have HP : Hid (w.heap.size ≤ pr) := Lib.hid (by omega)
  have HW := Lib.hid hw0; clear hw0
  go_enter Tryz.func15, Tryz.ntmps15
  go_upto_region 1 with fail
  rw [← HW.out, ← hpr]
  clear hpr HW
  go_upto_region 2 with fail
  rw [and_frac hF hb64]
  refine wp_region_seqQ (S := fun w' => True) [(0, 4, some 19), (0, 2, some 20), (3, 1572864, some 21), (0, 1, some 22), (8, 4194304, some 23), (16, 8388608, some 24), (36, 18874368, some 25), (64, 33554432, some 26), (255, 67108864, some 9)] [(true, 0), (true, 1), (true, 2), (true, 3), (true, 4), (true, 5), (true, 6), (true, 7), (true, 8)] (by kernel_rfl) (by kernel_rfl) (by kernel_rfl) (by kernel_rfl) (by kernel_rfl) (by kernel_rfl) (fun d _ _ _ _ h => by cases d <;> exact h) True.intro (fun _ => ?_)
  simp only [pickOps, List.append_eq, List.cons_append, List.nil_append, List.getElem?_toArray, List.getElem?_cons_succ, List.getElem?_cons_zero]
  have hb : Below w0.heap.size w0 w0.drew := (Below.refl _ _).drew
  generalize w0.drew = w1 at hb ⊢
  replace hbr := hbr.kept hb
  replace hbf := hbf.trans (hb.mono hbf.size)
  clear hb
  repeat (first | (refine seq_take (v := ?_) (by rfl) ?_ ?_; rotate_left; (· intro w hSw; (try dsimp only at hSw); go_simp; all_goals with_reducible rfl); (try simp only [Act.put, List.setIfInBounds_toArray, List.set_cons_zero, List.set_cons_succ])) | (refine seq_leave (by rfl) ?_; (try simp only [Act.put, List.setIfInBounds_toArray, List.set_cons_zero, List.set_cons_succ])))
  refine seq_end ?_
  rw [and_exp hE hb64]
  have HP1 := Lib.hid (@parts_top E F b)
  have HP2 := Lib.hid (@parts_low E F b)
  have HUP := Lib.hid (@decode_up E F b)
  have HDN := Lib.hid (@decode_down E F b)
  have hm2 : b % 2 ^ F < 2 ^ F := Nat.mod_lt _ (Nat.pow_pos (by decide))
  have he2 : b / 2 ^ F % 2 ^ E < 2 ^ 11 := Nat.lt_of_lt_of_le (Nat.mod_lt _ (Nat.pow_pos (by decide))) (Nat.pow_le_pow_right (by decide) hE)
  have hpF := pow_small hF
  generalize b % 2 ^ F = m at *
  generalize b / 2 ^ F % 2 ^ E = q at *
  have hsg := and_sgn hE hF hb64
  go_upto_region 4 with fail
  clear hsg
  obtain ⟨w2, hwE⟩ : ∃ W, W = ((w1.alloc (.cells #[.int .i64 1] 3)).alloc (.cells #[.bool false, .slice none 0 0, .slice (some ⟨w1.heap.size, 0, none⟩) 1 1] 44)) := ⟨_, rfl⟩
  have hb : Below w1.heap.size w1 w2 := by rw [hwE]; exact (((Below.refl _ w1).alloc (Nat.le_refl _) _).alloc (by simp <;> omega) _)
  obtain ⟨oP, hpo⟩ : ∃ p, p = w1.heap.size := ⟨_, rfl⟩
  obtain ⟨pz, hpz⟩ : ∃ p, p = w1.heap.size + 1 := ⟨_, rfl⟩
  have ho : RIs w2 (.slice (some ⟨oP, 0, none⟩) 1 1) 1 := by rw [hwE, hpo]; exact RIs.below (one_is w1 (x := 1) (by omega) (by omega)) ((Below.refl _ _).alloc (Nat.le_refl _) _)
  have hbz : Box3 w2 pz (Value.bool false) (Value.slice none 0 0) (Value.slice (some ⟨oP, 0, none⟩) 1 1) := by rw [hwE, hpo, hpz]; exact ⟨by go_simp, by go_simp, by go_simp, by go_simp, by go_simp, by go_simp⟩
  replace HP : Hid (w.heap.size ≤ pr ∧ pr < pz) := Lib.hid (by have h1 := HP.out; have h9 := hbf.size; have h2r := hbr.lt; omega)
  have HW := Lib.hid hwE; clear hwE
  go_upto_region 5 with fail
  rw [← HW.out, ← hpz]
  clear hpo hpz HW
  replace hbr := hbr.kept hb
  replace hbf := hbf.trans (hb.mono hbf.size)
  clear hb
  have hones := wrap_ones hE
  by_cases hq : q = 2 ^ E - 1
  case pos =>
    have hqc : ((q : Int) == wrap64 (wrap64 (2 ^ E) - 1)) = true := by rw [hones, beq_iff_eq]; omega
    have hp := HP1.out hq
    clear HP1 HP2 HUP HDN
    by_cases h0 : m = 0
    case pos =>
      subst h0
      have hd := dk_inf (hp.1 rfl)
      cases hs : fneg E F b
      case false =>
        rw [hs] at hd
        have ez0 := hbz.c0
        have ez1 := hbz.c1
        have ez2 := hbz.c2
        have er0 := hbr.c0
        have fr0 := hbr.f0
        have er1 := hbr.c1
        have fr1 := hbr.f1
        have er2 := hbr.c2
        have fr2 := hbr.f2
        go_wp2_with fail
        (try rw [hd.1])
        (try rw [hd.2])
        exact end_rc rfl rfl rfl rfl hbr (show w.heap.size ≤ pr by have := HP.out; omega) (RQIs.zero ho) hbf
      case true =>
        rw [hs] at hd
        have ez0 := hbz.c0
        have ez1 := hbz.c1
        have ez2 := hbz.c2
        have er0 := hbr.c0
        have fr0 := hbr.f0
        have er1 := hbr.c1
        have fr1 := hbr.f1
        have er2 := hbr.c2
        have fr2 := hbr.f2
        go_wp2_with fail
        (try rw [hd.1])
        (try rw [hd.2])
        exact end_rc rfl rfl rfl rfl hbr (show w.heap.size ≤ pr by have := HP.out; omega) (RQIs.zero ho) hbf
    case neg =>
      have hm0 : ((m : Int) == 0) = false := by rw [beq_eq_false_iff_ne, ne_eq]; omega
      have hm1 : ((m : Int) != 0) = true := by rw [bne, hm0]; rfl
      have hd := dk_nan (hp.2 (by omega))
      have ez0 := hbz.c0
      have ez1 := hbz.c1
      have ez2 := hbz.c2
      have er0 := hbr.c0
      have fr0 := hbr.f0
      have er1 := hbr.c1
      have fr1 := hbr.f1
      have er2 := hbr.c2
      have fr2 := hbr.f2
      go_wp2_with fail
      (try rw [hd.1])
      (try rw [hd.2])
      exact end_rc rfl rfl rfl rfl hbr (show w.heap.size ≤ pr by have := HP.out; omega) (RQIs.zero ho) hbf
  case neg =>
    have hqc : ((q : Int) == wrap64 (wrap64 (2 ^ E) - 1)) = false := by rw [hones, beq_eq_false_iff_ne, ne_eq]; omega
    have hs := HP2.out hq
    have HS := Lib.hid hs
    clear hs HP1 HP2 hq
    by_cases hq0 : q = 0
    case pos =>
      subst hq0
      obtain ⟨u, hu⟩ : ∃ u : Int, u = ((max 0 1 : Nat) - (2 ^ (E - 1) - 1 : Nat) - (F : Nat) : Int) := ⟨_, rfl⟩
      have hup := value_exp (F := F) hE2 hE hF he2 (1) (by omega)
      have hlo := value_low (F := F) hE2 hE hF he2
      have hhi := value_high (F := F) hE2 hE hF he2
      rw [← hu] at hup hlo hhi
      have HU := Lib.hid hu
      clear hu
      have hm64 : m < 18446744073709551616 := by omega
      by_cases hu0 : 0 ≤ u
      case pos =>
        obtain ⟨k, rfl⟩ : ∃ k : Nat, u = (k : Int) := ⟨u.toNat, by omega⟩
        have hc : decide ((0 : Int) ≤ (k : Int)) = true := decide_eq_true (by omega)
        have hl := rl_pow9 (n := m) (k := k) hm64 (by omega)
        have hd := HUP.out (m) hE2 hF1 HS.out (by simp) k HU.out.symm
        clear HUP HDN
        go_wp2_with fail
        refine (rof_any (m) _ hm64).mono ?_
        rintro e w3 ⟨r9, rfl, hx, hb⟩
        replace hbr := hbr.kept hb
        replace hbz := hbz.kept hb
        replace ho := ho.below hb
        replace hbf := hbf.trans (hb.mono hbf.size)
        clear hb
        obtain ⟨xO, xL, xC, rfl⟩ := hx.form
        go_wp2_with fail
        refine (rtwo_any k _ (by omega)).mono ?_
        rintro e w4 ⟨r9, rfl, hy, hb⟩
        replace hbr := hbr.kept hb
        replace hbz := hbz.kept hb
        replace ho := ho.below hb
        replace hx := hx.below hb
        replace hbf := hbf.trans (hb.mono hbf.size)
        clear hb
        obtain ⟨yO, yL, yC, rfl⟩ := hy.form
        go_wp2_with fail
        refine (rmul_any _ _ (m) (2 ^ k) _ hx hy (Nat.le_trans (rl9 hm64) (by decide)) (Nat.le_trans (rlp (k := k) (by omega)) (by decide))).mono ?_
        rintro e w5 ⟨r9, rfl, hv, hb⟩
        replace hbr := hbr.kept hb
        replace hbz := hbz.kept hb
        replace ho := ho.below hb
        replace hx := hx.below hb
        replace hy := hy.below hb
        replace hbf := hbf.trans (hb.mono hbf.size)
        clear hb
        obtain ⟨vO, vL, vC, rfl⟩ := hv.form
        obtain ⟨w6, hwE⟩ : ∃ W, W = (w5.alloc (.cells #[.int .i64 1] 3)) := ⟨_, rfl⟩
        have hb : Below w5.heap.size w5 w6 := by rw [hwE]; exact ((Below.refl _ w5).alloc (Nat.le_refl _) _)
        obtain ⟨iP, hpi⟩ : ∃ p, p = w5.heap.size := ⟨_, rfl⟩
        have hi : RIs w6 (.slice (some ⟨iP, 0, none⟩) 1 1) 1 := by rw [hwE, hpi]; exact (one_is w5 (x := 1) (by omega) (by omega))
        have HW := Lib.hid hwE; clear hwE
        go_wp2_with fail
        rw [← HW.out, ← hpi]
        clear hpi HW
        replace hbr := hbr.kept hb
        replace hbz := hbz.kept hb
        replace ho := ho.below hb
        replace hx := hx.below hb
        replace hy := hy.below hb
        replace hv := hv.below hb
        replace hbf := hbf.trans (hb.mono hbf.size)
        clear hb
        refine (rmake_any (fneg E F b) _ _ (m * 2 ^ k) 1 _ hv hi hl (by rw [rlimbs_one]; decide) (by decide)).mono ?_
        rintro e w7 hq9
        obtain ⟨qB, qxO, qxL, qxC, qyO, qyL, qyC, rfl, hS, hqx, hqy, hq, hb⟩ := hq9.out
        have HqS := Lib.hid hS; clear hS
        replace hbr := hbr.kept hb
        replace hbz := hbz.kept hb
        replace ho := ho.below hb
        replace hx := hx.below hb
        replace hy := hy.below hb
        replace hv := hv.below hb
        replace hi := hi.below hb
        replace hbf := hbf.trans (hb.mono hbf.size)
        clear hb
        rw [hd.1] at hq
        have er0 := hbr.c0
        have fr0 := hbr.f0
        have er1 := hbr.c1
        have fr1 := hbr.f1
        have er2 := hbr.c2
        have fr2 := hbr.f2
        go_wp2_with fail
        (try rw [hd.2])
        exact end_rc rfl rfl rfl rfl hbr (show w.heap.size ≤ pr by have := HP.out; omega) hq hbf
      case neg =>
        obtain ⟨k, rfl⟩ : ∃ k : Nat, u = -(k : Int) := ⟨u.natAbs, by omega⟩
        have hc : decide ((0 : Int) ≤ -(k : Int)) = false := decide_eq_false (by omega)
        have hd := HDN.out (m) hE2 hF1 HS.out (by simp) k (by omega) HU.out.symm
        clear HUP HDN
        go_wp2_with fail
        refine (rof_any (m) _ hm64).mono ?_
        rintro e w3 ⟨r9, rfl, hx, hb⟩
        replace hbr := hbr.kept hb
        replace hbz := hbz.kept hb
        replace ho := ho.below hb
        replace hbf := hbf.trans (hb.mono hbf.size)
        clear hb
        obtain ⟨xO, xL, xC, rfl⟩ := hx.form
        go_wp2_with fail
        refine (rtwo_any k _ (by omega)).mono ?_
        rintro e w4 ⟨r9, rfl, hy, hb⟩
        replace hbr := hbr.kept hb
        replace hbz := hbz.kept hb
        replace ho := ho.below hb
        replace hx := hx.below hb
        replace hbf := hbf.trans (hb.mono hbf.size)
        clear hb
        obtain ⟨yO, yL, yC, rfl⟩ := hy.form
        go_wp2_with fail
        refine (rmake_any (fneg E F b) _ _ (m) (2 ^ k) _ hx hy (Nat.le_trans (rl9 hm64) (by decide)) (Nat.le_trans (rlp (k := k) (by omega)) (by decide)) (Nat.pow_pos (by decide))).mono ?_
        rintro e w5 hq9
        obtain ⟨qB, qxO, qxL, qxC, qyO, qyL, qyC, rfl, hS, hqx, hqy, hq, hb⟩ := hq9.out
        have HqS := Lib.hid hS; clear hS
        replace hbr := hbr.kept hb
        replace hbz := hbz.kept hb
        replace ho := ho.below hb
        replace hx := hx.below hb
        replace hy := hy.below hb
        replace hbf := hbf.trans (hb.mono hbf.size)
        clear hb
        rw [hd.1] at hq
        have er0 := hbr.c0
        have fr0 := hbr.f0
        have er1 := hbr.c1
        have fr1 := hbr.f1
        have er2 := hbr.c2
        have fr2 := hbr.f2
        go_wp2_with fail
        (try rw [hd.2])
        exact end_rc rfl rfl rfl rfl hbr (show w.heap.size ≤ pr by have := HP.out; omega) hq hbf
    case neg =>
      have hqb : ((q : Int) == 0) = false := by rw [beq_eq_false_iff_ne, ne_eq]; omega
      have hor := or_two hm2 hF
      obtain ⟨u, hu⟩ : ∃ u : Int, u = ((max q 1 : Nat) - (2 ^ (E - 1) - 1 : Nat) - (F : Nat) : Int) := ⟨_, rfl⟩
      have hup := value_exp (F := F) hE2 hE hF he2 ((q : Int)) (by omega)
      have hlo := value_low (F := F) hE2 hE hF he2
      have hhi := value_high (F := F) hE2 hE hF he2
      rw [← hu] at hup hlo hhi
      have HU := Lib.hid hu
      clear hu
      have hm64 : m + 2 ^ F < 18446744073709551616 := by omega
      by_cases hu0 : 0 ≤ u
      case pos =>
        obtain ⟨k, rfl⟩ : ∃ k : Nat, u = (k : Int) := ⟨u.toNat, by omega⟩
        have hc : decide ((0 : Int) ≤ (k : Int)) = true := decide_eq_true (by omega)
        have hl := rl_pow9 (n := m + 2 ^ F) (k := k) hm64 (by omega)
        have hd := HUP.out (m + 2 ^ F) hE2 hF1 HS.out (by rw [if_pos (by omega)]) k HU.out.symm
        clear HUP HDN
        go_wp2_with fail
        refine (rof_any (m + 2 ^ F) _ hm64).mono ?_
        rintro e w3 ⟨r9, rfl, hx, hb⟩
        replace hbr := hbr.kept hb
        replace hbz := hbz.kept hb
        replace ho := ho.below hb
        replace hbf := hbf.trans (hb.mono hbf.size)
        clear hb
        obtain ⟨xO, xL, xC, rfl⟩ := hx.form
        go_wp2_with fail
        refine (rtwo_any k _ (by omega)).mono ?_
        rintro e w4 ⟨r9, rfl, hy, hb⟩
        replace hbr := hbr.kept hb
        replace hbz := hbz.kept hb
        replace ho := ho.below hb
        replace hx := hx.below hb
        replace hbf := hbf.trans (hb.mono hbf.size)
        clear hb
        obtain ⟨yO, yL, yC, rfl⟩ := hy.form
        go_wp2_with fail
        refine (rmul_any _ _ (m + 2 ^ F) (2 ^ k) _ hx hy (Nat.le_trans (rl9 hm64) (by decide)) (Nat.le_trans (rlp (k := k) (by omega)) (by decide))).mono ?_
        rintro e w5 ⟨r9, rfl, hv, hb⟩
        replace hbr := hbr.kept hb
        replace hbz := hbz.kept hb
        replace ho := ho.below hb
        replace hx := hx.below hb
        replace hy := hy.below hb
        replace hbf := hbf.trans (hb.mono hbf.size)
        clear hb
        obtain ⟨vO, vL, vC, rfl⟩ := hv.form
        obtain ⟨w6, hwE⟩ : ∃ W, W = (w5.alloc (.cells #[.int .i64 1] 3)) := ⟨_, rfl⟩
        have hb : Below w5.heap.size w5 w6 := by rw [hwE]; exact ((Below.refl _ w5).alloc (Nat.le_refl _) _)
        obtain ⟨iP, hpi⟩ : ∃ p, p = w5.heap.size := ⟨_, rfl⟩
        have hi : RIs w6 (.slice (some ⟨iP, 0, none⟩) 1 1) 1 := by rw [hwE, hpi]; exact (one_is w5 (x := 1) (by omega) (by omega))
        have HW := Lib.hid hwE; clear hwE
        go_wp2_with fail
        rw [← HW.out, ← hpi]
        clear hpi HW
        replace hbr := hbr.kept hb
        replace hbz := hbz.kept hb
        replace ho := ho.below hb
        replace hx := hx.below hb
        replace hy := hy.below hb
        replace hv := hv.below hb
        replace hbf := hbf.trans (hb.mono hbf.size)
        clear hb
        refine (rmake_any (fneg E F b) _ _ ((m + 2 ^ F) * 2 ^ k) 1 _ hv hi hl (by rw [rlimbs_one]; decide) (by decide)).mono ?_
        rintro e w7 hq9
        obtain ⟨qB, qxO, qxL, qxC, qyO, qyL, qyC, rfl, hS, hqx, hqy, hq, hb⟩ := hq9.out
        have HqS := Lib.hid hS; clear hS
        replace hbr := hbr.kept hb
        replace hbz := hbz.kept hb
        replace ho := ho.below hb
        replace hx := hx.below hb
        replace hy := hy.below hb
        replace hv := hv.below hb
        replace hi := hi.below hb
        replace hbf := hbf.trans (hb.mono hbf.size)
        clear hb
        rw [hd.1] at hq
        have er0 := hbr.c0
        have fr0 := hbr.f0
        have er1 := hbr.c1
        have fr1 := hbr.f1
        have er2 := hbr.c2
        have fr2 := hbr.f2
        go_wp2_with fail
        (try rw [hd.2])
        exact end_rc rfl rfl rfl rfl hbr (show w.heap.size ≤ pr by have := HP.out; omega) hq hbf
      case neg =>
        obtain ⟨k, rfl⟩ : ∃ k : Nat, u = -(k : Int) := ⟨u.natAbs, by omega⟩
        have hc : decide ((0 : Int) ≤ -(k : Int)) = false := decide_eq_false (by omega)
        have hd := HDN.out (m + 2 ^ F) hE2 hF1 HS.out (by rw [if_pos (by omega)]) k (by omega) HU.out.symm
        clear HUP HDN
        go_wp2_with fail
        refine (rof_any (m + 2 ^ F) _ hm64).mono ?_
        rintro e w3 ⟨r9, rfl, hx, hb⟩
        replace hbr := hbr.kept hb
        replace hbz := hbz.kept hb
        replace ho := ho.below hb
        replace hbf := hbf.trans (hb.mono hbf.size)
        clear hb
        obtain ⟨xO, xL, xC, rfl⟩ := hx.form
        go_wp2_with fail
        refine (rtwo_any k _ (by omega)).mono ?_
        rintro e w4 ⟨r9, rfl, hy, hb⟩
        replace hbr := hbr.kept hb
        replace hbz := hbz.kept hb
        replace ho := ho.below hb
        replace hx := hx.below hb
        replace hbf := hbf.trans (hb.mono hbf.size)
        clear hb
        obtain ⟨yO, yL, yC, rfl⟩ := hy.form
        go_wp2_with fail
        refine (rmake_any (fneg E F b) _ _ (m + 2 ^ F) (2 ^ k) _ hx hy (Nat.le_trans (rl9 hm64) (by decide)) (Nat.le_trans (rlp (k := k) (by omega)) (by decide)) (Nat.pow_pos (by decide))).mono ?_
        rintro e w5 hq9
        obtain ⟨qB, qxO, qxL, qxC, qyO, qyL, qyC, rfl, hS, hqx, hqy, hq, hb⟩ := hq9.out
        have HqS := Lib.hid hS; clear hS
        replace hbr := hbr.kept hb
        replace hbz := hbz.kept hb
        replace ho := ho.below hb
        replace hx := hx.below hb
        replace hy := hy.below hb
        replace hbf := hbf.trans (hb.mono hbf.size)
        clear hb
        rw [hd.1] at hq
        have er0 := hbr.c0
        have fr0 := hbr.f0
        have er1 := hbr.c1
        have fr1 := hbr.f1
        have er2 := hbr.c2
        have fr2 := hbr.f2
        go_wp2_with fail
        (try rw [hd.2])
        exact end_rc rfl rfl rfl rfl hbr (show w.heap.size ≤ pr by have := HP.out; omega) hq hbf
end Go.Proofs.YtieffhkfefimeaaGreatDoor
namespace Go.Proofs.YtieffhkfefimeaaGreatDoor
open Go.RowKit
set_option linter.unusedVariables false
set_option linter.unusedSimpArgs false
theorem rdecode_s (b : Nat) (k : Int) (q : Rat) (w : World) (hk : Hid (dkind 8 23 b = k)) (hq : Hid (dval' 8 23 b = q)) (hb64 : b < 18446744073709551616) :
    Calls Tryz.prog 15 #[.int .i64 8, .int .i64 23, .int .u64 (b : Int)] w (RQPostC w q k) := by
  have h := rdecode_any 8 23 b w (by decide) (by decide) (by decide) (by decide) hb64
  rwa [hk.out, hq.out] at h
theorem rqcmp_r (va vc : Value) (a c : Rat) (z : Int) (i j : Nat) (w : World) (ha : RQIs w va a) (hc : RQIs w vc c) (hla : QB a i) (hlc : QB c j) (hij : i + j ≤ 90000) (hz : Hid (qcmp a c = z)) :
    Calls Tryz.prog 20 #[va, vc] w fun e w' => e = .returned (.int .i64 z) ∧ Below w.heap.size w w' := by
  have := rqcmp_any va vc a c i j w ha hc hla hlc hij
  rwa [hz.out] at this
set_option maxRecDepth 100000 in
set_option maxHeartbeats 1000000 in
/-- number. -/
theorem rnumber_any (b : Nat) (k : Int) (q : Rat) (w : World) (hk : Hid (dkind 8 23 b = k)) (hq : Hid (dval' 8 23 b = q)) (hb64 : b < 18446744073709551616) :
    Calls Tryz.prog 33 #[.int .u64 (b : Int)] w (RQPostC w q k) := by
  obtain ⟨w0, hw0⟩ : ∃ w0, w0 = (w.alloc (.cells #[.bool false, .slice none 0 0, .slice none 0 0] 44)) := ⟨_, rfl⟩
  have hbf : Below w.heap.size w w0 := by rw [hw0]; exact ((Below.refl _ w).alloc (Nat.le_refl _) _)
  obtain ⟨pr, hpr⟩ : ∃ p, p = w.heap.size := ⟨_, rfl⟩
  have hbr : Box3 w0 pr (Value.bool false) (Value.slice none 0 0) (Value.slice none 0 0) := by rw [hw0, hpr]; exact ⟨by go_simp, by go_simp, by go_simp, by go_simp, by go_simp, by go_simp⟩
  have HP : Hid (w.heap.size ≤ pr) := Lib.hid (by omega)
  have HW := Lib.hid hw0; clear hw0
  go_enter Tryz.func33, Tryz.ntmps33
  go_upto_region 1 with fail
  rw [← HW.out, ← hpr]
  clear hpr HW
  go_wp2_with fail
  refine (rdecode_s b k q _ hk hq hb64).mono ?_
  rintro e w1 hq9
  obtain ⟨xB, xxO, xxL, xxC, xyO, xyL, xyC, rfl, hS, hxx, hxy, hx, hb⟩ := hq9.out
  have HxS := Lib.hid hS; clear hS
  replace hbr := hbr.kept hb
  replace hbf := hbf.trans (hb.mono hbf.size)
  clear hb
  have er0 := hbr.c0
  have fr0 := hbr.f0
  have er1 := hbr.c1
  have fr1 := hbr.f1
  have er2 := hbr.c2
  have fr2 := hbr.f2
  go_wp2_with fail
  clear er0 fr0 er1 fr1 er2 fr2
  obtain ⟨w2, hwE⟩ : ∃ W, W = ((w1.setCell ⟨pr, 0, none⟩ (Value.bool xB)).setCell ⟨pr, 1, none⟩ (Value.slice xxO xxL xxC)).setCell ⟨pr, 2, none⟩ (Value.slice xyO xyL xyC) := ⟨_, rfl⟩
  rw [← hwE]
  replace hxx := hxx.set3 (u0 := (Value.bool xB)) (u1 := (Value.slice xxO xxL xxC)) (u2 := (Value.slice xyO xyL xyC)) hbr; rw [← hwE] at hxx
  replace hxy := hxy.set3 (u0 := (Value.bool xB)) (u1 := (Value.slice xxO xxL xxC)) (u2 := (Value.slice xyO xyL xyC)) hbr; rw [← hwE] at hxy
  replace hx := hx.set3 (u0 := (Value.bool xB)) (u1 := (Value.slice xxO xxL xxC)) (u2 := (Value.slice xyO xyL xyC)) hbr; rw [← hwE] at hx
  replace hbf := below_set3 (u0 := (Value.bool xB)) (u1 := (Value.slice xxO xxL xxC)) (u2 := (Value.slice xyO xyL xyC)) hbf (show w.heap.size ≤ pr by have := HP.out; omega); rw [← hwE] at hbf
  replace hbr := hbr.set3 (u0 := (Value.bool xB)) (u1 := (Value.slice xxO xxL xxC)) (u2 := (Value.slice xyO xyL xyC)); rw [← hwE] at hbr; clear hwE
  have er0 := hbr.c0
  have er1 := hbr.c1
  have er2 := hbr.c2
  (try go_wp2_with fail)
  exact bodyPost_ret (v := .tuple #[.agg #[.bool xB, .slice xxO xxL xxC, .slice xyO xyL xyC], .int .i64 k]) (by simp [results, Tryz.results33, go_sem, er0, er1, er2]) rfl ⟨_, rfl, hx, hbf⟩
set_option maxRecDepth 100000 in
set_option maxHeartbeats 2000000 in
/-- Takes, the document's. -/
theorem rtakes_any (mode : Int) (v : Nat) (tracks : Bool) (x : Nat) (t : Bool) (w : World) (hv64 : v < 18446744073709551616) (hx64 : x < 18446744073709551616) (ht : Hid (takesP mode v tracks x = t)) :
    Calls Tryz.prog 10 #[.int .i64 mode, .int .u64 (v : Int), .bool tracks, .int .u64 (x : Int)] w fun e w' => e = .returned (.bool t) ∧ Below w.heap.size w w' := by
  have hkc := dkind_cases 8 23 x
  have hmc := dkind_cases 8 23 v
  have hpz := fun h => dval_zero (E := 8) (F := 23) (b := x) h
  have hqz := fun h => dval_zero (E := 8) (F := 23) (b := v) h
  obtain ⟨k, hk⟩ : ∃ k, dkind 8 23 x = k := ⟨_, rfl⟩
  obtain ⟨m, hm⟩ : ∃ m, dkind 8 23 v = m := ⟨_, rfl⟩
  obtain ⟨p, hp⟩ : ∃ p, dval' 8 23 x = p := ⟨_, rfl⟩
  obtain ⟨q, hq⟩ : ∃ q, dval' 8 23 v = q := ⟨_, rfl⟩
  have hR : takesK mode k m p q tracks = t := by rw [← ht.out, ← hk, ← hm, ← hp, ← hq]; rfl
  rw [hk] at hkc hpz
  rw [hm] at hmc hqz
  rw [hp] at hpz
  rw [hq] at hqz
  have HR := Lib.hid hR
  have HK := Lib.hid hk
  have HM := Lib.hid hm
  have HPP := Lib.hid hp
  have HQ := Lib.hid hq
  have HPZ := Lib.hid hpz
  have HQZ := Lib.hid hqz
  have HKC := Lib.hid hkc
  have HMC := Lib.hid hmc
  clear hk hm hp hq hR ht hpz hqz hkc hmc
  go_enter Tryz.func10, Tryz.ntmps10
  go_wp2_with fail
  refine (rnumber_any x k p _ HK HPP hx64).mono ?_
  rintro e w1 hq9
  obtain ⟨xB, xxO, xxL, xxC, xyO, xyL, xyC, rfl, hS, hxx, hxy, hx, hb⟩ := hq9.out
  have HxS := Lib.hid hS; clear hS
  have hbf := hb
  clear hb
  obtain ⟨w2, hwE⟩ : ∃ W, W = (w1.alloc (.cells #[.bool xB, .slice xxO xxL xxC, .slice xyO xyL xyC] 44)) := ⟨_, rfl⟩
  have hb : Below w1.heap.size w1 w2 := by rw [hwE]; exact ((Below.refl _ w1).alloc (Nat.le_refl _) _)
  obtain ⟨pr, hpr⟩ : ∃ p, p = w1.heap.size := ⟨_, rfl⟩
  have hbr : Box3 w2 pr (Value.bool xB) (Value.slice xxO xxL xxC) (Value.slice xyO xyL xyC) := by rw [hwE, hpr]; exact ⟨by go_simp, by go_simp, by go_simp, by go_simp, by go_simp, by go_simp⟩
  have HP : Hid (w.heap.size ≤ pr) := Lib.hid (by have h9 := hbf.size; omega)
  have HW := Lib.hid hwE; clear hwE
  go_upto_region 2 with fail
  rw [← HW.out, ← hpr]
  clear hpr HW
  replace hxx := hxx.below hb
  replace hxy := hxy.below hb
  replace hx := hx.below hb
  replace hbf := hbf.trans (hb.mono hbf.size)
  clear hb
  go_wp2_with fail
  refine (rnumber_any v m q _ HM HQ hv64).mono ?_
  rintro e w3 hq9
  obtain ⟨yB, yxO, yxL, yxC, yyO, yyL, yyC, rfl, hS, hyx, hyy, hy, hb⟩ := hq9.out
  have HyS := Lib.hid hS; clear hS
  replace hbr := hbr.kept hb
  replace hxx := hxx.below hb
  replace hxy := hxy.below hb
  replace hx := hx.below hb
  replace hbf := hbf.trans (hb.mono hbf.size)
  clear hb
  obtain ⟨w4, hwE⟩ : ∃ W, W = (w3.alloc (.cells #[.bool yB, .slice yxO yxL yxC, .slice yyO yyL yyC] 44)) := ⟨_, rfl⟩
  have hb : Below w3.heap.size w3 w4 := by rw [hwE]; exact ((Below.refl _ w3).alloc (Nat.le_refl _) _)
  obtain ⟨ps, hps⟩ : ∃ p, p = w3.heap.size := ⟨_, rfl⟩
  have hbs : Box3 w4 ps (Value.bool yB) (Value.slice yxO yxL yxC) (Value.slice yyO yyL yyC) := by rw [hwE, hps]; exact ⟨by go_simp, by go_simp, by go_simp, by go_simp, by go_simp, by go_simp⟩
  replace HP : Hid (w.heap.size ≤ pr ∧ pr < ps) := Lib.hid (by have h1 := HP.out; have h9 := hbf.size; have h2r := hbr.lt; omega)
  have HW := Lib.hid hwE; clear hwE
  go_upto_region 3 with fail
  rw [← HW.out, ← hps]
  clear hps HW
  replace hbr := hbr.kept hb
  replace hxx := hxx.below hb
  replace hxy := hxy.below hb
  replace hx := hx.below hb
  replace hyx := hyx.below hb
  replace hyy := hyy.below hb
  replace hy := hy.below hb
  replace hbf := hbf.trans (hb.mono hbf.size)
  clear hb
  have hpq := dval_qb_s HPP.out
  have hqq := dval_qb_s HQ.out
  obtain ⟨z, hz⟩ : ∃ z, qcmp p q = z := ⟨_, rfl⟩
  have HZ := Lib.hid hz
  clear hz
  have er0 := hbr.c0
  have er1 := hbr.c1
  have er2 := hbr.c2
  have es0 := hbs.c0
  have es1 := hbs.c1
  have es2 := hbs.c2
  rcases HKC.out with hk | hk | hk | hk
  all_goals
    rcases HMC.out with hm | hm | hm | hm
  all_goals
    subst hk hm
    go_upto_region 15 with (go_at_call 20; refine (rqcmp_r _ _ p q z 66 66 _ hx hy hpq hqq (by decide) HZ).mono ?_; rintro e9 w9 ⟨rfl, hb9⟩)
  all_goals
    first
    | (obtain rfl : tracks = t := HR.out
       go_wp2_with fail
       go_ret
       exact ⟨rfl, hbf⟩)
    | (obtain rfl : false = t := HR.out
       go_wp2_with fail
       go_ret
       exact ⟨rfl, hbf⟩)
    | skip
  all_goals
    have hmd : mode = 1 ∨ mode = 2 ∨ mode = 3 ∨ mode = 4 ∨ mode = 5 ∨ mode = 6 ∨ ((mode == 1) = false ∧ (mode == 2) = false ∧ (mode == 3) = false ∧ (mode == 4) = false ∧ (mode == 5) = false ∧ (mode == 6) = false) := by simp; omega
    first
    | (have p0 : p = 0 := HPZ.out (by decide)
       have q0 : q = 0 := HQZ.out (by decide)
       have hc : modeP mode 0 = t := by
         have h : modeP mode (qcmp p q) = t := HR.out
         rw [p0, q0, show qcmp 0 0 = 0 by decide +kernel] at h
         exact h
       (rcases hmd with hm1 | hm1 | hm1 | hm1 | hm1 | hm1 | hm1) <;> (first | (subst hm1) | (obtain ⟨z1, z2, z3, z4, z5, z6⟩ := hm1)) <;> (subst hc) <;> (go_wp2_with fail) <;> (first | (go_ret; exact ⟨ret_one (congrArg Value.bool (by first | rfl | (by_cases h9 : z = 0 <;> simp [modeP, h9]; done) | (simp [modeP] <;> omega) | (unfold modeP; simp <;> omega) | (unfold modeP; simp_all))), (by first | exact hbf | exact hbf.trans (hb9.mono hbf.size))⟩)))
    | (have hc : modeP mode z = t := by
         have h : modeP mode (qcmp p q) = t := HR.out
         rw [HZ.out] at h
         exact h
       (rcases hmd with hm1 | hm1 | hm1 | hm1 | hm1 | hm1 | hm1) <;> (first | (subst hm1) | (obtain ⟨z1, z2, z3, z4, z5, z6⟩ := hm1)) <;> (subst hc) <;> (go_wp2_with fail) <;> (first | (go_ret; exact ⟨ret_one (congrArg Value.bool (by first | rfl | (by_cases h9 : z = 0 <;> simp [modeP, h9]; done) | (simp [modeP] <;> omega) | (unfold modeP; simp <;> omega) | (unfold modeP; simp_all))), (by first | exact hbf | exact hbf.trans (hb9.mono hbf.size))⟩)))
    | (have hc : modeP mode (-1) = t := HR.out
       (rcases hmd with hm1 | hm1 | hm1 | hm1 | hm1 | hm1 | hm1) <;> (first | (subst hm1) | (obtain ⟨z1, z2, z3, z4, z5, z6⟩ := hm1)) <;> (subst hc) <;> (go_wp2_with fail) <;> (first | (go_ret; exact ⟨ret_one (congrArg Value.bool (by first | rfl | (by_cases h9 : z = 0 <;> simp [modeP, h9]; done) | (simp [modeP] <;> omega) | (unfold modeP; simp <;> omega) | (unfold modeP; simp_all))), (by first | exact hbf | exact hbf.trans (hb9.mono hbf.size))⟩)))
    | (have hc : modeP mode 1 = t := HR.out
       (rcases hmd with hm1 | hm1 | hm1 | hm1 | hm1 | hm1 | hm1) <;> (first | (subst hm1) | (obtain ⟨z1, z2, z3, z4, z5, z6⟩ := hm1)) <;> (subst hc) <;> (go_wp2_with fail) <;> (first | (go_ret; exact ⟨ret_one (congrArg Value.bool (by first | rfl | (by_cases h9 : z = 0 <;> simp [modeP, h9]; done) | (simp [modeP] <;> omega) | (unfold modeP; simp <;> omega) | (unfold modeP; simp_all))), (by first | exact hbf | exact hbf.trans (hb9.mono hbf.size))⟩)))
end Go.Proofs.YtieffhkfefimeaaGreatDoor
