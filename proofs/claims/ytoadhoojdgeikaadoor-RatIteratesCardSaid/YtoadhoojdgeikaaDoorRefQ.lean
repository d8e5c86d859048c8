import Derived.Test.YtoadhoojdgeikaaDoorRatD
namespace Go.Proofs.YtoadhoojdgeikaaDoor
open Go.RowKit
set_option linter.unusedVariables false
set_option linter.unusedSimpArgs false
attribute [local go_sem] field_nat
theorem trim_r (v : Value) (n : Nat) (w : World) (h : RIs w v n) : Calls Tryd.prog 46 #[v] w fun e w' => e = .returned v ∧ Below w.heap.size w w' :=
  (rtrim_same v n w h).mono fun e w' h => ⟨h.1, h.2 ▸ Below.refl _ _⟩
theorem RIs.len {w : World} {o : Option Addr} {l c n : Nat} (h : RIs w (.slice o l c) n) : l = (rlimbs n).length := by
  obtain ⟨ao, cap, h1, _⟩ := h.open
  injection h1
theorem rlimbs_mono {a b k : Nat} (hab : a ≤ b) (h : (rlimbs b).length ≤ k) : (rlimbs a).length ≤ k := Nat.le_trans (rlimbs_length_mono hab) h
theorem rlimbs_one : (rlimbs 1).length = 1 := by rw [rlimbs_pos (by omega)]; simp [rlimbs_zero]
theorem rlimbs_mul {a b m n : Nat} (ha : (rlimbs a).length ≤ m) (hb : (rlimbs b).length ≤ n) : (rlimbs (a * b)).length ≤ m + n := by
  have h1 := lt_pow_rlimbs a
  have h2 := lt_pow_rlimbs b
  refine rlimbs_length_le ?_
  have h3 : a < 10000 ^ m := Nat.lt_of_lt_of_le h1 (Nat.pow_le_pow_right (by decide) ha)
  have h4 : b < 10000 ^ n := Nat.lt_of_lt_of_le h2 (Nat.pow_le_pow_right (by decide) hb)
  rw [Nat.pow_add]
  exact Nat.mul_lt_mul'' h3 h4
theorem rlimbs_add {a b m : Nat} (ha : (rlimbs a).length ≤ m) (hb : (rlimbs b).length ≤ m) : (rlimbs (a + b)).length ≤ m + 1 := by
  have h1 := lt_pow_rlimbs a
  have h2 := lt_pow_rlimbs b
  refine rlimbs_length_le ?_
  have h3 : a < 10000 ^ m := Nat.lt_of_lt_of_le h1 (Nat.pow_le_pow_right (by decide) ha)
  have h4 : b < 10000 ^ m := Nat.lt_of_lt_of_le h2 (Nat.pow_le_pow_right (by decide) hb)
  rw [Nat.pow_succ]
  omega
set_option maxRecDepth 100000 in
set_option maxHeartbeats 1000000 in
/-- Make. -/
theorem rmake_any (neg : Bool) (vn vd : Value) (n d : Nat) (w : World) (hn : RIs w vn n) (hd : RIs w vd d) (hln : (rlimbs n).length ≤ 1000000) (hld : (rlimbs d).length ≤ 1000000) (hd0 : 0 < d) :
    Calls Tryd.prog 23 #[.bool neg, vn, vd] w (RQPost w (qOf neg n d)) := by
  obtain ⟨nO, nL, nC, rfl⟩ := hn.form
  obtain ⟨dO, dL, dC, rfl⟩ := hd.form
  obtain ⟨w0, hw0⟩ : ∃ w0, w0 = (w.alloc (.cells #[.bool false, .slice none 0 0, .slice none 0 0] 29)) := ⟨_, rfl⟩
  have hbf : Below w.heap.size w w0 := by rw [hw0]; exact ((Below.refl _ w).alloc (Nat.le_refl _) _)
  obtain ⟨pr, hpr⟩ : ∃ p, p = w.heap.size := ⟨_, rfl⟩
  have hbr : Box3 w0 pr (Value.bool false) (Value.slice none 0 0) (Value.slice none 0 0) := by rw [hw0, hpr]; exact ⟨by go_simp, by go_simp, by go_simp, by go_simp, by go_simp, by go_simp⟩
  have HP : Hid (w.heap.size ≤ pr) := Lib.hid (by omega)
  replace hn := hn.below hbf
  replace hd := hd.below hbf
  have HW := Lib.hid hw0; clear hw0
  go_enter Tryd.func23, Tryd.ntmps23
  go_upto_region 1 with fail
  rw [← HW.out, ← hpr]
  clear hpr HW
  have HD := Lib.hid hd0; clear hd0
  go_wp2_with fail
  refine (trim_r _ n _ hn).mono ?_
  rintro e w1 ⟨rfl, hb⟩
  replace hbr := hbr.kept hb
  replace hn := hn.below hb
  replace hd := hd.below hb
  replace hbf := hbf.trans (hb.mono hbf.size)
  clear hb
  go_wp2_with fail
  refine (trim_r _ d _ hd).mono ?_
  rintro e w2 ⟨rfl, hb⟩
  replace hbr := hbr.kept hb
  replace hn := hn.below hb
  replace hd := hd.below hb
  replace hbf := hbf.trans (hb.mono hbf.size)
  clear hb
  go_wp2_with fail
  refine (rgcd_any _ _ n d _ hn hd hln hld).mono ?_
  rintro e w3 ⟨r9, rfl, hg, hb⟩
  replace hbr := hbr.kept hb
  replace hn := hn.below hb
  replace hd := hd.below hb
  replace hbf := hbf.trans (hb.mono hbf.size)
  clear hb
  obtain ⟨gO, gL, gC, rfl⟩ := hg.form
  have HG : Hid (0 < Nat.gcd n d) := Lib.hid (Nat.gcd_pos_of_pos_right _ HD.out)
  have hlg : (rlimbs (Nat.gcd n d)).length ≤ 1000000 := rlimbs_mono (Nat.gcd_le_right _ HD.out) hld
  go_wp2_with fail
  refine (rdivmod_any _ _ n (Nat.gcd n d) _ hn hg hln hlg HG.out).mono ?_
  rintro e w4 ⟨r9, s9, rfl, hx, hs, hb⟩
  replace hbr := hbr.kept hb
  replace hn := hn.below hb
  replace hd := hd.below hb
  replace hg := hg.below hb
  replace hbf := hbf.trans (hb.mono hbf.size)
  clear hb
  obtain ⟨xO, xL, xC, rfl⟩ := hx.form
  obtain ⟨sO, sL, sC, rfl⟩ := hs.form
  clear hs
  go_wp2_with fail
  refine (rdivmod_any _ _ d (Nat.gcd n d) _ hd hg hld hlg HG.out).mono ?_
  rintro e w5 ⟨r9, s9, rfl, hy, hs, hb⟩
  replace hbr := hbr.kept hb
  replace hn := hn.below hb
  replace hd := hd.below hb
  replace hg := hg.below hb
  replace hx := hx.below hb
  replace hbf := hbf.trans (hb.mono hbf.size)
  clear hb
  obtain ⟨yO, yL, yC, rfl⟩ := hy.form
  obtain ⟨tO, tL, tC, rfl⟩ := hs.form
  clear hs
  have hxl := hx.len
  have hx0 : decide ((0 : Int) < (xL : Int)) = decide (0 < n) := by
    rw [hxl]
    by_cases h0 : n = 0
    · subst h0; simp [rlimbs_zero]
    · have h1 : 0 < n / Nat.gcd n d := Nat.div_pos (Nat.gcd_le_left _ (by omega)) HG.out
      have h2 : rlimbs (n / Nat.gcd n d) ≠ [] := fun h => by have := rlimbs_eq_nil.1 h; omega
      have h3 : 0 < (rlimbs (n / Nat.gcd n d)).length := List.length_pos_iff.2 h2
      rw [decide_eq_true (by omega), decide_eq_true (by omega)]
  have HX := Lib.hid hx0; clear hx0 hxl
  cases neg
  case false =>
    have er0 := hbr.c0
    have fr0 := hbr.f0
    have er1 := hbr.c1
    have fr1 := hbr.f1
    have er2 := hbr.c2
    have fr2 := hbr.f2
    go_wp2_with fail
    exact end_r rfl rfl rfl hbr (show w.heap.size ≤ pr by have := HP.out; omega) (RQIs.made HD.out (by first | rfl | (rw [← HX.out]; simp)) hx hy) hbf
  case true =>
    have er0 := hbr.c0
    have fr0 := hbr.f0
    have er1 := hbr.c1
    have fr1 := hbr.f1
    have er2 := hbr.c2
    have fr2 := hbr.f2
    go_wp2_with fail
    exact end_r rfl rfl rfl hbr (show w.heap.size ≤ pr by have := HP.out; omega) (RQIs.made HD.out (by first | rfl | (rw [← HX.out]; simp)) hx hy) hbf
theorem qb_pf2 {a : Rat} (hs : Hid (false = decide (a < 0))) (h : ¬ a.den = 1) : ((⟨(str (dec a.num.natAbs)).toArray⟩ ++ ⟨#[47]⟩) ++ ⟨(str (dec a.den)).toArray⟩ : ByteArray) = ⟨(qtext a).toArray⟩ := by
  rw [← qb_pf hs h]; apply ByteArray.ext; simp
theorem qb_nf2 {a : Rat} (hs : Hid (true = decide (a < 0))) (h : ¬ a.den = 1) : (((⟨#[45]⟩ ++ ⟨(str (dec a.num.natAbs)).toArray⟩) ++ ⟨#[47]⟩) ++ ⟨(str (dec a.den)).toArray⟩ : ByteArray) = ⟨(qtext a).toArray⟩ := by
  rw [← qb_nf hs h]; apply ByteArray.ext; simp
set_option maxRecDepth 100000 in
set_option maxHeartbeats 1000000 in
/-- RatText. -/
theorem rqtext_any (va : Value) (a : Rat) (w : World) (ha : RQIs w va a) (hla : QB a 30000) :
    Calls Tryd.prog 29 #[va] w fun e w' => e = .returned (.string ⟨(qtext a).toArray⟩) ∧ Below w.heap.size w w' := by
  obtain ⟨aB, axO, axL, axC, ayO, ayL, ayC, rfl, hS, hax, hay⟩ := ha.form
  have HaS := Lib.hid hS; clear hS
  obtain ⟨w0, hw0⟩ : ∃ w0, w0 = (w.alloc (.cells #[.bool aB, .slice axO axL axC, .slice ayO ayL ayC] 29)) := ⟨_, rfl⟩
  have hbf : Below w.heap.size w w0 := by rw [hw0]; exact ((Below.refl _ w).alloc (Nat.le_refl _) _)
  obtain ⟨pa, hpa⟩ : ∃ p, p = w.heap.size := ⟨_, rfl⟩
  have hba : Box3 w0 pa (Value.bool aB) (Value.slice axO axL axC) (Value.slice ayO ayL ayC) := by rw [hw0, hpa]; exact ⟨by go_simp, by go_simp, by go_simp, by go_simp, by go_simp, by go_simp⟩
  have HP : Hid (w.heap.size ≤ pa) := Lib.hid (by omega)
  replace ha := ha.below hbf
  replace hax := hax.below hbf
  replace hay := hay.below hbf
  have HW := Lib.hid hw0; clear hw0
  go_enter Tryd.func29, Tryd.ntmps29
  go_upto_region 1 with fail
  rw [← HW.out, ← hpa]
  clear hpa HW
  have hla1 := hla.1
  have hla2 := hla.2
  have hr1 := rlimbs_of_limbs hla1
  have hr2 := rlimbs_of_limbs hla2
  have ea0 := hba.c0
  have ea1 := hba.c1
  have ea2 := hba.c2
  go_wp2_with fail
  refine (rtext_any _ a.num.natAbs _ hax (by omega)).mono ?_
  rintro e w1 ⟨rfl, hb⟩
  clear ea0 ea1 ea2
  replace hba := hba.kept hb
  replace ha := ha.below hb
  replace hax := hax.below hb
  replace hay := hay.below hb
  replace hbf := hbf.trans (hb.mono hbf.size)
  clear hb
  obtain ⟨T, hT⟩ : ∃ T, T = str (dec a.num.natAbs) := ⟨_, rfl⟩
  obtain ⟨D, hD⟩ : ∃ D, D = str (dec a.den) := ⟨_, rfl⟩
  rw [← hT]
  have hTl : T.length ≤ 300001 := by rw [hT]; exact dec_limbsK hla1 (by omega)
  have hDl : D.length ≤ 300001 := by rw [hD]; exact dec_limbsK hla2 (by omega)
  have HT := Lib.hid hT.symm; clear hT
  have HDD := Lib.hid hD.symm; clear hD
  have hcmp : (cmpI a.den 1 != 0) = !decide (a.den = 1) := by
    unfold cmpI; by_cases h1 : a.den < 1 <;> by_cases h2 : 1 < a.den <;> simp [h1, h2] <;> omega
  have HCM := Lib.hid hcmp; clear hcmp
  cases aB
  case false =>
    obtain ⟨w2, hwE⟩ : ∃ W, W = (w1.alloc (.cells #[.int .i64 1] 3)) := ⟨_, rfl⟩
    have hb : Below w1.heap.size w1 w2 := by rw [hwE]; exact ((Below.refl _ w1).alloc (Nat.le_refl _) _)
    obtain ⟨oP, hpo⟩ : ∃ p, p = w1.heap.size := ⟨_, rfl⟩
    have ho : RIs w2 (.slice (some ⟨oP, 0, none⟩) 1 1) 1 := by rw [hwE, hpo]; exact (one_is w1 (x := 1) (by omega) (by omega))
    have ea0 := hba.c0
    have ea1 := hba.c1
    have ea2 := hba.c2
    have HW := Lib.hid hwE; clear hwE
    go_wp2_with fail
    rw [← HW.out, ← hpo]
    clear hpo HW
    clear ea0 ea1 ea2
    replace hba := hba.kept hb
    replace ha := ha.below hb
    replace hax := hax.below hb
    replace hay := hay.below hb
    replace hbf := hbf.trans (hb.mono hbf.size)
    clear hb
    refine (rcmp_any _ _ a.den 1 _ hay ho).mono ?_
    rintro e w3 ⟨rfl, hb⟩
    replace hba := hba.kept hb
    replace ha := ha.below hb
    replace hax := hax.below hb
    replace hay := hay.below hb
    replace ho := ho.below hb
    replace hbf := hbf.trans (hb.mono hbf.size)
    clear hb
    by_cases h1 : a.den = 1
    case pos =>
      have hc0 : cmpI a.den 1 = 0 := by rw [h1]; rfl
      rw [hc0]
      have hq := qb_pw HaS h1
      rw [HT.out] at hq
      have HQ := Lib.hid hq; clear hq h1 hc0
      go_wp2_with fail
      go_ret
      exact ⟨ret_one (by rw [← HQ.out]; rfl), hbf⟩
    obtain ⟨c9, hc9⟩ : ∃ c, c = cmpI a.den 1 := ⟨_, rfl⟩
    rw [← hc9]
    have hcn : (c9 != 0) = true := by rw [hc9, HCM.out, decide_eq_false h1]; rfl
    have hcn2 : (c9 == 0) = false := by simpa using hcn
    have hcn3 : ¬ c9 = 0 := by simpa using hcn
    clear hc9
    have hq := qb_pf2 HaS h1
    rw [HT.out, HDD.out] at hq
    have HQ := Lib.hid hq; clear hq
    clear h1
    have ea0 := hba.c0
    have ea1 := hba.c1
    have ea2 := hba.c2
    go_wp2_with fail
    refine (rtext_any _ a.den _ hay (by omega)).mono ?_
    rintro e w4 ⟨rfl, hb⟩
    clear ea0 ea1 ea2
    replace hba := hba.kept hb
    replace ha := ha.below hb
    replace hax := hax.below hb
    replace hay := hay.below hb
    replace ho := ho.below hb
    replace hbf := hbf.trans (hb.mono hbf.size)
    clear hb
    rw [HDD.out]
    go_wp2_with fail
    go_ret
    exact ⟨ret_one (by rw [← HQ.out]; rfl), hbf⟩
  case true =>
    obtain ⟨w2, hwE⟩ : ∃ W, W = (w1.alloc (.cells #[.int .i64 1] 3)) := ⟨_, rfl⟩
    have hb : Below w1.heap.size w1 w2 := by rw [hwE]; exact ((Below.refl _ w1).alloc (Nat.le_refl _) _)
    obtain ⟨oP, hpo⟩ : ∃ p, p = w1.heap.size := ⟨_, rfl⟩
    have ho : RIs w2 (.slice (some ⟨oP, 0, none⟩) 1 1) 1 := by rw [hwE, hpo]; exact (one_is w1 (x := 1) (by omega) (by omega))
    have ea0 := hba.c0
    have ea1 := hba.c1
    have ea2 := hba.c2
    have HW := Lib.hid hwE; clear hwE
    go_wp2_with fail
    rw [← HW.out, ← hpo]
    clear hpo HW
    clear ea0 ea1 ea2
    replace hba := hba.kept hb
    replace ha := ha.below hb
    replace hax := hax.below hb
    replace hay := hay.below hb
    replace hbf := hbf.trans (hb.mono hbf.size)
    clear hb
    refine (rcmp_any _ _ a.den 1 _ hay ho).mono ?_
    rintro e w3 ⟨rfl, hb⟩
    replace hba := hba.kept hb
    replace ha := ha.below hb
    replace hax := hax.below hb
    replace hay := hay.below hb
    replace ho := ho.below hb
    replace hbf := hbf.trans (hb.mono hbf.size)
    clear hb
    by_cases h1 : a.den = 1
    case pos =>
      have hc0 : cmpI a.den 1 = 0 := by rw [h1]; rfl
      rw [hc0]
      have hq := qb_nw HaS h1
      rw [HT.out] at hq
      have HQ := Lib.hid hq; clear hq h1 hc0
      go_wp2_with fail
      go_ret
      exact ⟨ret_one (by rw [← HQ.out]; rfl), hbf⟩
    obtain ⟨c9, hc9⟩ : ∃ c, c = cmpI a.den 1 := ⟨_, rfl⟩
    rw [← hc9]
    have hcn : (c9 != 0) = true := by rw [hc9, HCM.out, decide_eq_false h1]; rfl
    have hcn2 : (c9 == 0) = false := by simpa using hcn
    have hcn3 : ¬ c9 = 0 := by simpa using hcn
    clear hc9
    have hq := qb_nf2 HaS h1
    rw [HT.out, HDD.out] at hq
    have HQ := Lib.hid hq; clear hq
    clear h1
    have ea0 := hba.c0
    have ea1 := hba.c1
    have ea2 := hba.c2
    go_wp2_with fail
    refine (rtext_any _ a.den _ hay (by omega)).mono ?_
    rintro e w4 ⟨rfl, hb⟩
    clear ea0 ea1 ea2
    replace hba := hba.kept hb
    replace ha := ha.below hb
    replace hax := hax.below hb
    replace hay := hay.below hb
    replace ho := ho.below hb
    replace hbf := hbf.trans (hb.mono hbf.size)
    clear hb
    rw [HDD.out]
    go_wp2_with fail
    go_ret
    exact ⟨ret_one (by rw [← HQ.out]; rfl), hbf⟩
theorem cmpI_cases (a b : Nat) : cmpI a b = -1 ∨ cmpI a b = 0 ∨ cmpI a b = 1 := by
  unfold cmpI; split <;> (try split) <;> simp
theorem cmpI_neg (a b : Nat) : cmpI b a = -cmpI a b := by
  unfold cmpI; by_cases h1 : a < b <;> by_cases h2 : b < a <;> simp [h1, h2] <;> omega
theorem cmpI_ge (a b : Nat) : 0 ≤ cmpI a b ↔ b ≤ a := by
  unfold cmpI; by_cases h1 : a < b <;> by_cases h2 : b < a <;> simp [h1, h2] <;> omega
theorem qOf_minus (a : Rat) {s : Bool} (hs : Hid (s = decide (a < 0))) : qOf (!s) a.num.natAbs a.den = -a := by
  rw [hs.out]
  have h := qOf_self (-a)
  rw [(qneg_num a).1, (qneg_num a).2, qneg_sign] at h
  by_cases h0 : a.num.natAbs = 0
  · rw [h0, qOf_zero, q_num_zero.1 h0]; rfl
  · rw [decide_eq_false h0] at h
    simpa using h
set_option maxRecDepth 100000 in
set_option maxHeartbeats 1000000 in
/-- RatCmp. -/
theorem rqcmp_any (va vc : Value) (a c : Rat) (i j : Nat) (w : World) (ha : RQIs w va a) (hc : RQIs w vc c) (hla : QB a i) (hlc : QB c j) (hij : i + j ≤ 90000) :
    Calls Tryd.prog 10 #[va, vc] w fun e w' => e = .returned (.int .i64 (qcmp a c)) ∧ Below w.heap.size w w' := by
  obtain ⟨aB, axO, axL, axC, ayO, ayL, ayC, rfl, hS, hax, hay⟩ := ha.form
  have HaS := Lib.hid hS; clear hS
  obtain ⟨cB, cxO, cxL, cxC, cyO, cyL, cyC, rfl, hS, hcx, hcy⟩ := hc.form
  have HcS := Lib.hid hS; clear hS
  obtain ⟨w0, hw0⟩ : ∃ w0, w0 = ((w.alloc (.cells #[.bool aB, .slice axO axL axC, .slice ayO ayL ayC] 29)).alloc (.cells #[.bool cB, .slice cxO cxL cxC, .slice cyO cyL cyC] 29)) := ⟨_, rfl⟩
  have hbf : Below w.heap.size w w0 := by rw [hw0]; exact (((Below.refl _ w).alloc (Nat.le_refl _) _).alloc (by simp <;> omega) _)
  obtain ⟨pa, hpa⟩ : ∃ p, p = w.heap.size := ⟨_, rfl⟩
  have hba : Box3 w0 pa (Value.bool aB) (Value.slice axO axL axC) (Value.slice ayO ayL ayC) := by rw [hw0, hpa]; exact ⟨by go_simp, by go_simp, by go_simp, by go_simp, by go_simp, by go_simp⟩
  obtain ⟨pc, hpc⟩ : ∃ p, p = w.heap.size + 1 := ⟨_, rfl⟩
  have hbc : Box3 w0 pc (Value.bool cB) (Value.slice cxO cxL cxC) (Value.slice cyO cyL cyC) := by rw [hw0, hpc]; exact ⟨by go_simp, by go_simp, by go_simp, by go_simp, by go_simp, by go_simp⟩
  have HP : Hid (w.heap.size ≤ pa ∧ pa < pc) := Lib.hid (by omega)
  replace ha := ha.below hbf
  replace hc := hc.below hbf
  replace hax := hax.below hbf
  replace hay := hay.below hbf
  replace hcx := hcx.below hbf
  replace hcy := hcy.below hbf
  have HW := Lib.hid hw0; clear hw0
  go_enter Tryd.func10, Tryd.ntmps10
  go_upto_region 1 with fail
  rw [← HW.out, ← hpc, ← hpa]
  clear hpa hpc HW
  have hra1 := rlimbs_of_limbs hla.1
  have hra2 := rlimbs_of_limbs hla.2
  have hrc1 := rlimbs_of_limbs hlc.1
  have hrc2 := rlimbs_of_limbs hlc.2
  cases aB
  case false =>
    cases cB
    case false =>
      have ea0 := hba.c0
      have ea1 := hba.c1
      have ea2 := hba.c2
      have ec0 := hbc.c0
      have ec1 := hbc.c1
      have ec2 := hbc.c2
      go_upto_region 5 with fail
      clear ea0 ea1 ea2 ec0 ec1 ec2
      refine wp_region_seq (S := fun w' => Box3 w' pa (Value.bool false) (Value.slice axO axL axC) (Value.slice ayO ayL ayC) ∧ Box3 w' pc (Value.bool false) (Value.slice cxO cxL cxC) (Value.slice cyO cyL cyC)) [(true, 0), (true, 1), (true, 2), (true, 3), (true, 5), (true, 6), (true, 7), (true, 8), (false, 4), (false, 9), (false, 10), (true, 11)] (by kernel_rfl) (by kernel_rfl) (by kernel_rfl) (by kernel_rfl) (by kernel_rfl) (fun d _ _ _ _ h => by cases d <;> exact h) ⟨hba.drew, hbc.drew⟩ (fun _ => ?_)
      simp only [pickOps, List.append_eq, List.cons_append, List.nil_append, List.getElem?_toArray, List.getElem?_cons_succ, List.getElem?_cons_zero]
      have hb : Below w0.heap.size w0 w0.drew := (Below.refl _ _).drew
      generalize w0.drew = w1 at hb ⊢
      replace hba := hba.kept hb
      replace hbc := hbc.kept hb
      replace ha := ha.below hb
      replace hc := hc.below hb
      replace hax := hax.below hb
      replace hay := hay.below hb
      replace hcx := hcx.below hb
      replace hcy := hcy.below hb
      replace hbf := hbf.trans (hb.mono hbf.size)
      clear hb
      repeat (first | (refine seq_take (v := ?_) (by rfl) ?_ ?_; rotate_left; (· intro w hSw; (try dsimp only at hSw); obtain ⟨⟨ea0, ea1, ea2, _, _, _⟩, ⟨ec0, ec1, ec2, _, _, _⟩⟩ := hSw; go_simp; all_goals with_reducible rfl); (try simp only [Act.put, List.setIfInBounds_toArray, List.set_cons_zero, List.set_cons_succ])) | (refine seq_leave (by rfl) ?_; (try simp only [Act.put, List.setIfInBounds_toArray, List.set_cons_zero, List.set_cons_succ])))
      refine seq_step (by rfl) (fun K hK => ?_)
      go_simp
      go_at_call 30
      (with_reducible refine (rmul_any _ _ a.num.natAbs c.den _ hax hcy (by omega) (by omega)).mono ?_)
      rintro e w2 ⟨r9, rfl, hx, hb⟩
      obtain ⟨xO, xL, xC, rfl⟩ := hx.form
      replace hba := hba.kept hb
      replace hbc := hbc.kept hb
      replace ha := ha.below hb
      replace hc := hc.below hb
      replace hax := hax.below hb
      replace hay := hay.below hb
      replace hcx := hcx.below hb
      replace hcy := hcy.below hb
      replace hbf := hbf.trans (hb.mono hbf.size)
      clear hb
      first | refine hK.out _ _ ⟨hba, hbc⟩ (fun _ => ?_) | (go_wp2_with fail; refine hK.out _ _ ⟨hba, hbc⟩ (fun _ => ?_))
      clear hK K
      (try simp only [Act.put, List.setIfInBounds_toArray, List.set_cons_zero, List.set_cons_succ])
      refine seq_step (by rfl) (fun K hK => ?_)
      go_simp
      go_at_call 30
      (with_reducible refine (rmul_any _ _ c.num.natAbs a.den _ hcx hay (by omega) (by omega)).mono ?_)
      rintro e w3 ⟨r9, rfl, hy, hb⟩
      obtain ⟨yO, yL, yC, rfl⟩ := hy.form
      replace hba := hba.kept hb
      replace hbc := hbc.kept hb
      replace ha := ha.below hb
      replace hc := hc.below hb
      replace hax := hax.below hb
      replace hay := hay.below hb
      replace hcx := hcx.below hb
      replace hcy := hcy.below hb
      replace hx := hx.below hb
      replace hbf := hbf.trans (hb.mono hbf.size)
      clear hb
      first | refine hK.out _ _ ⟨hba, hbc⟩ (fun _ => ?_) | (go_wp2_with fail; refine hK.out _ _ ⟨hba, hbc⟩ (fun _ => ?_))
      clear hK K
      (try simp only [Act.put, List.setIfInBounds_toArray, List.set_cons_zero, List.set_cons_succ])
      refine seq_step (by rfl) (fun K hK => ?_)
      go_simp
      go_at_call 32
      (with_reducible refine (rcmp_any _ _ _ _ _ hx hy).mono ?_)
      rintro e w4 ⟨rfl, hb⟩
      replace hba := hba.kept hb
      replace hbc := hbc.kept hb
      replace ha := ha.below hb
      replace hc := hc.below hb
      replace hax := hax.below hb
      replace hay := hay.below hb
      replace hcx := hcx.below hb
      replace hcy := hcy.below hb
      replace hx := hx.below hb
      replace hy := hy.below hb
      replace hbf := hbf.trans (hb.mono hbf.size)
      clear hb
      first | refine hK.out _ _ ⟨hba, hbc⟩ (fun _ => ?_) | (go_wp2_with fail; refine hK.out _ _ ⟨hba, hbc⟩ (fun _ => ?_))
      clear hK K
      (try simp only [Act.put, List.setIfInBounds_toArray, List.set_cons_zero, List.set_cons_succ])
      repeat (first | (refine seq_take (v := ?_) (by rfl) ?_ ?_; rotate_left; (· intro w hSw; (try dsimp only at hSw); obtain ⟨⟨ea0, ea1, ea2, _, _, _⟩, ⟨ec0, ec1, ec2, _, _, _⟩⟩ := hSw; go_simp; all_goals with_reducible rfl); (try simp only [Act.put, List.setIfInBounds_toArray, List.set_cons_zero, List.set_cons_succ])) | (refine seq_leave (by rfl) ?_; (try simp only [Act.put, List.setIfInBounds_toArray, List.set_cons_zero, List.set_cons_succ])))
      refine seq_end ?_
      have hq : qcmp a c = cmpI (a.num.natAbs * c.den) (c.num.natAbs * a.den) := (qcmp_pp HaS.out.symm HcS.out.symm).symm
      have hcs := cmpI_cases (a.num.natAbs * c.den) (c.num.natAbs * a.den)
      generalize cmpI (a.num.natAbs * c.den) (c.num.natAbs * a.den) = c9 at *
      have HQ := Lib.hid hq; clear hq
      have HC9 := Lib.hid hcs; clear hcs
      rcases HC9.out with rfl | rfl | rfl
      all_goals
        have ea0 := hba.c0
        have ea1 := hba.c1
        have ea2 := hba.c2
        go_wp2_with fail
        go_ret
        exact ⟨ret_one (by rw [HQ.out]; rfl), hbf⟩
    case true =>
      have ea0 := hba.c0
      have ea1 := hba.c1
      have ea2 := hba.c2
      have ec0 := hbc.c0
      have ec1 := hbc.c1
      have ec2 := hbc.c2
      go_wp2_with fail
      go_ret
      exact ⟨ret_one (by rw [qcmp_pn HaS.out.symm HcS.out.symm]; rfl), hbf⟩
  case true =>
    cases cB
    case false =>
      have ea0 := hba.c0
      have ea1 := hba.c1
      have ea2 := hba.c2
      have ec0 := hbc.c0
      have ec1 := hbc.c1
      have ec2 := hbc.c2
      go_wp2_with fail
      go_ret
      exact ⟨ret_one (by rw [qcmp_np HaS.out.symm HcS.out.symm]; rfl), hbf⟩
    case true =>
      have ea0 := hba.c0
      have ea1 := hba.c1
      have ea2 := hba.c2
      have ec0 := hbc.c0
      have ec1 := hbc.c1
      have ec2 := hbc.c2
      go_upto_region 5 with fail
      clear ea0 ea1 ea2 ec0 ec1 ec2
      refine wp_region_seq (S := fun w' => Box3 w' pa (Value.bool true) (Value.slice axO axL axC) (Value.slice ayO ayL ayC) ∧ Box3 w' pc (Value.bool true) (Value.slice cxO cxL cxC) (Value.slice cyO cyL cyC)) [(true, 0), (true, 1), (true, 2), (true, 3), (true, 5), (true, 6), (true, 7), (true, 8), (false, 4), (false, 9), (false, 10), (true, 11)] (by kernel_rfl) (by kernel_rfl) (by kernel_rfl) (by kernel_rfl) (by kernel_rfl) (fun d _ _ _ _ h => by cases d <;> exact h) ⟨hba.drew, hbc.drew⟩ (fun _ => ?_)
      simp only [pickOps, List.append_eq, List.cons_append, List.nil_append, List.getElem?_toArray, List.getElem?_cons_succ, List.getElem?_cons_zero]
      have hb : Below w0.heap.size w0 w0.drew := (Below.refl _ _).drew
      generalize w0.drew = w1 at hb ⊢
      replace hba := hba.kept hb
      replace hbc := hbc.kept hb
      replace ha := ha.below hb
      replace hc := hc.below hb
      replace hax := hax.below hb
      replace hay := hay.below hb
      replace hcx := hcx.below hb
      replace hcy := hcy.below hb
      replace hbf := hbf.trans (hb.mono hbf.size)
      clear hb
      repeat (first | (refine seq_take (v := ?_) (by rfl) ?_ ?_; rotate_left; (· intro w hSw; (try dsimp only at hSw); obtain ⟨⟨ea0, ea1, ea2, _, _, _⟩, ⟨ec0, ec1, ec2, _, _, _⟩⟩ := hSw; go_simp; all_goals with_reducible rfl); (try simp only [Act.put, List.setIfInBounds_toArray, List.set_cons_zero, List.set_cons_succ])) | (refine seq_leave (by rfl) ?_; (try simp only [Act.put, List.setIfInBounds_toArray, List.set_cons_zero, List.set_cons_succ])))
      refine seq_step (by rfl) (fun K hK => ?_)
      go_simp
      go_at_call 30
      (with_reducible refine (rmul_any _ _ a.num.natAbs c.den _ hax hcy (by omega) (by omega)).mono ?_)
      rintro e w2 ⟨r9, rfl, hx, hb⟩
      obtain ⟨xO, xL, xC, rfl⟩ := hx.form
      replace hba := hba.kept hb
      replace hbc := hbc.kept hb
      replace ha := ha.below hb
      replace hc := hc.below hb
      replace hax := hax.below hb
      replace hay := hay.below hb
      replace hcx := hcx.below hb
      replace hcy := hcy.below hb
      replace hbf := hbf.trans (hb.mono hbf.size)
      clear hb
      first | refine hK.out _ _ ⟨hba, hbc⟩ (fun _ => ?_) | (go_wp2_with fail; refine hK.out _ _ ⟨hba, hbc⟩ (fun _ => ?_))
      clear hK K
      (try simp only [Act.put, List.setIfInBounds_toArray, List.set_cons_zero, List.set_cons_succ])
      refine seq_step (by rfl) (fun K hK => ?_)
      go_simp
      go_at_call 30
      (with_reducible refine (rmul_any _ _ c.num.natAbs a.den _ hcx hay (by omega) (by omega)).mono ?_)
      rintro e w3 ⟨r9, rfl, hy, hb⟩
      obtain ⟨yO, yL, yC, rfl⟩ := hy.form
      replace hba := hba.kept hb
      replace hbc := hbc.kept hb
      replace ha := ha.below hb
      replace hc := hc.below hb
      replace hax := hax.below hb
      replace hay := hay.below hb
      replace hcx := hcx.below hb
      replace hcy := hcy.below hb
      replace hx := hx.below hb
      replace hbf := hbf.trans (hb.mono hbf.size)
      clear hb
      first | refine hK.out _ _ ⟨hba, hbc⟩ (fun _ => ?_) | (go_wp2_with fail; refine hK.out _ _ ⟨hba, hbc⟩ (fun _ => ?_))
      clear hK K
      (try simp only [Act.put, List.setIfInBounds_toArray, List.set_cons_zero, List.set_cons_succ])
      refine seq_step (by rfl) (fun K hK => ?_)
      go_simp
      go_at_call 32
      (with_reducible refine (rcmp_any _ _ _ _ _ hx hy).mono ?_)
      rintro e w4 ⟨rfl, hb⟩
      replace hba := hba.kept hb
      replace hbc := hbc.kept hb
      replace ha := ha.below hb
      replace hc := hc.below hb
      replace hax := hax.below hb
      replace hay := hay.below hb
      replace hcx := hcx.below hb
      replace hcy := hcy.below hb
      replace hx := hx.below hb
      replace hy := hy.below hb
      replace hbf := hbf.trans (hb.mono hbf.size)
      clear hb
      first | refine hK.out _ _ ⟨hba, hbc⟩ (fun _ => ?_) | (go_wp2_with fail; refine hK.out _ _ ⟨hba, hbc⟩ (fun _ => ?_))
      clear hK K
      (try simp only [Act.put, List.setIfInBounds_toArray, List.set_cons_zero, List.set_cons_succ])
      repeat (first | (refine seq_take (v := ?_) (by rfl) ?_ ?_; rotate_left; (· intro w hSw; (try dsimp only at hSw); obtain ⟨⟨ea0, ea1, ea2, _, _, _⟩, ⟨ec0, ec1, ec2, _, _, _⟩⟩ := hSw; go_simp; all_goals with_reducible rfl); (try simp only [Act.put, List.setIfInBounds_toArray, List.set_cons_zero, List.set_cons_succ])) | (refine seq_leave (by rfl) ?_; (try simp only [Act.put, List.setIfInBounds_toArray, List.set_cons_zero, List.set_cons_succ])))
      refine seq_end ?_
      have hq : qcmp a c = -cmpI (a.num.natAbs * c.den) (c.num.natAbs * a.den) := by rw [← qcmp_nn HaS.out.symm HcS.out.symm, cmpI_neg]
      have hcs := cmpI_cases (a.num.natAbs * c.den) (c.num.natAbs * a.den)
      generalize cmpI (a.num.natAbs * c.den) (c.num.natAbs * a.den) = c9 at *
      have HQ := Lib.hid hq; clear hq
      have HC9 := Lib.hid hcs; clear hcs
      rcases HC9.out with rfl | rfl | rfl
      all_goals
        have ea0 := hba.c0
        have ea1 := hba.c1
        have ea2 := hba.c2
        go_wp2_with fail
        go_ret
        exact ⟨ret_one (by rw [HQ.out]; rfl), hbf⟩
set_option maxRecDepth 100000 in
set_option maxHeartbeats 1000000 in
/-- RatAdd. -/
theorem rqadd_any (va vc : Value) (a c : Rat) (i j : Nat) (w : World) (ha : RQIs w va a) (hc : RQIs w vc c) (hla : QB a i) (hlc : QB c j) (hij : i + j ≤ 90000) :
    Calls Tryd.prog 9 #[va, vc] w (RQPost w (a + c)) := by
  obtain ⟨aB, axO, axL, axC, ayO, ayL, ayC, rfl, hS, hax, hay⟩ := ha.form
  have HaS := Lib.hid hS; clear hS
  obtain ⟨cB, cxO, cxL, cxC, cyO, cyL, cyC, rfl, hS, hcx, hcy⟩ := hc.form
  have HcS := Lib.hid hS; clear hS
  obtain ⟨w0, hw0⟩ : ∃ w0, w0 = (((w.alloc (.cells #[.bool aB, .slice axO axL axC, .slice ayO ayL ayC] 29)).alloc (.cells #[.bool cB, .slice cxO cxL cxC, .slice cyO cyL cyC] 29)).alloc (.cells #[.bool false, .slice none 0 0, .slice none 0 0] 29)) := ⟨_, rfl⟩
  have hbf : Below w.heap.size w w0 := by rw [hw0]; exact ((((Below.refl _ w).alloc (Nat.le_refl _) _).alloc (by simp <;> omega) _).alloc (by simp <;> omega) _)
  obtain ⟨pa, hpa⟩ : ∃ p, p = w.heap.size := ⟨_, rfl⟩
  have hba : Box3 w0 pa (Value.bool aB) (Value.slice axO axL axC) (Value.slice ayO ayL ayC) := by rw [hw0, hpa]; exact ⟨by go_simp, by go_simp, by go_simp, by go_simp, by go_simp, by go_simp⟩
  obtain ⟨pc, hpc⟩ : ∃ p, p = w.heap.size + 1 := ⟨_, rfl⟩
  have hbc : Box3 w0 pc (Value.bool cB) (Value.slice cxO cxL cxC) (Value.slice cyO cyL cyC) := by rw [hw0, hpc]; exact ⟨by go_simp, by go_simp, by go_simp, by go_simp, by go_simp, by go_simp⟩
  obtain ⟨pr, hpr⟩ : ∃ p, p = w.heap.size + 1 + 1 := ⟨_, rfl⟩
  have hbr : Box3 w0 pr (Value.bool false) (Value.slice none 0 0) (Value.slice none 0 0) := by rw [hw0, hpr]; exact ⟨by go_simp, by go_simp, by go_simp, by go_simp, by go_simp, by go_simp⟩
  have HP : Hid (w.heap.size ≤ pa ∧ pa < pc ∧ pc < pr) := Lib.hid (by omega)
  replace ha := ha.below hbf
  replace hc := hc.below hbf
  replace hax := hax.below hbf
  replace hay := hay.below hbf
  replace hcx := hcx.below hbf
  replace hcy := hcy.below hbf
  have HW := Lib.hid hw0; clear hw0
  go_enter Tryd.func9, Tryd.ntmps9
  go_upto_region 1 with fail
  rw [← HW.out, ← hpr, ← hpc, ← hpa]
  clear hpa hpc hpr HW
  have hra1 := rlimbs_of_limbs hla.1
  have hra2 := rlimbs_of_limbs hla.2
  have hrc1 := rlimbs_of_limbs hlc.1
  have hrc2 := rlimbs_of_limbs hlc.2
  have hl1 := rlimbs_of_limbs (limbs_mul hla.1 hlc.2)
  have hl2 := rlimbs_of_limbs (limbs_mul hlc.1 hla.2)
  have hl3 := rlimbs_of_limbs (limbs_mul hla.2 hlc.2)
  rw [Nat.add_comm j i] at hl2
  have hl4 := rlimbs_add hl1 hl2
  have HPD : Hid (0 < a.den * c.den) := Lib.hid (Nat.mul_pos a.den_pos c.den_pos)
  refine wp_region_seq (S := fun w' => Box3 w' pa (Value.bool aB) (Value.slice axO axL axC) (Value.slice ayO ayL ayC) ∧ Box3 w' pc (Value.bool cB) (Value.slice cxO cxL cxC) (Value.slice cyO cyL cyC)) [(true, 0), (true, 1), (true, 2), (true, 3), (true, 5), (true, 6), (true, 7), (true, 8), (true, 10), (true, 11), (true, 12), (true, 13), (false, 4), (false, 9), (false, 14), (true, 15), (true, 16), (true, 17)] (by kernel_rfl) (by kernel_rfl) (by kernel_rfl) (by kernel_rfl) (by kernel_rfl) (fun d _ _ _ _ h => by cases d <;> exact h) ⟨hba.drew, hbc.drew⟩ (fun _ => ?_)
  simp only [pickOps, List.append_eq, List.cons_append, List.nil_append, List.getElem?_toArray, List.getElem?_cons_succ, List.getElem?_cons_zero]
  have hb : Below w0.heap.size w0 w0.drew := (Below.refl _ _).drew
  generalize w0.drew = w1 at hb ⊢
  replace hba := hba.kept hb
  replace hbc := hbc.kept hb
  replace hbr := hbr.kept hb
  replace ha := ha.below hb
  replace hc := hc.below hb
  replace hax := hax.below hb
  replace hay := hay.below hb
  replace hcx := hcx.below hb
  replace hcy := hcy.below hb
  replace hbf := hbf.trans (hb.mono hbf.size)
  clear hb
  repeat (first | (refine seq_take (v := ?_) (by rfl) ?_ ?_; rotate_left; (· intro w hSw; (try dsimp only at hSw); obtain ⟨⟨ea0, ea1, ea2, _, _, _⟩, ⟨ec0, ec1, ec2, _, _, _⟩⟩ := hSw; go_simp; all_goals with_reducible rfl); (try simp only [Act.put, List.setIfInBounds_toArray, List.set_cons_zero, List.set_cons_succ])) | (refine seq_leave (by rfl) ?_; (try simp only [Act.put, List.setIfInBounds_toArray, List.set_cons_zero, List.set_cons_succ])))
  refine seq_step (by rfl) (fun K hK => ?_)
  go_simp
  go_at_call 30
  (with_reducible refine (rmul_any _ _ a.num.natAbs c.den _ hax hcy (by omega) (by omega)).mono ?_)
  rintro e w2 ⟨r9, rfl, hx, hb⟩
  obtain ⟨xO, xL, xC, rfl⟩ := hx.form
  replace hba := hba.kept hb
  replace hbc := hbc.kept hb
  replace hbr := hbr.kept hb
  replace ha := ha.below hb
  replace hc := hc.below hb
  replace hax := hax.below hb
  replace hay := hay.below hb
  replace hcx := hcx.below hb
  replace hcy := hcy.below hb
  replace hbf := hbf.trans (hb.mono hbf.size)
  clear hb
  first | refine hK.out _ _ ⟨hba, hbc⟩ (fun _ => ?_) | (go_wp2_with fail; refine hK.out _ _ ⟨hba, hbc⟩ (fun _ => ?_))
  clear hK K
  (try simp only [Act.put, List.setIfInBounds_toArray, List.set_cons_zero, List.set_cons_succ])
  refine seq_step (by rfl) (fun K hK => ?_)
  go_simp
  go_at_call 30
  (with_reducible refine (rmul_any _ _ c.num.natAbs a.den _ hcx hay (by omega) (by omega)).mono ?_)
  rintro e w3 ⟨r9, rfl, hy, hb⟩
  obtain ⟨yO, yL, yC, rfl⟩ := hy.form
  replace hba := hba.kept hb
  replace hbc := hbc.kept hb
  replace hbr := hbr.kept hb
  replace ha := ha.below hb
  replace hc := hc.below hb
  replace hax := hax.below hb
  replace hay := hay.below hb
  replace hcx := hcx.below hb
  replace hcy := hcy.below hb
  replace hx := hx.below hb
  replace hbf := hbf.trans (hb.mono hbf.size)
  clear hb
  first | refine hK.out _ _ ⟨hba, hbc⟩ (fun _ => ?_) | (go_wp2_with fail; refine hK.out _ _ ⟨hba, hbc⟩ (fun _ => ?_))
  clear hK K
  (try simp only [Act.put, List.setIfInBounds_toArray, List.set_cons_zero, List.set_cons_succ])
  refine seq_step (by rfl) (fun K hK => ?_)
  go_simp
  go_at_call 30
  (with_reducible refine (rmul_any _ _ a.den c.den _ hay hcy (by omega) (by omega)).mono ?_)
  rintro e w4 ⟨r9, rfl, hm, hb⟩
  obtain ⟨mO, mL, mC, rfl⟩ := hm.form
  replace hba := hba.kept hb
  replace hbc := hbc.kept hb
  replace hbr := hbr.kept hb
  replace ha := ha.below hb
  replace hc := hc.below hb
  replace hax := hax.below hb
  replace hay := hay.below hb
  replace hcx := hcx.below hb
  replace hcy := hcy.below hb
  replace hx := hx.below hb
  replace hy := hy.below hb
  replace hbf := hbf.trans (hb.mono hbf.size)
  clear hb
  first | refine hK.out _ _ ⟨hba, hbc⟩ (fun _ => ?_) | (go_wp2_with fail; refine hK.out _ _ ⟨hba, hbc⟩ (fun _ => ?_))
  clear hK K
  (try simp only [Act.put, List.setIfInBounds_toArray, List.set_cons_zero, List.set_cons_succ])
  repeat (first | (refine seq_take (v := ?_) (by rfl) ?_ ?_; rotate_left; (· intro w hSw; (try dsimp only at hSw); obtain ⟨⟨ea0, ea1, ea2, _, _, _⟩, ⟨ec0, ec1, ec2, _, _, _⟩⟩ := hSw; go_simp; all_goals with_reducible rfl); (try simp only [Act.put, List.setIfInBounds_toArray, List.set_cons_zero, List.set_cons_succ])) | (refine seq_leave (by rfl) ?_; (try simp only [Act.put, List.setIfInBounds_toArray, List.set_cons_zero, List.set_cons_succ])))
  refine seq_end ?_
  by_cases hs : aB = cB
  case pos =>
    subst hs
    have ea0 := hba.c0
    have ea1 := hba.c1
    have ea2 := hba.c2
    have ec0 := hbc.c0
    have ec1 := hbc.c1
    have ec2 := hbc.c2
    go_upto_region 3 with fail
    clear ea0 ea1 ea2 ec0 ec1 ec2
    refine wp_region_seq (S := fun w' => Box3 w' pa (Value.bool aB) (Value.slice axO axL axC) (Value.slice ayO ayL ayC)) [(true, 0), (true, 1), (true, 2), (true, 3), (true, 5), (false, 4), (false, 6), (false, 7)] (by kernel_rfl) (by kernel_rfl) (by kernel_rfl) (by kernel_rfl) (by kernel_rfl) (fun d _ _ _ _ h => by cases d <;> exact h) hba.drew (fun _ => ?_)
    simp only [pickOps, List.append_eq, List.cons_append, List.nil_append, List.getElem?_toArray, List.getElem?_cons_succ, List.getElem?_cons_zero]
    have hb : Below w4.heap.size w4 w4.drew := (Below.refl _ _).drew
    generalize w4.drew = w5 at hb ⊢
    replace hba := hba.kept hb
    replace hbc := hbc.kept hb
    replace hbr := hbr.kept hb
    replace ha := ha.below hb
    replace hc := hc.below hb
    replace hax := hax.below hb
    replace hay := hay.below hb
    replace hcx := hcx.below hb
    replace hcy := hcy.below hb
    replace hx := hx.below hb
    replace hy := hy.below hb
    replace hm := hm.below hb
    replace hbf := hbf.trans (hb.mono hbf.size)
    clear hb
    repeat (first | (refine seq_take (v := ?_) (by rfl) ?_ ?_; rotate_left; (· intro w hSw; (try dsimp only at hSw); obtain ⟨ea0, ea1, ea2, _, _, _⟩ := hSw; go_simp; all_goals with_reducible rfl); (try simp only [Act.put, List.setIfInBounds_toArray, List.set_cons_zero, List.set_cons_succ])) | (refine seq_leave (by rfl) ?_; (try simp only [Act.put, List.setIfInBounds_toArray, List.set_cons_zero, List.set_cons_succ])))
    refine seq_step (by rfl) (fun K hK => ?_)
    go_simp
    go_at_call 31
    (with_reducible refine (radd_any _ _ _ _ _ hx hy (by omega) (by omega)).mono ?_)
    rintro e w6 ⟨r9, rfl, hz, hb⟩
    obtain ⟨zO, zL, zC, rfl⟩ := hz.form
    replace hba := hba.kept hb
    replace hbc := hbc.kept hb
    replace hbr := hbr.kept hb
    replace ha := ha.below hb
    replace hc := hc.below hb
    replace hax := hax.below hb
    replace hay := hay.below hb
    replace hcx := hcx.below hb
    replace hcy := hcy.below hb
    replace hx := hx.below hb
    replace hy := hy.below hb
    replace hm := hm.below hb
    replace hbf := hbf.trans (hb.mono hbf.size)
    clear hb
    first | refine hK.out _ _ hba (fun _ => ?_) | (go_wp2_with fail; refine hK.out _ _ hba (fun _ => ?_))
    clear hK K
    (try simp only [Act.put, List.setIfInBounds_toArray, List.set_cons_zero, List.set_cons_succ])
    refine seq_step (by rfl) (fun K hK => ?_)
    go_simp
    go_at_call 23
    (with_reducible refine (rmake_any _ _ _ _ _ _ hz hm (by omega) (by omega) HPD.out).mono ?_)
    rintro e w7 hq9
    obtain ⟨qB, qxO, qxL, qxC, qyO, qyL, qyC, rfl, hS, hqx, hqy, hq, hb⟩ := hq9.out
    have HqS := Lib.hid hS; clear hS
    replace hba := hba.kept hb
    replace hbc := hbc.kept hb
    replace hbr := hbr.kept hb
    replace ha := ha.below hb
    replace hc := hc.below hb
    replace hax := hax.below hb
    replace hay := hay.below hb
    replace hcx := hcx.below hb
    replace hcy := hcy.below hb
    replace hx := hx.below hb
    replace hy := hy.below hb
    replace hm := hm.below hb
    replace hz := hz.below hb
    replace hbf := hbf.trans (hb.mono hbf.size)
    clear hb
    first | refine hK.out _ _ hba (fun _ => ?_) | (go_wp2_with fail; refine hK.out _ _ hba (fun _ => ?_))
    clear hK K
    (try simp only [Act.put, List.setIfInBounds_toArray, List.set_cons_zero, List.set_cons_succ])
    refine seq_step (by rfl) (fun K hK => ?_)
    have er0 := hbr.c0
    have fr0 := hbr.f0
    have er1 := hbr.c1
    have fr1 := hbr.f1
    have er2 := hbr.c2
    have fr2 := hbr.f2
    go_simp
    clear er0 fr0 er1 fr1 er2 fr2
    obtain ⟨w8, hwE⟩ : ∃ W, W = ((w7.setCell ⟨pr, 0, none⟩ (Value.bool qB)).setCell ⟨pr, 1, none⟩ (Value.slice qxO qxL qxC)).setCell ⟨pr, 2, none⟩ (Value.slice qyO qyL qyC) := ⟨_, rfl⟩
    rw [← hwE]
    replace ha := ha.set3 (u0 := (Value.bool qB)) (u1 := (Value.slice qxO qxL qxC)) (u2 := (Value.slice qyO qyL qyC)) hbr; rw [← hwE] at ha
    replace hc := hc.set3 (u0 := (Value.bool qB)) (u1 := (Value.slice qxO qxL qxC)) (u2 := (Value.slice qyO qyL qyC)) hbr; rw [← hwE] at hc
    replace hax := hax.set3 (u0 := (Value.bool qB)) (u1 := (Value.slice qxO qxL qxC)) (u2 := (Value.slice qyO qyL qyC)) hbr; rw [← hwE] at hax
    replace hay := hay.set3 (u0 := (Value.bool qB)) (u1 := (Value.slice qxO qxL qxC)) (u2 := (Value.slice qyO qyL qyC)) hbr; rw [← hwE] at hay
    replace hcx := hcx.set3 (u0 := (Value.bool qB)) (u1 := (Value.slice qxO qxL qxC)) (u2 := (Value.slice qyO qyL qyC)) hbr; rw [← hwE] at hcx
    replace hcy := hcy.set3 (u0 := (Value.bool qB)) (u1 := (Value.slice qxO qxL qxC)) (u2 := (Value.slice qyO qyL qyC)) hbr; rw [← hwE] at hcy
    replace hx := hx.set3 (u0 := (Value.bool qB)) (u1 := (Value.slice qxO qxL qxC)) (u2 := (Value.slice qyO qyL qyC)) hbr; rw [← hwE] at hx
    replace hy := hy.set3 (u0 := (Value.bool qB)) (u1 := (Value.slice qxO qxL qxC)) (u2 := (Value.slice qyO qyL qyC)) hbr; rw [← hwE] at hy
    replace hm := hm.set3 (u0 := (Value.bool qB)) (u1 := (Value.slice qxO qxL qxC)) (u2 := (Value.slice qyO qyL qyC)) hbr; rw [← hwE] at hm
    replace hz := hz.set3 (u0 := (Value.bool qB)) (u1 := (Value.slice qxO qxL qxC)) (u2 := (Value.slice qyO qyL qyC)) hbr; rw [← hwE] at hz
    replace hqx := hqx.set3 (u0 := (Value.bool qB)) (u1 := (Value.slice qxO qxL qxC)) (u2 := (Value.slice qyO qyL qyC)) hbr; rw [← hwE] at hqx
    replace hqy := hqy.set3 (u0 := (Value.bool qB)) (u1 := (Value.slice qxO qxL qxC)) (u2 := (Value.slice qyO qyL qyC)) hbr; rw [← hwE] at hqy
    replace hq := hq.set3 (u0 := (Value.bool qB)) (u1 := (Value.slice qxO qxL qxC)) (u2 := (Value.slice qyO qyL qyC)) hbr; rw [← hwE] at hq
    replace hba := hba.set3o (u0 := (Value.bool qB)) (u1 := (Value.slice qxO qxL qxC)) (u2 := (Value.slice qyO qyL qyC)) (show pa ≠ pr by have := HP.out; omega); rw [← hwE] at hba
    replace hbc := hbc.set3o (u0 := (Value.bool qB)) (u1 := (Value.slice qxO qxL qxC)) (u2 := (Value.slice qyO qyL qyC)) (show pc ≠ pr by have := HP.out; omega); rw [← hwE] at hbc
    replace hbf := below_set3 (u0 := (Value.bool qB)) (u1 := (Value.slice qxO qxL qxC)) (u2 := (Value.slice qyO qyL qyC)) hbf (show w.heap.size ≤ pr by have := HP.out; omega); rw [← hwE] at hbf
    replace hbr := hbr.set3 (u0 := (Value.bool qB)) (u1 := (Value.slice qxO qxL qxC)) (u2 := (Value.slice qyO qyL qyC)); rw [← hwE] at hbr; clear hwE
    first | refine hK.out _ _ hba (fun _ => ?_) | (go_wp2_with fail; refine hK.out _ _ hba (fun _ => ?_))
    clear hK K
    (try simp only [Act.put, List.setIfInBounds_toArray, List.set_cons_zero, List.set_cons_succ])
    refine seq_end ?_
    rw [qadd_same HaS.out.symm HcS.out.symm] at hq
    go_wp2_with fail
    exact ret_rrat rfl rfl hbr rfl ⟨_, rfl, hq, hbf⟩
  have hsb : (aB == cB) = false := by cases aB <;> cases cB <;> first | rfl | exact (hs rfl).elim
  have HSN : Hid (decide (a < 0) ≠ decide (c < 0)) := Lib.hid (by rw [← HaS.out, ← HcS.out]; exact hs)
  clear hs
  have ea0 := hba.c0
  have ea1 := hba.c1
  have ea2 := hba.c2
  have ec0 := hbc.c0
  have ec1 := hbc.c1
  have ec2 := hbc.c2
  go_wp2_with fail
  refine (rcmp_any _ _ _ _ _ hx hy).mono ?_
  rintro e w5 ⟨rfl, hb⟩
  clear ea0 ea1 ea2 ec0 ec1 ec2
  replace hba := hba.kept hb
  replace hbc := hbc.kept hb
  replace hbr := hbr.kept hb
  replace ha := ha.below hb
  replace hc := hc.below hb
  replace hax := hax.below hb
  replace hay := hay.below hb
  replace hcx := hcx.below hb
  replace hcy := hcy.below hb
  replace hx := hx.below hb
  replace hy := hy.below hb
  replace hm := hm.below hb
  replace hbf := hbf.trans (hb.mono hbf.size)
  clear hb
  have hcg := cmpI_ge (a.num.natAbs * c.den) (c.num.natAbs * a.den)
  generalize cmpI (a.num.natAbs * c.den) (c.num.natAbs * a.den) = c9 at *
  by_cases hle : c.num.natAbs * a.den ≤ a.num.natAbs * c.den
  case pos =>
    have hge : (0 : Int) ≤ c9 := hcg.2 hle
    have HLE := Lib.hid hle; clear hle hcg
    go_upto_region 5 with fail
    refine wp_region_seq (S := fun w' => Box3 w' pa (Value.bool aB) (Value.slice axO axL axC) (Value.slice ayO ayL ayC)) [(true, 0), (true, 1), (true, 2), (true, 3), (true, 5), (false, 4), (false, 6), (false, 7)] (by kernel_rfl) (by kernel_rfl) (by kernel_rfl) (by kernel_rfl) (by kernel_rfl) (fun d _ _ _ _ h => by cases d <;> exact h) hba.drew (fun _ => ?_)
    simp only [pickOps, List.append_eq, List.cons_append, List.nil_append, List.getElem?_toArray, List.getElem?_cons_succ, List.getElem?_cons_zero]
    have hb : Below w5.heap.size w5 w5.drew := (Below.refl _ _).drew
    generalize w5.drew = w6 at hb ⊢
    replace hba := hba.kept hb
    replace hbc := hbc.kept hb
    replace hbr := hbr.kept hb
    replace ha := ha.below hb
    replace hc := hc.below hb
    replace hax := hax.below hb
    replace hay := hay.below hb
    replace hcx := hcx.below hb
    replace hcy := hcy.below hb
    replace hx := hx.below hb
    replace hy := hy.below hb
    replace hm := hm.below hb
    replace hbf := hbf.trans (hb.mono hbf.size)
    clear hb
    repeat (first | (refine seq_take (v := ?_) (by rfl) ?_ ?_; rotate_left; (· intro w hSw; (try dsimp only at hSw); obtain ⟨ea0, ea1, ea2, _, _, _⟩ := hSw; go_simp; all_goals with_reducible rfl); (try simp only [Act.put, List.setIfInBounds_toArray, List.set_cons_zero, List.set_cons_succ])) | (refine seq_leave (by rfl) ?_; (try simp only [Act.put, List.setIfInBounds_toArray, List.set_cons_zero, List.set_cons_succ])))
    refine seq_step (by rfl) (fun K hK => ?_)
    go_simp
    go_at_call 33
    (with_reducible refine (rsub_any _ _ _ _ _ hx hy (by omega) HLE.out).mono ?_)
    rintro e w7 ⟨r9, rfl, hz, hb⟩
    obtain ⟨zO, zL, zC, rfl⟩ := hz.form
    replace hba := hba.kept hb
    replace hbc := hbc.kept hb
    replace hbr := hbr.kept hb
    replace ha := ha.below hb
    replace hc := hc.below hb
    replace hax := hax.below hb
    replace hay := hay.below hb
    replace hcx := hcx.below hb
    replace hcy := hcy.below hb
    replace hx := hx.below hb
    replace hy := hy.below hb
    replace hm := hm.below hb
    replace hbf := hbf.trans (hb.mono hbf.size)
    clear hb
    first | refine hK.out _ _ hba (fun _ => ?_) | (go_wp2_with fail; refine hK.out _ _ hba (fun _ => ?_))
    clear hK K
    (try simp only [Act.put, List.setIfInBounds_toArray, List.set_cons_zero, List.set_cons_succ])
    refine seq_step (by rfl) (fun K hK => ?_)
    go_simp
    go_at_call 23
    (with_reducible refine (rmake_any _ _ _ _ _ _ hz hm (rlimbs_mono (Nat.sub_le _ _) (by omega)) (by omega) HPD.out).mono ?_)
    rintro e w8 hq9
    obtain ⟨qB, qxO, qxL, qxC, qyO, qyL, qyC, rfl, hS, hqx, hqy, hq, hb⟩ := hq9.out
    have HqS := Lib.hid hS; clear hS
    replace hba := hba.kept hb
    replace hbc := hbc.kept hb
    replace hbr := hbr.kept hb
    replace ha := ha.below hb
    replace hc := hc.below hb
    replace hax := hax.below hb
    replace hay := hay.below hb
    replace hcx := hcx.below hb
    replace hcy := hcy.below hb
    replace hx := hx.below hb
    replace hy := hy.below hb
    replace hm := hm.below hb
    replace hz := hz.below hb
    replace hbf := hbf.trans (hb.mono hbf.size)
    clear hb
    first | refine hK.out _ _ hba (fun _ => ?_) | (go_wp2_with fail; refine hK.out _ _ hba (fun _ => ?_))
    clear hK K
    (try simp only [Act.put, List.setIfInBounds_toArray, List.set_cons_zero, List.set_cons_succ])
    refine seq_step (by rfl) (fun K hK => ?_)
    have er0 := hbr.c0
    have fr0 := hbr.f0
    have er1 := hbr.c1
    have fr1 := hbr.f1
    have er2 := hbr.c2
    have fr2 := hbr.f2
    go_simp
    clear er0 fr0 er1 fr1 er2 fr2
    obtain ⟨w9, hwE⟩ : ∃ W, W = ((w8.setCell ⟨pr, 0, none⟩ (Value.bool qB)).setCell ⟨pr, 1, none⟩ (Value.slice qxO qxL qxC)).setCell ⟨pr, 2, none⟩ (Value.slice qyO qyL qyC) := ⟨_, rfl⟩
    rw [← hwE]
    replace ha := ha.set3 (u0 := (Value.bool qB)) (u1 := (Value.slice qxO qxL qxC)) (u2 := (Value.slice qyO qyL qyC)) hbr; rw [← hwE] at ha
    replace hc := hc.set3 (u0 := (Value.bool qB)) (u1 := (Value.slice qxO qxL qxC)) (u2 := (Value.slice qyO qyL qyC)) hbr; rw [← hwE] at hc
    replace hax := hax.set3 (u0 := (Value.bool qB)) (u1 := (Value.slice qxO qxL qxC)) (u2 := (Value.slice qyO qyL qyC)) hbr; rw [← hwE] at hax
    replace hay := hay.set3 (u0 := (Value.bool qB)) (u1 := (Value.slice qxO qxL qxC)) (u2 := (Value.slice qyO qyL qyC)) hbr; rw [← hwE] at hay
    replace hcx := hcx.set3 (u0 := (Value.bool qB)) (u1 := (Value.slice qxO qxL qxC)) (u2 := (Value.slice qyO qyL qyC)) hbr; rw [← hwE] at hcx
    replace hcy := hcy.set3 (u0 := (Value.bool qB)) (u1 := (Value.slice qxO qxL qxC)) (u2 := (Value.slice qyO qyL qyC)) hbr; rw [← hwE] at hcy
    replace hx := hx.set3 (u0 := (Value.bool qB)) (u1 := (Value.slice qxO qxL qxC)) (u2 := (Value.slice qyO qyL qyC)) hbr; rw [← hwE] at hx
    replace hy := hy.set3 (u0 := (Value.bool qB)) (u1 := (Value.slice qxO qxL qxC)) (u2 := (Value.slice qyO qyL qyC)) hbr; rw [← hwE] at hy
    replace hm := hm.set3 (u0 := (Value.bool qB)) (u1 := (Value.slice qxO qxL qxC)) (u2 := (Value.slice qyO qyL qyC)) hbr; rw [← hwE] at hm
    replace hz := hz.set3 (u0 := (Value.bool qB)) (u1 := (Value.slice qxO qxL qxC)) (u2 := (Value.slice qyO qyL qyC)) hbr; rw [← hwE] at hz
    replace hqx := hqx.set3 (u0 := (Value.bool qB)) (u1 := (Value.slice qxO qxL qxC)) (u2 := (Value.slice qyO qyL qyC)) hbr; rw [← hwE] at hqx
    replace hqy := hqy.set3 (u0 := (Value.bool qB)) (u1 := (Value.slice qxO qxL qxC)) (u2 := (Value.slice qyO qyL qyC)) hbr; rw [← hwE] at hqy
    replace hq := hq.set3 (u0 := (Value.bool qB)) (u1 := (Value.slice qxO qxL qxC)) (u2 := (Value.slice qyO qyL qyC)) hbr; rw [← hwE] at hq
    replace hba := hba.set3o (u0 := (Value.bool qB)) (u1 := (Value.slice qxO qxL qxC)) (u2 := (Value.slice qyO qyL qyC)) (show pa ≠ pr by have := HP.out; omega); rw [← hwE] at hba
    replace hbc := hbc.set3o (u0 := (Value.bool qB)) (u1 := (Value.slice qxO qxL qxC)) (u2 := (Value.slice qyO qyL qyC)) (show pc ≠ pr by have := HP.out; omega); rw [← hwE] at hbc
    replace hbf := below_set3 (u0 := (Value.bool qB)) (u1 := (Value.slice qxO qxL qxC)) (u2 := (Value.slice qyO qyL qyC)) hbf (show w.heap.size ≤ pr by have := HP.out; omega); rw [← hwE] at hbf
    replace hbr := hbr.set3 (u0 := (Value.bool qB)) (u1 := (Value.slice qxO qxL qxC)) (u2 := (Value.slice qyO qyL qyC)); rw [← hwE] at hbr; clear hwE
    first | refine hK.out _ _ hba (fun _ => ?_) | (go_wp2_with fail; refine hK.out _ _ hba (fun _ => ?_))
    clear hK K
    (try simp only [Act.put, List.setIfInBounds_toArray, List.set_cons_zero, List.set_cons_succ])
    refine seq_end ?_
    rw [HaS.out, qadd_more HSN.out HLE.out] at hq
    go_wp2_with fail
    exact ret_rrat rfl rfl hbr rfl ⟨_, rfl, hq, hbf⟩
  have hge : ¬ (0 : Int) ≤ c9 := fun h => hle (hcg.1 h)
  have hge2 : c9 < 0 := by omega
  have HLE : Hid (a.num.natAbs * c.den ≤ c.num.natAbs * a.den) := Lib.hid (by omega)
  clear hle hcg
  go_upto_region 6 with fail
  refine wp_region_seq (S := fun w' => Box3 w' pc (Value.bool cB) (Value.slice cxO cxL cxC) (Value.slice cyO cyL cyC)) [(true, 0), (true, 1), (true, 2), (true, 3), (true, 5), (false, 4), (false, 6), (false, 7)] (by kernel_rfl) (by kernel_rfl) (by kernel_rfl) (by kernel_rfl) (by kernel_rfl) (fun d _ _ _ _ h => by cases d <;> exact h) hbc.drew (fun _ => ?_)
  simp only [pickOps, List.append_eq, List.cons_append, List.nil_append, List.getElem?_toArray, List.getElem?_cons_succ, List.getElem?_cons_zero]
  have hb : Below w5.heap.size w5 w5.drew := (Below.refl _ _).drew
  generalize w5.drew = w6 at hb ⊢
  replace hba := hba.kept hb
  replace hbc := hbc.kept hb
  replace hbr := hbr.kept hb
  replace ha := ha.below hb
  replace hc := hc.below hb
  replace hax := hax.below hb
  replace hay := hay.below hb
  replace hcx := hcx.below hb
  replace hcy := hcy.below hb
  replace hx := hx.below hb
  replace hy := hy.below hb
  replace hm := hm.below hb
  replace hbf := hbf.trans (hb.mono hbf.size)
  clear hb
  repeat (first | (refine seq_take (v := ?_) (by rfl) ?_ ?_; rotate_left; (· intro w hSw; (try dsimp only at hSw); obtain ⟨ec0, ec1, ec2, _, _, _⟩ := hSw; go_simp; all_goals with_reducible rfl); (try simp only [Act.put, List.setIfInBounds_toArray, List.set_cons_zero, List.set_cons_succ])) | (refine seq_leave (by rfl) ?_; (try simp only [Act.put, List.setIfInBounds_toArray, List.set_cons_zero, List.set_cons_succ])))
  refine seq_step (by rfl) (fun K hK => ?_)
  go_simp
  go_at_call 33
  (with_reducible refine (rsub_any _ _ _ _ _ hy hx (by omega) HLE.out).mono ?_)
  rintro e w7 ⟨r9, rfl, hz, hb⟩
  obtain ⟨zO, zL, zC, rfl⟩ := hz.form
  replace hba := hba.kept hb
  replace hbc := hbc.kept hb
  replace hbr := hbr.kept hb
  replace ha := ha.below hb
  replace hc := hc.below hb
  replace hax := hax.below hb
  replace hay := hay.below hb
  replace hcx := hcx.below hb
  replace hcy := hcy.below hb
  replace hx := hx.below hb
  replace hy := hy.below hb
  replace hm := hm.below hb
  replace hbf := hbf.trans (hb.mono hbf.size)
  clear hb
  first | refine hK.out _ _ hbc (fun _ => ?_) | (go_wp2_with fail; refine hK.out _ _ hbc (fun _ => ?_))
  clear hK K
  (try simp only [Act.put, List.setIfInBounds_toArray, List.set_cons_zero, List.set_cons_succ])
  refine seq_step (by rfl) (fun K hK => ?_)
  go_simp
  go_at_call 23
  (with_reducible refine (rmake_any _ _ _ _ _ _ hz hm (rlimbs_mono (Nat.sub_le _ _) (by omega)) (by omega) HPD.out).mono ?_)
  rintro e w8 hq9
  obtain ⟨qB, qxO, qxL, qxC, qyO, qyL, qyC, rfl, hS, hqx, hqy, hq, hb⟩ := hq9.out
  have HqS := Lib.hid hS; clear hS
  replace hba := hba.kept hb
  replace hbc := hbc.kept hb
  replace hbr := hbr.kept hb
  replace ha := ha.below hb
  replace hc := hc.below hb
  replace hax := hax.below hb
  replace hay := hay.below hb
  replace hcx := hcx.below hb
  replace hcy := hcy.below hb
  replace hx := hx.below hb
  replace hy := hy.below hb
  replace hm := hm.below hb
  replace hz := hz.below hb
  replace hbf := hbf.trans (hb.mono hbf.size)
  clear hb
  first | refine hK.out _ _ hbc (fun _ => ?_) | (go_wp2_with fail; refine hK.out _ _ hbc (fun _ => ?_))
  clear hK K
  (try simp only [Act.put, List.setIfInBounds_toArray, List.set_cons_zero, List.set_cons_succ])
  refine seq_step (by rfl) (fun K hK => ?_)
  have er0 := hbr.c0
  have fr0 := hbr.f0
  have er1 := hbr.c1
  have fr1 := hbr.f1
  have er2 := hbr.c2
  have fr2 := hbr.f2
  go_simp
  clear er0 fr0 er1 fr1 er2 fr2
  obtain ⟨w9, hwE⟩ : ∃ W, W = ((w8.setCell ⟨pr, 0, none⟩ (Value.bool qB)).setCell ⟨pr, 1, none⟩ (Value.slice qxO qxL qxC)).setCell ⟨pr, 2, none⟩ (Value.slice qyO qyL qyC) := ⟨_, rfl⟩
  rw [← hwE]
  replace ha := ha.set3 (u0 := (Value.bool qB)) (u1 := (Value.slice qxO qxL qxC)) (u2 := (Value.slice qyO qyL qyC)) hbr; rw [← hwE] at ha
  replace hc := hc.set3 (u0 := (Value.bool qB)) (u1 := (Value.slice qxO qxL qxC)) (u2 := (Value.slice qyO qyL qyC)) hbr; rw [← hwE] at hc
  replace hax := hax.set3 (u0 := (Value.bool qB)) (u1 := (Value.slice qxO qxL qxC)) (u2 := (Value.slice qyO qyL qyC)) hbr; rw [← hwE] at hax
  replace hay := hay.set3 (u0 := (Value.bool qB)) (u1 := (Value.slice qxO qxL qxC)) (u2 := (Value.slice qyO qyL qyC)) hbr; rw [← hwE] at hay
  replace hcx := hcx.set3 (u0 := (Value.bool qB)) (u1 := (Value.slice qxO qxL qxC)) (u2 := (Value.slice qyO qyL qyC)) hbr; rw [← hwE] at hcx
  replace hcy := hcy.set3 (u0 := (Value.bool qB)) (u1 := (Value.slice qxO qxL qxC)) (u2 := (Value.slice qyO qyL qyC)) hbr; rw [← hwE] at hcy
  replace hx := hx.set3 (u0 := (Value.bool qB)) (u1 := (Value.slice qxO qxL qxC)) (u2 := (Value.slice qyO qyL qyC)) hbr; rw [← hwE] at hx
  replace hy := hy.set3 (u0 := (Value.bool qB)) (u1 := (Value.slice qxO qxL qxC)) (u2 := (Value.slice qyO qyL qyC)) hbr; rw [← hwE] at hy
  replace hm := hm.set3 (u0 := (Value.bool qB)) (u1 := (Value.slice qxO qxL qxC)) (u2 := (Value.slice qyO qyL qyC)) hbr; rw [← hwE] at hm
  replace hz := hz.set3 (u0 := (Value.bool qB)) (u1 := (Value.slice qxO qxL qxC)) (u2 := (Value.slice qyO qyL qyC)) hbr; rw [← hwE] at hz
  replace hqx := hqx.set3 (u0 := (Value.bool qB)) (u1 := (Value.slice qxO qxL qxC)) (u2 := (Value.slice qyO qyL qyC)) hbr; rw [← hwE] at hqx
  replace hqy := hqy.set3 (u0 := (Value.bool qB)) (u1 := (Value.slice qxO qxL qxC)) (u2 := (Value.slice qyO qyL qyC)) hbr; rw [← hwE] at hqy
  replace hq := hq.set3 (u0 := (Value.bool qB)) (u1 := (Value.slice qxO qxL qxC)) (u2 := (Value.slice qyO qyL qyC)) hbr; rw [← hwE] at hq
  replace hba := hba.set3o (u0 := (Value.bool qB)) (u1 := (Value.slice qxO qxL qxC)) (u2 := (Value.slice qyO qyL qyC)) (show pa ≠ pr by have := HP.out; omega); rw [← hwE] at hba
  replace hbc := hbc.set3o (u0 := (Value.bool qB)) (u1 := (Value.slice qxO qxL qxC)) (u2 := (Value.slice qyO qyL qyC)) (show pc ≠ pr by have := HP.out; omega); rw [← hwE] at hbc
  replace hbf := below_set3 (u0 := (Value.bool qB)) (u1 := (Value.slice qxO qxL qxC)) (u2 := (Value.slice qyO qyL qyC)) hbf (show w.heap.size ≤ pr by have := HP.out; omega); rw [← hwE] at hbf
  replace hbr := hbr.set3 (u0 := (Value.bool qB)) (u1 := (Value.slice qxO qxL qxC)) (u2 := (Value.slice qyO qyL qyC)); rw [← hwE] at hbr; clear hwE
  first | refine hK.out _ _ hbc (fun _ => ?_) | (go_wp2_with fail; refine hK.out _ _ hbc (fun _ => ?_))
  clear hK K
  (try simp only [Act.put, List.setIfInBounds_toArray, List.set_cons_zero, List.set_cons_succ])
  refine seq_end ?_
  rw [Nat.mul_comm a.den c.den, HcS.out, qadd_more (Ne.symm HSN.out) HLE.out, Rat.add_comm] at hq
  go_wp2_with fail
  exact ret_rrat rfl rfl hbr rfl ⟨_, rfl, hq, hbf⟩
theorem QB.half (k : Nat) (hk : 1 ≤ k) : QB half k := ⟨by rw [half_num]; exact limbs_bound (by decide) hk, by rw [half_den]; exact limbs_bound (by decide) hk⟩
end Go.Proofs.YtoadhoojdgeikaaDoor
