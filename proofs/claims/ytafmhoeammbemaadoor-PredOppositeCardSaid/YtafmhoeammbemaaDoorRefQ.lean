import Derived.Test.YtafmhoeammbemaaDoorRatD
namespace Go.Proofs.YtafmhoeammbemaaDoor
open Go.RowKit
set_option linter.unusedVariables false
set_option linter.unusedSimpArgs false
attribute [local go_sem] field_nat
theorem trim_r (v : Value) (n : Nat) (w : World) (h : RIs w v n) : Calls Tryd.prog 36 #[v] w fun e w' => e = .returned v ∧ Below w.heap.size w w' :=
  (rtrim_same v n w h).mono fun e w' h => ⟨h.1, h.2 ▸ Below.refl _ _⟩
theorem RIs.len {w : World} {o : Option Addr} {l c n : Nat} (h : RIs w (.slice o l c) n) : l = (rlimbs n).length := by
  obtain ⟨ao, cap, h1, _⟩ := h.open
  injection h1
theorem rlimbs_mono {a b k : Nat} (hab : a ≤ b) (h : (rlimbs b).length ≤ k) : (rlimbs a).length ≤ k := Nat.le_trans (rlimbs_length_mono hab) h
theorem rlimbs_one : (rlimbs 1).length = 1 := by rw [rlimbs_pos (by omega)]; simp [rlimbs_zero]
theorem rlimbs_mul {a b m n : Nat} (ha : (rlimbs a).length ≤ m) (hb : (rlimbs b).length ≤ n) : (rlimbs (a * b)).length ≤ m + n := by
  have h1 := lt_pow_rlimbs a
  have h2 := lt_pow_rlimbs b
  refine rlimbs_length_le ?_
  have h3 : a < 10000 ^ m := Nat.lt_of_lt_of_le h1 (Nat.pow_le_pow_right (by decide) ha)
  have h4 : b < 10000 ^ n := Nat.lt_of_lt_of_le h2 (Nat.pow_le_pow_right (by decide) hb)
  rw [Nat.pow_add]
  exact Nat.mul_lt_mul'' h3 h4
theorem rlimbs_add {a b m : Nat} (ha : (rlimbs a).length ≤ m) (hb : (rlimbs b).length ≤ m) : (rlimbs (a + b)).length ≤ m + 1 := by
  have h1 := lt_pow_rlimbs a
  have h2 := lt_pow_rlimbs b
  refine rlimbs_length_le ?_
  have h3 : a < 10000 ^ m := Nat.lt_of_lt_of_le h1 (Nat.pow_le_pow_right (by decide) ha)
  have h4 : b < 10000 ^ m := Nat.lt_of_lt_of_le h2 (Nat.pow_le_pow_right (by decide) hb)
  rw [Nat.pow_succ]
  omega
set_option maxRecDepth 100000 in
set_option maxHeartbeats 1000000 in
/-- Make. -/
theorem rmake_any (neg : Bool) (vn vd : Value) (n d : Nat) (w : World) (hn : RIs w vn n) (hd : RIs w vd d) (hln : (rlimbs n).length ≤ 1000000) (hld : (rlimbs d).length ≤ 1000000) (hd0 : 0 < d) :
    Calls Tryd.prog 30 #[.bool neg, vn, vd] w (RQPost w (qOf neg n d)) := by
  obtain ⟨nO, nL, nC, rfl⟩ := hn.form
  obtain ⟨dO, dL, dC, rfl⟩ := hd.form
  obtain ⟨w0, hw0⟩ : ∃ w0, w0 = (w.alloc (.cells #[.bool false, .slice none 0 0, .slice none 0 0] 38)) := ⟨_, rfl⟩
  have hbf : Below w.heap.size w w0 := by rw [hw0]; exact ((Below.refl _ w).alloc (Nat.le_refl _) _)
  obtain ⟨pr, hpr⟩ : ∃ p, p = w.heap.size := ⟨_, rfl⟩
  have hbr : Box3 w0 pr (Value.bool false) (Value.slice none 0 0) (Value.slice none 0 0) := by rw [hw0, hpr]; exact ⟨by go_simp, by go_simp, by go_simp, by go_simp, by go_simp, by go_simp⟩
  have HP : Hid (w.heap.size ≤ pr) := Lib.hid (by omega)
  replace hn := hn.below hbf
  replace hd := hd.below hbf
  have HW := Lib.hid hw0; clear hw0
  go_enter Tryd.func30, Tryd.ntmps30
  go_upto_region 1 with fail
  rw [← HW.out, ← hpr]
  clear hpr HW
  have HD := Lib.hid hd0; clear hd0
  go_wp2_with fail
  refine (trim_r _ n _ hn).mono ?_
  rintro e w1 ⟨rfl, hb⟩
  replace hbr := hbr.kept hb
  replace hn := hn.below hb
  replace hd := hd.below hb
  replace hbf := hbf.trans (hb.mono hbf.size)
  clear hb
  go_wp2_with fail
  refine (trim_r _ d _ hd).mono ?_
  rintro e w2 ⟨rfl, hb⟩
  replace hbr := hbr.kept hb
  replace hn := hn.below hb
  replace hd := hd.below hb
  replace hbf := hbf.trans (hb.mono hbf.size)
  clear hb
  go_wp2_with fail
  refine (rgcd_any _ _ n d _ hn hd hln hld).mono ?_
  rintro e w3 ⟨r9, rfl, hg, hb⟩
  replace hbr := hbr.kept hb
  replace hn := hn.below hb
  replace hd := hd.below hb
  replace hbf := hbf.trans (hb.mono hbf.size)
  clear hb
  obtain ⟨gO, gL, gC, rfl⟩ := hg.form
  have HG : Hid (0 < Nat.gcd n d) := Lib.hid (Nat.gcd_pos_of_pos_right _ HD.out)
  have hlg : (rlimbs (Nat.gcd n d)).length ≤ 1000000 := rlimbs_mono (Nat.gcd_le_right _ HD.out) hld
  go_wp2_with fail
  refine (rdivmod_any _ _ n (Nat.gcd n d) _ hn hg hln hlg HG.out).mono ?_
  rintro e w4 ⟨r9, s9, rfl, hx, hs, hb⟩
  replace hbr := hbr.kept hb
  replace hn := hn.below hb
  replace hd := hd.below hb
  replace hg := hg.below hb
  replace hbf := hbf.trans (hb.mono hbf.size)
  clear hb
  obtain ⟨xO, xL, xC, rfl⟩ := hx.form
  obtain ⟨sO, sL, sC, rfl⟩ := hs.form
  clear hs
  go_wp2_with fail
  refine (rdivmod_any _ _ d (Nat.gcd n d) _ hd hg hld hlg HG.out).mono ?_
  rintro e w5 ⟨r9, s9, rfl, hy, hs, hb⟩
  replace hbr := hbr.kept hb
  replace hn := hn.below hb
  replace hd := hd.below hb
  replace hg := hg.below hb
  replace hx := hx.below hb
  replace hbf := hbf.trans (hb.mono hbf.size)
  clear hb
  obtain ⟨yO, yL, yC, rfl⟩ := hy.form
  obtain ⟨tO, tL, tC, rfl⟩ := hs.form
  clear hs
  have hxl := hx.len
  have hx0 : decide ((0 : Int) < (xL : Int)) = decide (0 < n) := by
    rw [hxl]
    by_cases h0 : n = 0
    · subst h0; simp [rlimbs_zero]
    · have h1 : 0 < n / Nat.gcd n d := Nat.div_pos (Nat.gcd_le_left _ (by omega)) HG.out
      have h2 : rlimbs (n / Nat.gcd n d) ≠ [] := fun h => by have := rlimbs_eq_nil.1 h; omega
      have h3 : 0 < (rlimbs (n / Nat.gcd n d)).length := List.length_pos_iff.2 h2
      rw [decide_eq_true (by omega), decide_eq_true (by omega)]
  have HX := Lib.hid hx0; clear hx0 hxl
  cases neg
  case false =>
    have er0 := hbr.c0
    have fr0 := hbr.f0
    have er1 := hbr.c1
    have fr1 := hbr.f1
    have er2 := hbr.c2
    have fr2 := hbr.f2
    go_wp2_with fail
    exact end_r rfl rfl rfl hbr (show w.heap.size ≤ pr by have := HP.out; omega) (RQIs.made HD.out (by first | rfl | (rw [← HX.out]; simp)) hx hy) hbf
  case true =>
    have er0 := hbr.c0
    have fr0 := hbr.f0
    have er1 := hbr.c1
    have fr1 := hbr.f1
    have er2 := hbr.c2
    have fr2 := hbr.f2
    go_wp2_with fail
    exact end_r rfl rfl rfl hbr (show w.heap.size ≤ pr by have := HP.out; omega) (RQIs.made HD.out (by first | rfl | (rw [← HX.out]; simp)) hx hy) hbf
theorem qb_pf2 {a : Rat} (hs : Hid (false = decide (a < 0))) (h : ¬ a.den = 1) : ((⟨(str (dec a.num.natAbs)).toArray⟩ ++ ⟨#[47]⟩) ++ ⟨(str (dec a.den)).toArray⟩ : ByteArray) = ⟨(qtext a).toArray⟩ := by
  rw [← qb_pf hs h]; apply ByteArray.ext; simp
theorem qb_nf2 {a : Rat} (hs : Hid (true = decide (a < 0))) (h : ¬ a.den = 1) : (((⟨#[45]⟩ ++ ⟨(str (dec a.num.natAbs)).toArray⟩) ++ ⟨#[47]⟩) ++ ⟨(str (dec a.den)).toArray⟩ : ByteArray) = ⟨(qtext a).toArray⟩ := by
  rw [← qb_nf hs h]; apply ByteArray.ext; simp
set_option maxRecDepth 100000 in
set_option maxHeartbeats 1000000 in
/-- RatText. -/
theorem rqtext_any (va : Value) (a : Rat) (w : World) (ha : RQIs w va a) (hla : QB a 30000) :
    Calls Tryd.prog 31 #[va] w fun e w' => e = .returned (.string ⟨(qtext a).toArray⟩) ∧ Below w.heap.size w w' := by
  obtain ⟨aB, axO, axL, axC, ayO, ayL, ayC, rfl, hS, hax, hay⟩ := ha.form
  have HaS := Lib.hid hS; clear hS
  obtain ⟨w0, hw0⟩ : ∃ w0, w0 = (w.alloc (.cells #[.bool aB, .slice axO axL axC, .slice ayO ayL ayC] 38)) := ⟨_, rfl⟩
  have hbf : Below w.heap.size w w0 := by rw [hw0]; exact ((Below.refl _ w).alloc (Nat.le_refl _) _)
  obtain ⟨pa, hpa⟩ : ∃ p, p = w.heap.size := ⟨_, rfl⟩
  have hba : Box3 w0 pa (Value.bool aB) (Value.slice axO axL axC) (Value.slice ayO ayL ayC) := by rw [hw0, hpa]; exact ⟨by go_simp, by go_simp, by go_simp, by go_simp, by go_simp, by go_simp⟩
  have HP : Hid (w.heap.size ≤ pa) := Lib.hid (by omega)
  replace ha := ha.below hbf
  replace hax := hax.below hbf
  replace hay := hay.below hbf
  have HW := Lib.hid hw0; clear hw0
  go_enter Tryd.func31, Tryd.ntmps31
  go_upto_region 1 with fail
  rw [← HW.out, ← hpa]
  clear hpa HW
  have hla1 := hla.1
  have hla2 := hla.2
  have hr1 := rlimbs_of_limbs hla1
  have hr2 := rlimbs_of_limbs hla2
  have ea0 := hba.c0
  have ea1 := hba.c1
  have ea2 := hba.c2
  go_wp2_with fail
  refine (rtext_any _ a.num.natAbs _ hax (by omega)).mono ?_
  rintro e w1 ⟨rfl, hb⟩
  clear ea0 ea1 ea2
  replace hba := hba.kept hb
  replace ha := ha.below hb
  replace hax := hax.below hb
  replace hay := hay.below hb
  replace hbf := hbf.trans (hb.mono hbf.size)
  clear hb
  obtain ⟨T, hT⟩ : ∃ T, T = str (dec a.num.natAbs) := ⟨_, rfl⟩
  obtain ⟨D, hD⟩ : ∃ D, D = str (dec a.den) := ⟨_, rfl⟩
  rw [← hT]
  have hTl : T.length ≤ 300001 := by rw [hT]; exact dec_limbsK hla1 (by omega)
  have hDl : D.length ≤ 300001 := by rw [hD]; exact dec_limbsK hla2 (by omega)
  have HT := Lib.hid hT.symm; clear hT
  have HDD := Lib.hid hD.symm; clear hD
  have hcmp : (cmpI a.den 1 != 0) = !decide (a.den = 1) := by
    unfold cmpI; by_cases h1 : a.den < 1 <;> by_cases h2 : 1 < a.den <;> simp [h1, h2] <;> omega
  have HCM := Lib.hid hcmp; clear hcmp
  cases aB
  case false =>
    obtain ⟨w2, hwE⟩ : ∃ W, W = (w1.alloc (.cells #[.int .i64 1] 3)) := ⟨_, rfl⟩
    have hb : Below w1.heap.size w1 w2 := by rw [hwE]; exact ((Below.refl _ w1).alloc (Nat.le_refl _) _)
    obtain ⟨oP, hpo⟩ : ∃ p, p = w1.heap.size := ⟨_, rfl⟩
    have ho : RIs w2 (.slice (some ⟨oP, 0, none⟩) 1 1) 1 := by rw [hwE, hpo]; exact (one_is w1 (x := 1) (by omega) (by omega))
    have ea0 := hba.c0
    have ea1 := hba.c1
    have ea2 := hba.c2
    have HW := Lib.hid hwE; clear hwE
    go_wp2_with fail
    rw [← HW.out, ← hpo]
    clear hpo HW
    clear ea0 ea1 ea2
    replace hba := hba.kept hb
    replace ha := ha.below hb
    replace hax := hax.below hb
    replace hay := hay.below hb
    replace hbf := hbf.trans (hb.mono hbf.size)
    clear hb
    refine (rcmp_any _ _ a.den 1 _ hay ho).mono ?_
    rintro e w3 ⟨rfl, hb⟩
    replace hba := hba.kept hb
    replace ha := ha.below hb
    replace hax := hax.below hb
    replace hay := hay.below hb
    replace ho := ho.below hb
    replace hbf := hbf.trans (hb.mono hbf.size)
    clear hb
    by_cases h1 : a.den = 1
    case pos =>
      have hc0 : cmpI a.den 1 = 0 := by rw [h1]; rfl
      rw [hc0]
      have hq := qb_pw HaS h1
      rw [HT.out] at hq
      have HQ := Lib.hid hq; clear hq h1 hc0
      go_wp2_with fail
      go_ret
      exact ⟨ret_one (by rw [← HQ.out]; rfl), hbf⟩
    obtain ⟨c9, hc9⟩ : ∃ c, c = cmpI a.den 1 := ⟨_, rfl⟩
    rw [← hc9]
    have hcn : (c9 != 0) = true := by rw [hc9, HCM.out, decide_eq_false h1]; rfl
    have hcn2 : (c9 == 0) = false := by simpa using hcn
    have hcn3 : ¬ c9 = 0 := by simpa using hcn
    clear hc9
    have hq := qb_pf2 HaS h1
    rw [HT.out, HDD.out] at hq
    have HQ := Lib.hid hq; clear hq
    clear h1
    have ea0 := hba.c0
    have ea1 := hba.c1
    have ea2 := hba.c2
    go_wp2_with fail
    refine (rtext_any _ a.den _ hay (by omega)).mono ?_
    rintro e w4 ⟨rfl, hb⟩
    clear ea0 ea1 ea2
    replace hba := hba.kept hb
    replace ha := ha.below hb
    replace hax := hax.below hb
    replace hay := hay.below hb
    replace ho := ho.below hb
    replace hbf := hbf.trans (hb.mono hbf.size)
    clear hb
    rw [HDD.out]
    go_wp2_with fail
    go_ret
    exact ⟨ret_one (by rw [← HQ.out]; rfl), hbf⟩
  case true =>
    obtain ⟨w2, hwE⟩ : ∃ W, W = (w1.alloc (.cells #[.int .i64 1] 3)) := ⟨_, rfl⟩
    have hb : Below w1.heap.size w1 w2 := by rw [hwE]; exact ((Below.refl _ w1).alloc (Nat.le_refl _) _)
    obtain ⟨oP, hpo⟩ : ∃ p, p = w1.heap.size := ⟨_, rfl⟩
    have ho : RIs w2 (.slice (some ⟨oP, 0, none⟩) 1 1) 1 := by rw [hwE, hpo]; exact (one_is w1 (x := 1) (by omega) (by omega))
    have ea0 := hba.c0
    have ea1 := hba.c1
    have ea2 := hba.c2
    have HW := Lib.hid hwE; clear hwE
    go_wp2_with fail
    rw [← HW.out, ← hpo]
    clear hpo HW
    clear ea0 ea1 ea2
    replace hba := hba.kept hb
    replace ha := ha.below hb
    replace hax := hax.below hb
    replace hay := hay.below hb
    replace hbf := hbf.trans (hb.mono hbf.size)
    clear hb
    refine (rcmp_any _ _ a.den 1 _ hay ho).mono ?_
    rintro e w3 ⟨rfl, hb⟩
    replace hba := hba.kept hb
    replace ha := ha.below hb
    replace hax := hax.below hb
    replace hay := hay.below hb
    replace ho := ho.below hb
    replace hbf := hbf.trans (hb.mono hbf.size)
    clear hb
    by_cases h1 : a.den = 1
    case pos =>
      have hc0 : cmpI a.den 1 = 0 := by rw [h1]; rfl
      rw [hc0]
      have hq := qb_nw HaS h1
      rw [HT.out] at hq
      have HQ := Lib.hid hq; clear hq h1 hc0
      go_wp2_with fail
      go_ret
      exact ⟨ret_one (by rw [← HQ.out]; rfl), hbf⟩
    obtain ⟨c9, hc9⟩ : ∃ c, c = cmpI a.den 1 := ⟨_, rfl⟩
    rw [← hc9]
    have hcn : (c9 != 0) = true := by rw [hc9, HCM.out, decide_eq_false h1]; rfl
    have hcn2 : (c9 == 0) = false := by simpa using hcn
    have hcn3 : ¬ c9 = 0 := by simpa using hcn
    clear hc9
    have hq := qb_nf2 HaS h1
    rw [HT.out, HDD.out] at hq
    have HQ := Lib.hid hq; clear hq
    clear h1
    have ea0 := hba.c0
    have ea1 := hba.c1
    have ea2 := hba.c2
    go_wp2_with fail
    refine (rtext_any _ a.den _ hay (by omega)).mono ?_
    rintro e w4 ⟨rfl, hb⟩
    clear ea0 ea1 ea2
    replace hba := hba.kept hb
    replace ha := ha.below hb
    replace hax := hax.below hb
    replace hay := hay.below hb
    replace ho := ho.below hb
    replace hbf := hbf.trans (hb.mono hbf.size)
    clear hb
    rw [HDD.out]
    go_wp2_with fail
    go_ret
    exact ⟨ret_one (by rw [← HQ.out]; rfl), hbf⟩
theorem cmpI_cases (a b : Nat) : cmpI a b = -1 ∨ cmpI a b = 0 ∨ cmpI a b = 1 := by
  unfold cmpI; split <;> (try split) <;> simp
theorem cmpI_neg (a b : Nat) : cmpI b a = -cmpI a b := by
  unfold cmpI; by_cases h1 : a < b <;> by_cases h2 : b < a <;> simp [h1, h2] <;> omega
theorem cmpI_ge (a b : Nat) : 0 ≤ cmpI a b ↔ b ≤ a := by
  unfold cmpI; by_cases h1 : a < b <;> by_cases h2 : b < a <;> simp [h1, h2] <;> omega
theorem qOf_minus (a : Rat) {s : Bool} (hs : Hid (s = decide (a < 0))) : qOf (!s) a.num.natAbs a.den = -a := by
  rw [hs.out]
  have h := qOf_self (-a)
  rw [(qneg_num a).1, (qneg_num a).2, qneg_sign] at h
  by_cases h0 : a.num.natAbs = 0
  · rw [h0, qOf_zero, q_num_zero.1 h0]; rfl
  · rw [decide_eq_false h0] at h
    simpa using h
theorem QB.half (k : Nat) (hk : 1 ≤ k) : QB half k := ⟨by rw [half_num]; exact limbs_bound (by decide) hk, by rw [half_den]; exact limbs_bound (by decide) hk⟩
end Go.Proofs.YtafmhoeammbemaaDoor
