/-
  Pk17: IeeeB (what is needed of them).
-/
import Derived.Test.YtcpfanpcdkoiaaaGreatPk16
import Derived.WalkMore
set_option maxRecDepth 100000
set_option linter.unusedVariables false
set_option linter.unusedSimpArgs false

namespace Go.Proofs.YtcpfanpcdkoiaaaGreat
open Go.RowKit


attribute [local go_sem] field_nat
theorem valid_yes (E F : Nat) (w : World) (h1 : 2 ≤ E) (h2 : E ≤ 11) (h3 : 1 ≤ F) (h4 : F ≤ 52) : Calls Tryz.prog 158 #[formV (E : Int) (F : Int)] w fun e' w' => e' = .returned (.bool true) ∧ Below w.heap.size w w' := by
 have h := valid_any (E : Int) (F : Int) w
 rwa [decide_eq_true (by omega)] at h
theorem dk_nan {E F b : Nat} (h : finf E F < fsize E F b) : dkind E F b = 4 ∧ dval' E F b = 0 := by
 unfold dkind dval' fsize at *
 generalize b % 2 ^ (E + F) = n at *
 generalize finf E F = i at *
 exact ⟨if_pos h, if_neg (by omega)⟩
theorem dk_inf {E F b : Nat} (h : fsize E F b = finf E F) : dkind E F b = (if fneg E F b then 3 else 2) ∧ dval' E F b = 0 := by
 unfold dkind dval' fsize fneg at *
 generalize b % 2 ^ (E + F) = n at *
 generalize finf E F = i at *
 exact ⟨by rw [if_neg (by omega), if_pos h], if_neg (by omega)⟩
theorem dk_fin {E F b : Nat} (h : fsize E F b < finf E F) : dkind E F b = 1 ∧ dval' E F b = (if fneg E F b then -(fval E F (fsize E F b)) else fval E F (fsize E F b)) := by
 unfold dkind dval' fsize fneg at *
 generalize b % 2 ^ (E + F) = n at *
 generalize finf E F = i at *
 exact ⟨by rw [if_neg (by omega), if_neg (by omega)], if_pos h⟩
theorem BitInv.bits {E F : Nat} {r : Rat} {g out : Nat} (h : BitInv E F r g out) : g ≤ E + F := (Nat.pow_le_pow_iff_right (a := 2) (by decide)).1 (by have := h.top; omega)
theorem fval_qb {E F n : Nat} (hE : E ≤ 11) (hF : F ≤ 52) (hn : n < finf E F) : QB (fval E F n) 66 := QB.fval hE hF (Nat.lt_trans hn (finf_lt E F)) (by decide)
set_option maxHeartbeats 1000000 in
theorem decode_any (E F b : Nat) (w : World) (hE2 : 2 ≤ E) (hE : E ≤ 11) (hF1 : 1 ≤ F) (hF : F ≤ 52) (hb64 : b < 18446744073709551616) :
  Calls Tryz.prog 133 #[formV (E : Int) (F : Int), .int .u64 (b : Int)] w (QPostC w (dval' E F b) (dkind E F b)) := by
 obtain ⟨w0, hw0⟩ : ∃ w0, w0 = ((w.alloc (.cells #[.int .i64 (E : Int), .int .i64 (F : Int)] 185)).alloc (.cells #[.bool false, .slice none 0 0, .slice none 0 0] 182)) := ⟨_, rfl⟩
 have hbf : Below w.heap.size w w0 := by rw [hw0]; exact (((Below.refl _ w).alloc (Nat.le_refl _) _).alloc (by simp <;> omega) _)
 obtain ⟨pg, hpg⟩ : ∃ p, p = w.heap.size := ⟨_, rfl⟩
 have hbg : Box2 w0 pg (Value.int .i64 (E : Int)) (Value.int .i64 (F : Int)) := by rw [hw0, hpg]; exact ⟨by go_simp, by go_simp, by go_simp, by go_simp⟩
 obtain ⟨pr, hpr⟩ : ∃ p, p = w.heap.size + 1 := ⟨_, rfl⟩
 have hbr : Box3 w0 pr (Value.bool false) (Value.slice none 0 0) (Value.slice none 0 0) := by rw [hw0, hpr]; exact ⟨by go_simp, by go_simp, by go_simp, by go_simp, by go_simp, by go_simp⟩
 have HP : Hid (w.heap.size ≤ pg ∧ pg < pr) := Lib.hid (by omega)
 have HW := Lib.hid hw0; clear hw0
 go_enter Tryz.func133, Tryz.ntmps133
 go_upto_region 1 with fail
 rw [← HW.out, ← hpr, ← hpg]
 clear hpg hpr HW
 have eg0 := hbg.c0
 have eg1 := hbg.c1
 go_wp2_with fail
 refine (valid_yes E F _ hE2 hE hF1 hF).mono ?_
 rintro e w1 ⟨rfl, hb⟩
 clear eg0 eg1
 replace hbg := hbg.kept hb
 replace hbr := hbr.kept hb
 replace hbf := hbf.trans (hb.mono hbf.size)
 clear hb
 have eg0 := hbg.c0
 have eg1 := hbg.c1
 go_wp2_with fail
 refine (parts_any E F b _ hE hF hb64).mono ?_
 rintro e w2 ⟨rfl, hb⟩
 clear eg0 eg1
 replace hbg := hbg.kept hb
 replace hbr := hbr.kept hb
 replace hbf := hbf.trans (hb.mono hbf.size)
 clear hb
 have hnl := fsize_lt E F b
 have hIl : finf E F < fsgn E F := finf_lt E F
 have hSl := fsgn_lt hE hF
 have HDN := Lib.hid (@dk_nan E F b)
 have HDI := Lib.hid (@dk_inf E F b)
 have HDF := Lib.hid (@dk_fin E F b)
 generalize fneg E F b = s at *
 generalize fsize E F b = n at *
 obtain ⟨i, hi⟩ : ∃ i, i = finf E F := ⟨_, rfl⟩
 have HI := Lib.hid hi
 rw [← hi] at hIl
 clear hi
 generalize fsgn E F = sg at *
 have eg0 := hbg.c0
 have eg1 := hbg.c1
 go_wp2_with fail
 refine (infinity_any E F _ hE hF).mono ?_
 rintro e w3 ⟨rfl, hb⟩
 clear eg0 eg1
 replace hbg := hbg.kept hb
 replace hbr := hbr.kept hb
 replace hbf := hbf.trans (hb.mono hbf.size)
 clear hb
 rw [← HI.out]
 by_cases h1 : i < n
 case pos =>
  have hc : decide ((i : Int) < (n : Int)) = true := decide_eq_true (by omega)
  have hd := HDN.out (by rw [← HI.out]; omega)
  clear HDN HDI HDF
  have er0 := hbr.c0
  have fr0 := hbr.f0
  have er1 := hbr.c1
  have fr1 := hbr.f1
  have er2 := hbr.c2
  have fr2 := hbr.f2
  go_wp2_with fail
  rw [hd.1, hd.2]
  exact end_qc rfl rfl rfl rfl hbr (show w.heap.size ≤ pr by have := HP.out; omega) (QIs.zero _) hbf
 have hc : decide ((i : Int) < (n : Int)) = false := decide_eq_false (by omega)
 have eg0 := hbg.c0
 have eg1 := hbg.c1
 go_wp2_with fail
 refine (infinity_any E F _ hE hF).mono ?_
 rintro e w4 ⟨rfl, hb⟩
 clear eg0 eg1
 replace hbg := hbg.kept hb
 replace hbr := hbr.kept hb
 replace hbf := hbf.trans (hb.mono hbf.size)
 clear hb
 rw [← HI.out]
 by_cases h2 : i = n
 case pos =>
  subst h2
  have hc2 : ((i : Int) == (i : Int)) = true := beq_self_eq_true _
  have hd := HDI.out HI.out
  cases s
  clear HDN HDI HDF
  case true =>
   have er0 := hbr.c0
   have fr0 := hbr.f0
   have er1 := hbr.c1
   have fr1 := hbr.f1
   have er2 := hbr.c2
   have fr2 := hbr.f2
   go_wp2_with fail
   rw [hd.1, hd.2]
   exact end_qc rfl rfl rfl rfl hbr (show w.heap.size ≤ pr by have := HP.out; omega) (QIs.zero _) hbf
  case false =>
   have eg0 := hbg.c0
   have eg1 := hbg.c1
   go_wp2_with fail
   refine (infinity_any E F _ hE hF).mono ?_
   rintro e w5 ⟨rfl, hb⟩
   clear eg0 eg1
   replace hbg := hbg.kept hb
   replace hbr := hbr.kept hb
   replace hbf := hbf.trans (hb.mono hbf.size)
   clear hb
   rw [← HI.out]
   have er0 := hbr.c0
   have fr0 := hbr.f0
   have er1 := hbr.c1
   have fr1 := hbr.f1
   have er2 := hbr.c2
   have fr2 := hbr.f2
   go_wp2_with fail
   rw [hd.1, hd.2]
   exact end_qc rfl rfl rfl rfl hbr (show w.heap.size ≤ pr by have := HP.out; omega) (QIs.zero _) hbf
 have hc2 : (((n : Int) == (i : Int))) = false := by rw [beq_eq_false_iff_ne, ne_eq]; omega
 have hd := HDF.out (by rw [← HI.out]; omega)
 clear HDN HDI HDF
 cases s
 case false =>
  have eg0 := hbg.c0
  have eg1 := hbg.c1
  go_wp2_with fail
  refine (infinity_any E F _ hE hF).mono ?_
  rintro e w5 ⟨rfl, hb⟩
  clear eg0 eg1
  replace hbg := hbg.kept hb
  replace hbr := hbr.kept hb
  replace hbf := hbf.trans (hb.mono hbf.size)
  clear hb
  rw [← HI.out]
  have eg0 := hbg.c0
  have eg1 := hbg.c1
  go_wp2_with fail
  refine (value_any E F n _ hE2 hE hF1 hF (by rw [← HI.out]; omega)).mono ?_
  rintro e w6 hq9
  obtain ⟨vB, vxO, vxL, vxC, vyO, vyL, vyC, rfl, hS, hvx, hvy, hv, hb⟩ := hq9.out
  have HvS := Lib.hid hS; clear hS
  clear eg0 eg1
  replace hbg := hbg.kept hb
  replace hbr := hbr.kept hb
  replace hbf := hbf.trans (hb.mono hbf.size)
  clear hb
  have er0 := hbr.c0
  have fr0 := hbr.f0
  have er1 := hbr.c1
  have fr1 := hbr.f1
  have er2 := hbr.c2
  have fr2 := hbr.f2
  go_wp2_with fail
  rw [hd.1, hd.2]
  exact end_qc rfl rfl rfl rfl hbr (show w.heap.size ≤ pr by have := HP.out; omega) hv hbf
 case true =>
  have eg0 := hbg.c0
  have eg1 := hbg.c1
  go_wp2_with fail
  refine (infinity_any E F _ hE hF).mono ?_
  rintro e w5 ⟨rfl, hb⟩
  clear eg0 eg1
  replace hbg := hbg.kept hb
  replace hbr := hbr.kept hb
  replace hbf := hbf.trans (hb.mono hbf.size)
  clear hb
  rw [← HI.out]
  have eg0 := hbg.c0
  have eg1 := hbg.c1
  go_wp2_with fail
  refine (value_any E F n _ hE2 hE hF1 hF (by rw [← HI.out]; omega)).mono ?_
  rintro e w6 hq9
  obtain ⟨vB, vxO, vxL, vxC, vyO, vyL, vyC, rfl, hS, hvx, hvy, hv, hb⟩ := hq9.out
  have HvS := Lib.hid hS; clear hS
  clear eg0 eg1
  replace hbg := hbg.kept hb
  replace hbr := hbr.kept hb
  replace hbf := hbf.trans (hb.mono hbf.size)
  clear hb
  go_wp2_with fail
  refine (fminus_any _ _ 66 _ hv (fval_qb hE hF (by rw [← HI.out]; omega)) (by decide)).mono ?_
  rintro e w7 hq9
  obtain ⟨mB, mxO, mxL, mxC, myO, myL, myC, rfl, hS, hmx, hmy, hm, hb⟩ := hq9.out
  have HmS := Lib.hid hS; clear hS
  replace hbg := hbg.kept hb
  replace hbr := hbr.kept hb
  replace hvx := hvx.below hb
  replace hvy := hvy.below hb
  replace hv := hv.below hb
  replace hbf := hbf.trans (hb.mono hbf.size)
  clear hb
  have er0 := hbr.c0
  have fr0 := hbr.f0
  have er1 := hbr.c1
  have fr1 := hbr.f1
  have er2 := hbr.c2
  have fr2 := hbr.f2
  go_wp2_with fail
  rw [hd.1, hd.2]
  exact end_qc rfl rfl rfl rfl hbr (show w.heap.size ≤ pr by have := HP.out; omega) hm hbf
end Go.Proofs.YtcpfanpcdkoiaaaGreat
