/-
  Pk23: IeeeG RunS (what is needed of them).
-/
import Derived.Test.YtcpfanpcdkoiaaaGreatPk22
set_option maxRecDepth 100000
set_option linter.unusedVariables false
set_option linter.unusedSimpArgs false

namespace Go.Proofs.YtcpfanpcdkoiaaaGreat
open Go.RowKit


attribute [local go_sem] field_nat
theorem and_frac {F b : Nat} (hF : F ≤ 52) (hb : b < 18446744073709551616) : bits .and .u64 (b : Int) (IntKind.u64.wrap (IntKind.u64.wrap (2 ^ F) - 1)) = ((b % 2 ^ F : Nat) : Int) := by
 have h1 : 0 < 2 ^ F := Nat.pow_pos (by decide)
 have h2 : 2 ^ F ≤ 2 ^ 62 := Nat.pow_le_pow_right (by decide) (by omega)
 rw [wrap_two (by omega), IntWalk.u64_in _ (by omega), show ((2 ^ F : Nat) : Int) - 1 = ((2 ^ F - 1 : Nat) : Int) by omega]
 exact and_mask hb (by omega)
theorem and_exp {E F b : Nat} (hE : E ≤ 11) (hb : b < 18446744073709551616) : IntKind.i64.wrap (bits .and .u64 ((b : Int) / 2 ^ F) (IntKind.u64.wrap (IntKind.u64.wrap (2 ^ E) - 1))) = ((b / 2 ^ F % 2 ^ E : Nat) : Int) := by
 have h3 : b / 2 ^ F ≤ b := Nat.div_le_self _ _
 have h4 : 2 ^ E ≤ 2 ^ 11 := Nat.pow_le_pow_right (by decide) hE
 have h5 : b / 2 ^ F % 2 ^ E < 2 ^ E := Nat.mod_lt _ (Nat.pow_pos (by decide))
 rw [show ((b : Int) / 2 ^ F) = ((b / 2 ^ F : Nat) : Int) by simp, and_frac (F := E) (by omega) (by omega)]
 generalize b / 2 ^ F % 2 ^ E = q at *
 exact IntWalk.i64_in _ ⟨by omega, by omega⟩
theorem and_sgn {E F b : Nat} (hE : E ≤ 11) (hF : F ≤ 52) (hb : b < 18446744073709551616) : (bits .and .u64 ((b : Int) / 2 ^ (E + F)) 1 == 1) = fneg E F b := by
 have h3 : b / 2 ^ (E + F) ≤ b := Nat.div_le_self _ _
 rw [show ((b : Int) / 2 ^ (E + F)) = ((b / 2 ^ (E + F) : Nat) : Int) by simp, show (1 : Int) = ((2 ^ 1 - 1 : Nat) : Int) by rfl, and_mask (by omega) (by decide)]
 unfold fneg
 rw [Nat.testBit_eq_decide_div_mod_eq]
 have h4 : b / 2 ^ (E + F) % 2 ^ 1 < 2 := Nat.mod_lt _ (by decide)
 rw [show (2 : Nat) ^ 1 = 2 by rfl] at h4 ⊢
 generalize b / 2 ^ (E + F) % 2 = q at *
 rcases (show q = 0 ∨ q = 1 by omega) with rfl | rfl <;> rfl
theorem wrap_ones {E : Nat} (hE : E ≤ 11) : wrap64 (wrap64 (2 ^ E) - 1) = ((2 ^ E - 1 : Nat) : Int) := by
 have h4 : 2 ^ E ≤ 2 ^ 11 := Nat.pow_le_pow_right (by decide) hE
 have h5 : 0 < 2 ^ E := Nat.pow_pos (by decide)
 rw [show (2 : Int) ^ E = ((2 ^ E : Nat) : Int) by simp]
 generalize 2 ^ E = P at *
 unfold wrap64; omega
theorem parts_is (E F b : Nat) : fsize E F b = b / 2 ^ F % 2 ^ E * 2 ^ F + b % 2 ^ F := by
 unfold fsize
 rw [Nat.add_comm E F, Nat.pow_add, Nat.mod_mul, Nat.mul_comm]; omega
theorem parts_quo (E F b : Nat) : fsize E F b / 2 ^ F = b / 2 ^ F % 2 ^ E ∧ fsize E F b % 2 ^ F = b % 2 ^ F := by
 have h1 : 0 < 2 ^ F := Nat.pow_pos (by decide)
 have h2 : b % 2 ^ F < 2 ^ F := Nat.mod_lt _ h1
 rw [parts_is]
 generalize b / 2 ^ F % 2 ^ E = q at *
 generalize b % 2 ^ F = m at *
 generalize 2 ^ F = P at *
 rw [Nat.mul_comm]
 exact ⟨by rw [Nat.mul_add_div h1, Nat.div_eq_of_lt h2, Nat.add_zero], by rw [Nat.mul_add_mod, Nat.mod_eq_of_lt h2]⟩
theorem parts_top {E F b : Nat} (h : b / 2 ^ F % 2 ^ E = 2 ^ E - 1) : (b % 2 ^ F = 0 → fsize E F b = finf E F) ∧ (0 < b % 2 ^ F → finf E F < fsize E F b) := by
 rw [parts_is, h]; unfold finf
 generalize (2 ^ E - 1) * 2 ^ F = q
 omega
theorem parts_low {E F b : Nat} (h : ¬ b / 2 ^ F % 2 ^ E = 2 ^ E - 1) : fsize E F b < finf E F := by
 have h1 : b / 2 ^ F % 2 ^ E < 2 ^ E := Nat.mod_lt _ (Nat.pow_pos (by decide))
 have h2 : b % 2 ^ F < 2 ^ F := Nat.mod_lt _ (Nat.pow_pos (by decide))
 rw [parts_is]; unfold finf
 generalize b / 2 ^ F % 2 ^ E = q at *
 have h3 : (q + 1) * 2 ^ F ≤ (2 ^ E - 1) * 2 ^ F := Nat.mul_le_mul_right _ (by omega)
 rw [Nat.add_mul] at h3
 omega
theorem qOf_sign (neg : Bool) (n d : Nat) : qOf neg n d = if neg then -(qOf false n d) else qOf false n d := by
 cases neg
 ·rfl
 ·simp only [if_true]
  unfold qOf sg
  simp only [if_true, Bool.false_eq_true, if_false]
  rw [Rat.neg_mkRat]
theorem decode_up {E F b : Nat} (m : Nat) (hE : 2 ≤ E) (hF : 1 ≤ F) (hs : fsize E F b < finf E F) (hm : m = b % 2 ^ F + if 0 < b / 2 ^ F % 2 ^ E then 2 ^ F else 0) (k : Nat)
  (hk : (((max (b / 2 ^ F % 2 ^ E) 1 : Nat) - (2 ^ (E - 1) - 1 : Nat) - (F : Nat) : Int)) = (k : Int)) : qOf (fneg E F b) (m * 2 ^ k) 1 = dval' E F b ∧ dkind E F b = 1 := by
 have h1 := fval_is (n := fsize E F b) hE hF
 rw [(parts_quo E F b).1, (parts_quo E F b).2, ← hm, hk, tval_pos] at h1
 rw [qOf_sign, h1, (dk_fin hs).2]
 exact ⟨rfl, (dk_fin hs).1⟩
theorem decode_down {E F b : Nat} (m : Nat) (hE : 2 ≤ E) (hF : 1 ≤ F) (hs : fsize E F b < finf E F) (hm : m = b % 2 ^ F + if 0 < b / 2 ^ F % 2 ^ E then 2 ^ F else 0) (k : Nat) (h0 : 0 < k)
  (hk : (((max (b / 2 ^ F % 2 ^ E) 1 : Nat) - (2 ^ (E - 1) - 1 : Nat) - (F : Nat) : Int)) = -(k : Int)) : qOf (fneg E F b) m (2 ^ k) = dval' E F b ∧ dkind E F b = 1 := by
 have h1 := fval_is (n := fsize E F b) hE hF
 rw [(parts_quo E F b).1, (parts_quo E F b).2, ← hm, hk, tval_neg m h0] at h1
 rw [qOf_sign, h1, (dk_fin hs).2]
 exact ⟨rfl, (dk_fin hs).1⟩
theorem rl_pow9 {n k : Nat} (hn : n < 18446744073709551616) (hk : k ≤ 2100) : (rlimbs (n * 2 ^ k)).length ≤ 1000000 := by
 have h1 : (rlimbs n).length ≤ 5 := rlimbs_length_le (Nat.lt_of_lt_of_le hn (by decide))
 have h2 := rl_pow (m := k) (by omega)
 have h3 := rlimbs_mul h1 h2
 omega
theorem rl9 {n : Nat} (hn : n < 18446744073709551616) : (rlimbs n).length ≤ 10000 := Nat.le_trans (rlimbs_length_le (k := 5) (Nat.lt_of_lt_of_le hn (by decide))) (by decide)
theorem rlp {k : Nat} (hk : k ≤ 9990) : (rlimbs (2 ^ k)).length ≤ 9999 := rl_two (by omega)
set_option maxHeartbeats 1000000 in
theorem rdecode_any (E F b : Nat) (w : World) (hE2 : 2 ≤ E) (hE : E ≤ 11) (hF1 : 1 ≤ F) (hF : F ≤ 52) (hb64 : b < 18446744073709551616) :
  Calls Tryz.prog 163 #[.int .i64 (E : Int), .int .i64 (F : Int), .int .u64 (b : Int)] w (RQPostC w (dval' E F b) (dkind E F b)) := by
 obtain ⟨w0, hw0⟩ : ∃ w0, w0 = (w.alloc (.cells #[.bool false, .slice none 0 0, .slice none 0 0] 193)) := ⟨_, rfl⟩
 have hbf : Below w.heap.size w w0 := by rw [hw0]; exact ((Below.refl _ w).alloc (Nat.le_refl _) _)
 obtain ⟨pr, hpr⟩ : ∃ p, p = w.heap.size := ⟨_, rfl⟩
 have hbr : Box3 w0 pr (Value.bool false) (Value.slice none 0 0) (Value.slice none 0 0) := by rw [hw0, hpr]; exact ⟨by go_simp, by go_simp, by go_simp, by go_simp, by go_simp, by go_simp⟩
 have HP : Hid (w.heap.size ≤ pr) := Lib.hid (by omega)
 have HW := Lib.hid hw0; clear hw0
 go_enter Tryz.func163, Tryz.ntmps163
 go_upto_region 1 with fail
 rw [← HW.out, ← hpr]
 clear hpr HW
 go_upto_region 2 with fail
 rw [and_frac hF hb64]
 refine wp_region_seqQ (S := fun w' => True) [(0, 4, some 19), (0, 2, some 20), (3, 1572864, some 21), (0, 1, some 22), (8, 4194304, some 23), (16, 8388608, some 24), (36, 18874368, some 25), (64, 33554432, some 26), (255, 67108864, some 9)] [(true, 0), (true, 1), (true, 2), (true, 3), (true, 4), (true, 5), (true, 6), (true, 7), (true, 8)] (by kernel_rfl) (by kernel_rfl) (by kernel_rfl) (by kernel_rfl) (by kernel_rfl) (by kernel_rfl) (fun d _ _ _ _ h => by cases d <;> exact h) True.intro (fun _ => ?_)
 simp only [pickOps, List.append_eq, List.cons_append, List.nil_append, List.getElem?_toArray, List.getElem?_cons_succ, List.getElem?_cons_zero]
 have hb : Below w0.heap.size w0 w0.drew := (Below.refl _ _).drew
 generalize w0.drew = w1 at hb ⊢
 replace hbr := hbr.kept hb
 replace hbf := hbf.trans (hb.mono hbf.size)
 clear hb
 repeat (first | (refine seq_take (v := ?_) (by rfl) ?_ ?_; rotate_left; (· intro w hSw; (try dsimp only at hSw); go_simp; all_goals with_reducible rfl); (try simp only [Act.put, List.setIfInBounds_toArray, List.set_cons_zero, List.set_cons_succ])) | (refine seq_leave (by rfl) ?_; (try simp only [Act.put, List.setIfInBounds_toArray, List.set_cons_zero, List.set_cons_succ])))
 refine seq_end ?_
 rw [and_exp hE hb64]
 have HP1 := Lib.hid (@parts_top E F b)
 have HP2 := Lib.hid (@parts_low E F b)
 have HUP := Lib.hid (@decode_up E F b)
 have HDN := Lib.hid (@decode_down E F b)
 have hm2 : b % 2 ^ F < 2 ^ F := Nat.mod_lt _ (Nat.pow_pos (by decide))
 have he2 : b / 2 ^ F % 2 ^ E < 2 ^ 11 := Nat.lt_of_lt_of_le (Nat.mod_lt _ (Nat.pow_pos (by decide))) (Nat.pow_le_pow_right (by decide) hE)
 have hpF := pow_small hF
 generalize b % 2 ^ F = m at *
 generalize b / 2 ^ F % 2 ^ E = q at *
 have hsg := and_sgn hE hF hb64
 go_upto_region 4 with fail
 clear hsg
 obtain ⟨w2, hwE⟩ : ∃ W, W = ((w1.alloc (.cells #[.int .i64 1] 3)).alloc (.cells #[.bool false, .slice none 0 0, .slice (some ⟨w1.heap.size, 0, none⟩) 1 1] 193)) := ⟨_, rfl⟩
 have hb : Below w1.heap.size w1 w2 := by rw [hwE]; exact (((Below.refl _ w1).alloc (Nat.le_refl _) _).alloc (by simp <;> omega) _)
 obtain ⟨oP, hpo⟩ : ∃ p, p = w1.heap.size := ⟨_, rfl⟩
 obtain ⟨pz, hpz⟩ : ∃ p, p = w1.heap.size + 1 := ⟨_, rfl⟩
 have ho : RIs w2 (.slice (some ⟨oP, 0, none⟩) 1 1) 1 := by rw [hwE, hpo]; exact RIs.below (one_is w1 (x := 1) (by omega) (by omega)) ((Below.refl _ _).alloc (Nat.le_refl _) _)
 have hbz : Box3 w2 pz (Value.bool false) (Value.slice none 0 0) (Value.slice (some ⟨oP, 0, none⟩) 1 1) := by rw [hwE, hpo, hpz]; exact ⟨by go_simp, by go_simp, by go_simp, by go_simp, by go_simp, by go_simp⟩
 replace HP : Hid (w.heap.size ≤ pr ∧ pr < pz) := Lib.hid (by have h1 := HP.out; have h9 := hbf.size; have h2r := hbr.lt; omega)
 have HW := Lib.hid hwE; clear hwE
 go_upto_region 5 with fail
 rw [← HW.out, ← hpz]
 clear hpo hpz HW
 replace hbr := hbr.kept hb
 replace hbf := hbf.trans (hb.mono hbf.size)
 clear hb
 have hones := wrap_ones hE
 by_cases hq : q = 2 ^ E - 1
 case pos =>
  have hqc : ((q : Int) == wrap64 (wrap64 (2 ^ E) - 1)) = true := by rw [hones, beq_iff_eq]; omega
  have hp := HP1.out hq
  clear HP1 HP2 HUP HDN
  by_cases h0 : m = 0
  case pos =>
   subst h0
   have hd := dk_inf (hp.1 rfl)
   cases hs : fneg E F b
   case false =>
    rw [hs] at hd
    have ez0 := hbz.c0
    have ez1 := hbz.c1
    have ez2 := hbz.c2
    have er0 := hbr.c0
    have fr0 := hbr.f0
    have er1 := hbr.c1
    have fr1 := hbr.f1
    have er2 := hbr.c2
    have fr2 := hbr.f2
    go_wp2_with fail
    (try rw [hd.1])
    (try rw [hd.2])
    exact end_rc rfl rfl rfl rfl hbr (show w.heap.size ≤ pr by have := HP.out; omega) (RQIs.zero ho) hbf
   case true =>
    rw [hs] at hd
    have ez0 := hbz.c0
    have ez1 := hbz.c1
    have ez2 := hbz.c2
    have er0 := hbr.c0
    have fr0 := hbr.f0
    have er1 := hbr.c1
    have fr1 := hbr.f1
    have er2 := hbr.c2
    have fr2 := hbr.f2
    go_wp2_with fail
    (try rw [hd.1])
    (try rw [hd.2])
    exact end_rc rfl rfl rfl rfl hbr (show w.heap.size ≤ pr by have := HP.out; omega) (RQIs.zero ho) hbf
  case neg =>
   have hm0 : ((m : Int) == 0) = false := by rw [beq_eq_false_iff_ne, ne_eq]; omega
   have hm1 : ((m : Int) != 0) = true := by rw [bne, hm0]; rfl
   have hd := dk_nan (hp.2 (by omega))
   have ez0 := hbz.c0
   have ez1 := hbz.c1
   have ez2 := hbz.c2
   have er0 := hbr.c0
   have fr0 := hbr.f0
   have er1 := hbr.c1
   have fr1 := hbr.f1
   have er2 := hbr.c2
   have fr2 := hbr.f2
   go_wp2_with fail
   (try rw [hd.1])
   (try rw [hd.2])
   exact end_rc rfl rfl rfl rfl hbr (show w.heap.size ≤ pr by have := HP.out; omega) (RQIs.zero ho) hbf
 case neg =>
  have hqc : ((q : Int) == wrap64 (wrap64 (2 ^ E) - 1)) = false := by rw [hones, beq_eq_false_iff_ne, ne_eq]; omega
  have hs := HP2.out hq
  have HS := Lib.hid hs
  clear hs HP1 HP2 hq
  by_cases hq0 : q = 0
  case pos =>
   subst hq0
   obtain ⟨u, hu⟩ : ∃ u : Int, u = ((max 0 1 : Nat) - (2 ^ (E - 1) - 1 : Nat) - (F : Nat) : Int) := ⟨_, rfl⟩
   have hup := value_exp (F := F) hE2 hE hF he2 (1) (by omega)
   have hlo := value_low (F := F) hE2 hE hF he2
   have hhi := value_high (F := F) hE2 hE hF he2
   rw [← hu] at hup hlo hhi
   have HU := Lib.hid hu
   clear hu
   have hm64 : m < 18446744073709551616 := by omega
   by_cases hu0 : 0 ≤ u
   case pos =>
    obtain ⟨k, rfl⟩ : ∃ k : Nat, u = (k : Int) := ⟨u.toNat, by omega⟩
    have hc : decide ((0 : Int) ≤ (k : Int)) = true := decide_eq_true (by omega)
    have hl := rl_pow9 (n := m) (k := k) hm64 (by omega)
    have hd := HUP.out (m) hE2 hF1 HS.out (by simp) k HU.out.symm
    clear HUP HDN
    go_wp2_with fail
    refine (rof_any (m) _ hm64).mono ?_
    rintro e w3 ⟨r9, rfl, hx, hb⟩
    replace hbr := hbr.kept hb
    replace hbz := hbz.kept hb
    replace ho := ho.below hb
    replace hbf := hbf.trans (hb.mono hbf.size)
    clear hb
    obtain ⟨xO, xL, xC, rfl⟩ := hx.form
    go_wp2_with fail
    refine (rtwo_any k _ (by omega)).mono ?_
    rintro e w4 ⟨r9, rfl, hy, hb⟩
    replace hbr := hbr.kept hb
    replace hbz := hbz.kept hb
    replace ho := ho.below hb
    replace hx := hx.below hb
    replace hbf := hbf.trans (hb.mono hbf.size)
    clear hb
    obtain ⟨yO, yL, yC, rfl⟩ := hy.form
    go_wp2_with fail
    refine (rmul_any _ _ (m) (2 ^ k) _ hx hy (Nat.le_trans (rl9 hm64) (by decide)) (Nat.le_trans (rlp (k := k) (by omega)) (by decide))).mono ?_
    rintro e w5 ⟨r9, rfl, hv, hb⟩
    replace hbr := hbr.kept hb
    replace hbz := hbz.kept hb
    replace ho := ho.below hb
    replace hx := hx.below hb
    replace hy := hy.below hb
    replace hbf := hbf.trans (hb.mono hbf.size)
    clear hb
    obtain ⟨vO, vL, vC, rfl⟩ := hv.form
    obtain ⟨w6, hwE⟩ : ∃ W, W = (w5.alloc (.cells #[.int .i64 1] 3)) := ⟨_, rfl⟩
    have hb : Below w5.heap.size w5 w6 := by rw [hwE]; exact ((Below.refl _ w5).alloc (Nat.le_refl _) _)
    obtain ⟨iP, hpi⟩ : ∃ p, p = w5.heap.size := ⟨_, rfl⟩
    have hi : RIs w6 (.slice (some ⟨iP, 0, none⟩) 1 1) 1 := by rw [hwE, hpi]; exact (one_is w5 (x := 1) (by omega) (by omega))
    have HW := Lib.hid hwE; clear hwE
    go_wp2_with fail
    rw [← HW.out, ← hpi]
    clear hpi HW
    replace hbr := hbr.kept hb
    replace hbz := hbz.kept hb
    replace ho := ho.below hb
    replace hx := hx.below hb
    replace hy := hy.below hb
    replace hv := hv.below hb
    replace hbf := hbf.trans (hb.mono hbf.size)
    clear hb
    refine (rmake_any (fneg E F b) _ _ (m * 2 ^ k) 1 _ hv hi hl (by rw [rlimbs_one]; decide) (by decide)).mono ?_
    rintro e w7 hq9
    obtain ⟨qB, qxO, qxL, qxC, qyO, qyL, qyC, rfl, hS, hqx, hqy, hq, hb⟩ := hq9.out
    have HqS := Lib.hid hS; clear hS
    replace hbr := hbr.kept hb
    replace hbz := hbz.kept hb
    replace ho := ho.below hb
    replace hx := hx.below hb
    replace hy := hy.below hb
    replace hv := hv.below hb
    replace hi := hi.below hb
    replace hbf := hbf.trans (hb.mono hbf.size)
    clear hb
    rw [hd.1] at hq
    have er0 := hbr.c0
    have fr0 := hbr.f0
    have er1 := hbr.c1
    have fr1 := hbr.f1
    have er2 := hbr.c2
    have fr2 := hbr.f2
    go_wp2_with fail
    (try rw [hd.2])
    exact end_rc rfl rfl rfl rfl hbr (show w.heap.size ≤ pr by have := HP.out; omega) hq hbf
   case neg =>
    obtain ⟨k, rfl⟩ : ∃ k : Nat, u = -(k : Int) := ⟨u.natAbs, by omega⟩
    have hc : decide ((0 : Int) ≤ -(k : Int)) = false := decide_eq_false (by omega)
    have hd := HDN.out (m) hE2 hF1 HS.out (by simp) k (by omega) HU.out.symm
    clear HUP HDN
    go_wp2_with fail
    refine (rof_any (m) _ hm64).mono ?_
    rintro e w3 ⟨r9, rfl, hx, hb⟩
    replace hbr := hbr.kept hb
    replace hbz := hbz.kept hb
    replace ho := ho.below hb
    replace hbf := hbf.trans (hb.mono hbf.size)
    clear hb
    obtain ⟨xO, xL, xC, rfl⟩ := hx.form
    go_wp2_with fail
    refine (rtwo_any k _ (by omega)).mono ?_
    rintro e w4 ⟨r9, rfl, hy, hb⟩
    replace hbr := hbr.kept hb
    replace hbz := hbz.kept hb
    replace ho := ho.below hb
    replace hx := hx.below hb
    replace hbf := hbf.trans (hb.mono hbf.size)
    clear hb
    obtain ⟨yO, yL, yC, rfl⟩ := hy.form
    go_wp2_with fail
    refine (rmake_any (fneg E F b) _ _ (m) (2 ^ k) _ hx hy (Nat.le_trans (rl9 hm64) (by decide)) (Nat.le_trans (rlp (k := k) (by omega)) (by decide)) (Nat.pow_pos (by decide))).mono ?_
    rintro e w5 hq9
    obtain ⟨qB, qxO, qxL, qxC, qyO, qyL, qyC, rfl, hS, hqx, hqy, hq, hb⟩ := hq9.out
    have HqS := Lib.hid hS; clear hS
    replace hbr := hbr.kept hb
    replace hbz := hbz.kept hb
    replace ho := ho.below hb
    replace hx := hx.below hb
    replace hy := hy.below hb
    replace hbf := hbf.trans (hb.mono hbf.size)
    clear hb
    rw [hd.1] at hq
    have er0 := hbr.c0
    have fr0 := hbr.f0
    have er1 := hbr.c1
    have fr1 := hbr.f1
    have er2 := hbr.c2
    have fr2 := hbr.f2
    go_wp2_with fail
    (try rw [hd.2])
    exact end_rc rfl rfl rfl rfl hbr (show w.heap.size ≤ pr by have := HP.out; omega) hq hbf
  case neg =>
   have hqb : ((q : Int) == 0) = false := by rw [beq_eq_false_iff_ne, ne_eq]; omega
   have hor := or_two hm2 hF
   obtain ⟨u, hu⟩ : ∃ u : Int, u = ((max q 1 : Nat) - (2 ^ (E - 1) - 1 : Nat) - (F : Nat) : Int) := ⟨_, rfl⟩
   have hup := value_exp (F := F) hE2 hE hF he2 ((q : Int)) (by omega)
   have hlo := value_low (F := F) hE2 hE hF he2
   have hhi := value_high (F := F) hE2 hE hF he2
   rw [← hu] at hup hlo hhi
   have HU := Lib.hid hu
   clear hu
   have hm64 : m + 2 ^ F < 18446744073709551616 := by omega
   by_cases hu0 : 0 ≤ u
   case pos =>
    obtain ⟨k, rfl⟩ : ∃ k : Nat, u = (k : Int) := ⟨u.toNat, by omega⟩
    have hc : decide ((0 : Int) ≤ (k : Int)) = true := decide_eq_true (by omega)
    have hl := rl_pow9 (n := m + 2 ^ F) (k := k) hm64 (by omega)
    have hd := HUP.out (m + 2 ^ F) hE2 hF1 HS.out (by rw [if_pos (by omega)]) k HU.out.symm
    clear HUP HDN
    go_wp2_with fail
    refine (rof_any (m + 2 ^ F) _ hm64).mono ?_
    rintro e w3 ⟨r9, rfl, hx, hb⟩
    replace hbr := hbr.kept hb
    replace hbz := hbz.kept hb
    replace ho := ho.below hb
    replace hbf := hbf.trans (hb.mono hbf.size)
    clear hb
    obtain ⟨xO, xL, xC, rfl⟩ := hx.form
    go_wp2_with fail
    refine (rtwo_any k _ (by omega)).mono ?_
    rintro e w4 ⟨r9, rfl, hy, hb⟩
    replace hbr := hbr.kept hb
    replace hbz := hbz.kept hb
    replace ho := ho.below hb
    replace hx := hx.below hb
    replace hbf := hbf.trans (hb.mono hbf.size)
    clear hb
    obtain ⟨yO, yL, yC, rfl⟩ := hy.form
    go_wp2_with fail
    refine (rmul_any _ _ (m + 2 ^ F) (2 ^ k) _ hx hy (Nat.le_trans (rl9 hm64) (by decide)) (Nat.le_trans (rlp (k := k) (by omega)) (by decide))).mono ?_
    rintro e w5 ⟨r9, rfl, hv, hb⟩
    replace hbr := hbr.kept hb
    replace hbz := hbz.kept hb
    replace ho := ho.below hb
    replace hx := hx.below hb
    replace hy := hy.below hb
    replace hbf := hbf.trans (hb.mono hbf.size)
    clear hb
    obtain ⟨vO, vL, vC, rfl⟩ := hv.form
    obtain ⟨w6, hwE⟩ : ∃ W, W = (w5.alloc (.cells #[.int .i64 1] 3)) := ⟨_, rfl⟩
    have hb : Below w5.heap.size w5 w6 := by rw [hwE]; exact ((Below.refl _ w5).alloc (Nat.le_refl _) _)
    obtain ⟨iP, hpi⟩ : ∃ p, p = w5.heap.size := ⟨_, rfl⟩
    have hi : RIs w6 (.slice (some ⟨iP, 0, none⟩) 1 1) 1 := by rw [hwE, hpi]; exact (one_is w5 (x := 1) (by omega) (by omega))
    have HW := Lib.hid hwE; clear hwE
    go_wp2_with fail
    rw [← HW.out, ← hpi]
    clear hpi HW
    replace hbr := hbr.kept hb
    replace hbz := hbz.kept hb
    replace ho := ho.below hb
    replace hx := hx.below hb
    replace hy := hy.below hb
    replace hv := hv.below hb
    replace hbf := hbf.trans (hb.mono hbf.size)
    clear hb
    refine (rmake_any (fneg E F b) _ _ ((m + 2 ^ F) * 2 ^ k) 1 _ hv hi hl (by rw [rlimbs_one]; decide) (by decide)).mono ?_
    rintro e w7 hq9
    obtain ⟨qB, qxO, qxL, qxC, qyO, qyL, qyC, rfl, hS, hqx, hqy, hq, hb⟩ := hq9.out
    have HqS := Lib.hid hS; clear hS
    replace hbr := hbr.kept hb
    replace hbz := hbz.kept hb
    replace ho := ho.below hb
    replace hx := hx.below hb
    replace hy := hy.below hb
    replace hv := hv.below hb
    replace hi := hi.below hb
    replace hbf := hbf.trans (hb.mono hbf.size)
    clear hb
    rw [hd.1] at hq
    have er0 := hbr.c0
    have fr0 := hbr.f0
    have er1 := hbr.c1
    have fr1 := hbr.f1
    have er2 := hbr.c2
    have fr2 := hbr.f2
    go_wp2_with fail
    (try rw [hd.2])
    exact end_rc rfl rfl rfl rfl hbr (show w.heap.size ≤ pr by have := HP.out; omega) hq hbf
   case neg =>
    obtain ⟨k, rfl⟩ : ∃ k : Nat, u = -(k : Int) := ⟨u.natAbs, by omega⟩
    have hc : decide ((0 : Int) ≤ -(k : Int)) = false := decide_eq_false (by omega)
    have hd := HDN.out (m + 2 ^ F) hE2 hF1 HS.out (by rw [if_pos (by omega)]) k (by omega) HU.out.symm
    clear HUP HDN
    go_wp2_with fail
    refine (rof_any (m + 2 ^ F) _ hm64).mono ?_
    rintro e w3 ⟨r9, rfl, hx, hb⟩
    replace hbr := hbr.kept hb
    replace hbz := hbz.kept hb
    replace ho := ho.below hb
    replace hbf := hbf.trans (hb.mono hbf.size)
    clear hb
    obtain ⟨xO, xL, xC, rfl⟩ := hx.form
    go_wp2_with fail
    refine (rtwo_any k _ (by omega)).mono ?_
    rintro e w4 ⟨r9, rfl, hy, hb⟩
    replace hbr := hbr.kept hb
    replace hbz := hbz.kept hb
    replace ho := ho.below hb
    replace hx := hx.below hb
    replace hbf := hbf.trans (hb.mono hbf.size)
    clear hb
    obtain ⟨yO, yL, yC, rfl⟩ := hy.form
    go_wp2_with fail
    refine (rmake_any (fneg E F b) _ _ (m + 2 ^ F) (2 ^ k) _ hx hy (Nat.le_trans (rl9 hm64) (by decide)) (Nat.le_trans (rlp (k := k) (by omega)) (by decide)) (Nat.pow_pos (by decide))).mono ?_
    rintro e w5 hq9
    obtain ⟨qB, qxO, qxL, qxC, qyO, qyL, qyC, rfl, hS, hqx, hqy, hq, hb⟩ := hq9.out
    have HqS := Lib.hid hS; clear hS
    replace hbr := hbr.kept hb
    replace hbz := hbz.kept hb
    replace ho := ho.below hb
    replace hx := hx.below hb
    replace hy := hy.below hb
    replace hbf := hbf.trans (hb.mono hbf.size)
    clear hb
    rw [hd.1] at hq
    have er0 := hbr.c0
    have fr0 := hbr.f0
    have er1 := hbr.c1
    have fr1 := hbr.f1
    have er2 := hbr.c2
    have fr2 := hbr.f2
    go_wp2_with fail
    (try rw [hd.2])
    exact end_rc rfl rfl rfl rfl hbr (show w.heap.size ≤ pr by have := HP.out; omega) hq hbf
end Go.Proofs.YtcpfanpcdkoiaaaGreat

namespace Go.Proofs.YtcpfanpcdkoiaaaGreat
open Go.RowKit


theorem rdecode_s (b : Nat) (k : Int) (q : Rat) (w : World) (hk : Hid (dkind 8 23 b = k)) (hq : Hid (dval' 8 23 b = q)) (hb64 : b < 18446744073709551616) :
  Calls Tryz.prog 163 #[.int .i64 8, .int .i64 23, .int .u64 (b : Int)] w (RQPostC w q k) := by
 have h := rdecode_any 8 23 b w (by decide) (by decide) (by decide) (by decide) hb64
 rwa [hk.out, hq.out] at h
set_option maxHeartbeats 1000000 in
theorem rnumber_any (b : Nat) (k : Int) (q : Rat) (w : World) (hk : Hid (dkind 8 23 b = k)) (hq : Hid (dval' 8 23 b = q)) (hb64 : b < 18446744073709551616) :
  Calls Tryz.prog 139 #[.int .u64 (b : Int)] w (RQPostC w q k) := by
 obtain ⟨w0, hw0⟩ : ∃ w0, w0 = (w.alloc (.cells #[.bool false, .slice none 0 0, .slice none 0 0] 193)) := ⟨_, rfl⟩
 have hbf : Below w.heap.size w w0 := by rw [hw0]; exact ((Below.refl _ w).alloc (Nat.le_refl _) _)
 obtain ⟨pr, hpr⟩ : ∃ p, p = w.heap.size := ⟨_, rfl⟩
 have hbr : Box3 w0 pr (Value.bool false) (Value.slice none 0 0) (Value.slice none 0 0) := by rw [hw0, hpr]; exact ⟨by go_simp, by go_simp, by go_simp, by go_simp, by go_simp, by go_simp⟩
 have HP : Hid (w.heap.size ≤ pr) := Lib.hid (by omega)
 have HW := Lib.hid hw0; clear hw0
 go_enter Tryz.func139, Tryz.ntmps139
 go_upto_region 1 with fail
 rw [← HW.out, ← hpr]
 clear hpr HW
 go_wp2_with fail
 refine (rdecode_s b k q _ hk hq hb64).mono ?_
 rintro e w1 hq9
 obtain ⟨xB, xxO, xxL, xxC, xyO, xyL, xyC, rfl, hS, hxx, hxy, hx, hb⟩ := hq9.out
 have HxS := Lib.hid hS; clear hS
 replace hbr := hbr.kept hb
 replace hbf := hbf.trans (hb.mono hbf.size)
 clear hb
 have er0 := hbr.c0
 have fr0 := hbr.f0
 have er1 := hbr.c1
 have fr1 := hbr.f1
 have er2 := hbr.c2
 have fr2 := hbr.f2
 go_wp2_with fail
 clear er0 fr0 er1 fr1 er2 fr2
 obtain ⟨w2, hwE⟩ : ∃ W, W = ((w1.setCell ⟨pr, 0, none⟩ (Value.bool xB)).setCell ⟨pr, 1, none⟩ (Value.slice xxO xxL xxC)).setCell ⟨pr, 2, none⟩ (Value.slice xyO xyL xyC) := ⟨_, rfl⟩
 rw [← hwE]
 replace hxx := hxx.set3 (u0 := (Value.bool xB)) (u1 := (Value.slice xxO xxL xxC)) (u2 := (Value.slice xyO xyL xyC)) hbr; rw [← hwE] at hxx
 replace hxy := hxy.set3 (u0 := (Value.bool xB)) (u1 := (Value.slice xxO xxL xxC)) (u2 := (Value.slice xyO xyL xyC)) hbr; rw [← hwE] at hxy
 replace hx := hx.set3 (u0 := (Value.bool xB)) (u1 := (Value.slice xxO xxL xxC)) (u2 := (Value.slice xyO xyL xyC)) hbr; rw [← hwE] at hx
 replace hbf := below_set3 (u0 := (Value.bool xB)) (u1 := (Value.slice xxO xxL xxC)) (u2 := (Value.slice xyO xyL xyC)) hbf (show w.heap.size ≤ pr by have := HP.out; omega); rw [← hwE] at hbf
 replace hbr := hbr.set3 (u0 := (Value.bool xB)) (u1 := (Value.slice xxO xxL xxC)) (u2 := (Value.slice xyO xyL xyC)); rw [← hwE] at hbr; clear hwE
 have er0 := hbr.c0
 have er1 := hbr.c1
 have er2 := hbr.c2
 (try go_wp2_with fail)
 exact bodyPost_ret (v := .tuple #[.agg #[.bool xB, .slice xxO xxL xxC, .slice xyO xyL xyC], .int .i64 k]) (by simp [results, Tryz.results139, go_sem, er0, er1, er2]) rfl ⟨_, rfl, hx, hbf⟩
end Go.Proofs.YtcpfanpcdkoiaaaGreat
