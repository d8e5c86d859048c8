import Derived.Test.YtkghahehkeaikaaGreatDoorRefQ
namespace Go.Proofs.YtkghahehkeaikaaGreatDoor
open Go.RowKit
set_option linter.unusedVariables false
set_option linter.unusedSimpArgs false
attribute [local go_sem] field_nat
set_option maxRecDepth 100000 in
set_option maxHeartbeats 1000000 in
/-- Of. -/
theorem rof_any (v : Nat) (w : World) (hv : v < 18446744073709551616) :
    Calls Tryz.prog 48 #[.int .u64 (v : Int)] w fun e w' => ∃ r, e = .returned r ∧ RIs w' r v ∧ Below w.heap.size w w' := by
  have hlen : (rlimbs v).length ≤ 5 := rlimbs_length_le (Nat.lt_of_lt_of_le hv (by decide))
  have HL := Lib.hid hlen; clear hlen
  go_enter Tryz.func48, Tryz.ntmps48
  go_wp2_with fail
  go_loopg [0, 3] v (fun gg nv av wr => ∃ (zs : List Nat), gg ≤ v ∧ nv = .int .u64 (gg : Int) ∧ Owns w.heap.size 3 wr av (ints .i64 zs) ∧ rlimbs v = zs ++ rlimbs gg ∧ Below w.heap.size w wr)
  case atStart => exact ⟨[], Nat.le_refl _, rfl, Owns.nil _ _ _, rfl, Below.refl _ _⟩
  case round =>
    obtain ⟨zs, hle, rfl, ho, hz, hbr⟩ := hrel
    have hzl : zs.length ≤ 5 := by have := HL.out; rw [hz] at this; simp at this; omega
    have HZ := Lib.hid hz; clear hz
    have HLE := Lib.hid hle; clear hle
    by_cases h0 : 0 < gk
    · have hg64 : gk < 18446744073709551616 := by have := HLE.out; omega
      go_wp2_with (at_builtin; refine append1 ER ho rfl rfl rfl rfl rfl (by rw [ints_length]; omega) (by rw [ints_length]; unfold maxLen; omega) hbr.size ?_; intro v5 w5 ho5 hb5 hg5)
      go_roundg (gk / 10000)
      case measure => omega
      case rel =>
        refine ⟨zs ++ [gk % 10000], by have := HLE.out; omega, by go_num, ?_, by rw [HZ.out, rlimbs_pos h0]; simp, hbr.trans hb5⟩
        rw [ints_append]
        refine owns_cast ho5 ?_
        simp [ints]
    · obtain rfl : gk = 0 := by omega
      have hz2 : rlimbs v = zs := by have := HZ.out; rw [rlimbs_zero] at this; simpa using this
      go_wp2
      go_ret
      exact ⟨_, rfl, by show Ints .i64 _ _ (rlimbs v); rw [hz2]; exact ho.toInts, hbr⟩
set_option maxRecDepth 100000 in
set_option maxHeartbeats 1000000 in
/-- Int. -/
theorem rint_any (v : Int) (w : World) (hv1 : -9223372036854775808 ≤ v) (hv2 : v ≤ 9223372036854775807) :
    Calls Tryz.prog 17 #[.int .i64 v] w (RQPost w (v : Rat)) := by
  obtain ⟨w0, hw0⟩ : ∃ w0, w0 = (w.alloc (.cells #[.bool false, .slice none 0 0, .slice none 0 0] 34)) := ⟨_, rfl⟩
  have hbf : Below w.heap.size w w0 := by rw [hw0]; exact ((Below.refl _ w).alloc (Nat.le_refl _) _)
  obtain ⟨pr, hpr⟩ : ∃ p, p = w.heap.size := ⟨_, rfl⟩
  have hbr : Box3 w0 pr (Value.bool false) (Value.slice none 0 0) (Value.slice none 0 0) := by rw [hw0, hpr]; exact ⟨by go_simp, by go_simp, by go_simp, by go_simp, by go_simp, by go_simp⟩
  have HP : Hid (w.heap.size ≤ pr) := Lib.hid (by omega)
  have HW := Lib.hid hw0; clear hw0
  go_enter Tryz.func17, Tryz.ntmps17
  go_upto_region 1 with fail
  rw [← HW.out, ← hpr]
  clear hpr HW
  have h1r : (rlimbs 1).length ≤ 1000000 := by rw [rlimbs_one]; omega
  have hvr : (rlimbs v.natAbs).length ≤ 1000000 := Nat.le_trans (rlimbs_length_le (k := 5) (Nat.lt_of_lt_of_le (show v.natAbs < 18446744073709551616 by omega) (by decide))) (by omega)
  by_cases h0 : v < 0
  case pos =>
    have hE1 : IntKind.i64.wrap (v + 1) = v + 1 := by simp [IntKind.wrap, IntKind.bits, IntKind.signed]; omega
    have hE2 : IntKind.i64.wrap (-(v + 1)) = -(v + 1) := by simp [IntKind.wrap, IntKind.bits, IntKind.signed]; omega
    have hE3 : IntKind.u64.wrap (-(v + 1)) = -(v + 1) := by simp only [IntKind.wrap, IntKind.bits, IntKind.signed, Bool.false_and, Bool.false_eq_true, if_false]; omega
    have hE4 : IntKind.u64.wrap (-(v + 1) + 1) = ((v.natAbs : Nat) : Int) := by simp only [IntKind.wrap, IntKind.bits, IntKind.signed, Bool.false_and, Bool.false_eq_true, if_false]; omega
    go_wp2_with fail
    refine (rof_any v.natAbs _ (by omega)).mono ?_
    rintro e w1 ⟨r9, rfl, hn, hb⟩
    replace hbr := hbr.kept hb
    replace hbf := hbf.trans (hb.mono hbf.size)
    clear hb
    obtain ⟨nO, nL, nC, rfl⟩ := hn.form
    obtain ⟨w2, hwE⟩ : ∃ W, W = (w1.alloc (.cells #[.int .i64 1] 3)) := ⟨_, rfl⟩
    have hb : Below w1.heap.size w1 w2 := by rw [hwE]; exact ((Below.refl _ w1).alloc (Nat.le_refl _) _)
    obtain ⟨oP, hpo⟩ : ∃ p, p = w1.heap.size := ⟨_, rfl⟩
    have ho : RIs w2 (.slice (some ⟨oP, 0, none⟩) 1 1) 1 := by rw [hwE, hpo]; exact (one_is w1 (x := 1) (by omega) (by omega))
    have HW := Lib.hid hwE; clear hwE
    go_wp2_with fail
    rw [← HW.out, ← hpo]
    clear hpo HW
    replace hbr := hbr.kept hb
    replace hn := hn.below hb
    replace hbf := hbf.trans (hb.mono hbf.size)
    clear hb
    refine (rmake_any true _ _ v.natAbs 1 _ hn ho hvr h1r (by decide)).mono ?_
    rintro e w3 hq9
    obtain ⟨qB, qxO, qxL, qxC, qyO, qyL, qyC, rfl, hS, hqx, hqy, hq, hb⟩ := hq9.out
    have HqS := Lib.hid hS; clear hS
    replace hbr := hbr.kept hb
    replace hn := hn.below hb
    replace ho := ho.below hb
    replace hbf := hbf.trans (hb.mono hbf.size)
    clear hb
    rw [of_neg v h0] at hq
    have er0 := hbr.c0
    have fr0 := hbr.f0
    have er1 := hbr.c1
    have fr1 := hbr.f1
    have er2 := hbr.c2
    have fr2 := hbr.f2
    go_wp2_with fail
    exact end_r rfl rfl rfl hbr (show w.heap.size ≤ pr by have := HP.out; omega) hq hbf
  have hE : IntKind.u64.wrap v = ((v.natAbs : Nat) : Int) := by simp only [IntKind.wrap, IntKind.bits, IntKind.signed, Bool.false_and, Bool.false_eq_true, if_false]; omega
  go_wp2_with fail
  refine (rof_any v.natAbs _ (by omega)).mono ?_
  rintro e w1 ⟨r9, rfl, hn, hb⟩
  replace hbr := hbr.kept hb
  replace hbf := hbf.trans (hb.mono hbf.size)
  clear hb
  obtain ⟨nO, nL, nC, rfl⟩ := hn.form
  obtain ⟨w2, hwE⟩ : ∃ W, W = (w1.alloc (.cells #[.int .i64 1] 3)) := ⟨_, rfl⟩
  have hb : Below w1.heap.size w1 w2 := by rw [hwE]; exact ((Below.refl _ w1).alloc (Nat.le_refl _) _)
  obtain ⟨oP, hpo⟩ : ∃ p, p = w1.heap.size := ⟨_, rfl⟩
  have ho : RIs w2 (.slice (some ⟨oP, 0, none⟩) 1 1) 1 := by rw [hwE, hpo]; exact (one_is w1 (x := 1) (by omega) (by omega))
  have HW := Lib.hid hwE; clear hwE
  go_wp2_with fail
  rw [← HW.out, ← hpo]
  clear hpo HW
  replace hbr := hbr.kept hb
  replace hn := hn.below hb
  replace hbf := hbf.trans (hb.mono hbf.size)
  clear hb
  refine (rmake_any false _ _ v.natAbs 1 _ hn ho hvr h1r (by decide)).mono ?_
  rintro e w3 hq9
  obtain ⟨qB, qxO, qxL, qxC, qyO, qyL, qyC, rfl, hS, hqx, hqy, hq, hb⟩ := hq9.out
  have HqS := Lib.hid hS; clear hS
  replace hbr := hbr.kept hb
  replace hn := hn.below hb
  replace ho := ho.below hb
  replace hbf := hbf.trans (hb.mono hbf.size)
  clear hb
  rw [of_pos v (by omega)] at hq
  have er0 := hbr.c0
  have fr0 := hbr.f0
  have er1 := hbr.c1
  have fr1 := hbr.f1
  have er2 := hbr.c2
  have fr2 := hbr.f2
  go_wp2_with fail
  exact end_r rfl rfl rfl hbr (show w.heap.size ≤ pr by have := HP.out; omega) hq hbf
theorem str3 : str (dec 3) = [51] := str_dec (l := [51]) (by decide)
theorem str2 : str (dec 2) = [50] := str_dec (l := [50]) (by decide)
theorem str5 : str (dec 5) = [53] := str_dec (l := [53]) (by decide)
theorem str7 : str (dec 7) = [55] := str_dec (l := [55]) (by decide)
theorem qt_a : qtext (qOf true 6 4) = [45, 51, 47, 50] := by
  unfold qtext
  rw [show decide (qOf true 6 4 < 0) = true by decide, show (qOf true 6 4).num.natAbs = 3 by decide, show (qOf true 6 4).den = 2 by decide, str3, str2]; rfl
theorem qt_b : qtext (qOf true 5 2) = [45, 53, 47, 50] := by
  unfold qtext
  rw [show decide (qOf true 5 2 < 0) = true by decide, show (qOf true 5 2).num.natAbs = 5 by decide, show (qOf true 5 2).den = 2 by decide, str5, str2]; rfl
theorem qt_c : qtext (qround (qOf true 5 2)) = [45, 51] := by
  have h : qround (qOf true 5 2) = qOf true 3 1 := by
    unfold qround
    rw [show decide (qOf true 5 2 < 0) = true by decide, show (qOf true 5 2).num.natAbs = 5 by decide, show (qOf true 5 2).den = 2 by decide]
  rw [h]
  unfold qtext
  rw [show decide (qOf true 3 1 < 0) = true by decide, show (qOf true 3 1).num.natAbs = 3 by decide, show (qOf true 3 1).den = 1 by decide, str3]; rfl
theorem qt_d : qtext ((-7 : Int) : Rat) = [45, 55] := by
  rw [← of_neg (-7) (by decide)]
  unfold qtext
  rw [show decide (qOf true (-7 : Int).natAbs 1 < 0) = true by decide, show (qOf true (-7 : Int).natAbs 1).num.natAbs = 7 by decide, show (qOf true (-7 : Int).natAbs 1).den = 1 by decide, str7]; rfl
theorem qt_z : qtext 0 = [48] := by
  unfold qtext
  rw [show decide ((0 : Rat) < 0) = false by decide, show (0 : Rat).num.natAbs = 0 by decide, show (0 : Rat).den = 1 by decide, str_dec_zero]; rfl
theorem dec_small {n : Nat} (h : n < 10) : (dec n).length ≤ 1200 := Nat.le_trans (dec_le (k := 1) (by omega) (by decide)) (by omega)
theorem qp_b : qcode [45, 53, 47, 50] = 0 ∧ qval [45, 53, 47, 50] = qOf true 5 2 := by
  rw [← qt_b]
  exact qparse_text _ (dec_small (by decide)) (dec_small (by decide))
theorem QB.small {neg : Bool} {n d k : Nat} (hn : n < 4294967296) (hd : d < 4294967296) (h0 : 0 < d) (hk : 1 ≤ k) : QB (qOf neg n d) k := QB.of _ (limbs_bound hn hk) (limbs_bound hd hk) h0
theorem QB.int {v : Int} {k : Nat} (h : v.natAbs < 18446744073709551616) (hk : 2 ≤ k) : QB (v : Rat) k := by
  have hl : (limbs v.natAbs).length ≤ k := Nat.le_trans (limbs_length_le (k := 2) (by omega)) hk
  rcases (show v < 0 ∨ 0 ≤ v by omega) with h0 | h0
  · rw [← of_neg v h0]; exact QB.of _ hl (limbs_bound (by decide) (by omega)) (by decide)
  · rw [← of_pos v h0]; exact QB.of _ hl (limbs_bound (by decide) (by omega)) (by decide)
theorem of_six (w : World) : Calls Tryz.prog 23 #[.int .u64 6] w fun e w' => ∃ r, e = .returned r ∧ NatIs w' r 6 ∧ Below w.heap.size w w' := of_any 6 w (by decide)
theorem of_four (w : World) : Calls Tryz.prog 23 #[.int .u64 4] w fun e w' => ∃ r, e = .returned r ∧ NatIs w' r 4 ∧ Below w.heap.size w w' := of_any 4 w (by decide)
theorem lim1 {n : Nat} (h : n < 4294967296) : (limbs n).length ≤ 1000000 := limbs_bound h (by omega)
end Go.Proofs.YtkghahehkeaikaaGreatDoor
