/-
  Forms of numbers (5): the alive and the form of law 4.
-/
import Derived.Test.YtanicapbdigjaaaGreatDoorIeeeD
import Derived.Test.YtanicapbdigjaaaGreatDoorRatD
namespace Go.Proofs.YtanicapbdigjaaaGreatDoor
open Go.RowKit
set_option linter.unusedVariables false
set_option linter.unusedSimpArgs false
attribute [local go_sem] field_nat

/-! Bits of ints. -/
theorem and_i64 (x : Int) (m : Nat) (hm : m < 9223372036854775808) : bits .and .i64 x (m : Int) = (((x % 18446744073709551616).toNat &&& m : Nat) : Int) := by
  obtain ⟨a, ha⟩ := Int.eq_ofNat_of_zero_le (Int.emod_nonneg x (show (18446744073709551616 : Int) ≠ 0 by decide))
  have hlt : a < 18446744073709551616 := by omega
  have e : BitVec.ofInt 64 x = BitVec.ofInt 64 (a : Int) := by
    apply BitVec.eq_of_toInt_eq
    simp only [BitVec.toInt_ofInt, Int.bmod_def]
    omega
  have e1 : bits .and .i64 x (m : Int) = IntKind.i64.wrap (bits .and .u64 (a : Int) (m : Int)) := by
    simp only [bits, IntKind.bits] at *
    rw [e]
    congr 1
    have h9 := (BitVec.ofInt 64 (a : Int) &&& BitVec.ofInt 64 (m : Int)).isLt
    exact (IntWalk.u64_in _ ⟨by omega, by omega⟩).symm
  rw [e1, ha, bits_and_u64_nat a m hlt (by omega)]
  have h9 : a &&& m ≤ m := Nat.and_le_right
  exact IntWalk.i64_in _ ⟨by omega, by omega⟩
theorem and_low_i (x : Int) (k : Nat) (hk : k < 63) : bits .and .i64 x ((2 ^ k - 1 : Nat) : Int) = x % ((2 ^ k : Nat) : Int) := by
  have h : 2 ^ k ≤ 2 ^ 62 := Nat.pow_le_pow_right (by decide) (by omega)
  rw [and_i64 x _ (by omega), Nat.and_two_pow_sub_one_eq_mod, Int.natCast_emod, Int.toNat_of_nonneg (Int.emod_nonneg _ (by decide))]
  exact Int.emod_emod_of_dvd x (by
    rw [show (18446744073709551616 : Int) = ((2 ^ 64 : Nat) : Int) by rfl]
    exact Int.natCast_dvd_natCast.2 (Nat.pow_dvd_pow 2 (by omega)))
theorem and_three (x : Int) : bits .and .i64 x 3 = x % 4 := and_low_i x 2 (by decide)
theorem and_seven (x : Int) : bits .and .i64 x 7 = x % 8 := and_low_i x 3 (by decide)
theorem and_two_i (x : Int) : bits .and .i64 x 2 = 0 ∨ bits .and .i64 x 2 = 2 := by
  have h : bits .and .i64 x 2 = (((x % 18446744073709551616).toNat &&& 2 : Nat) : Int) := and_i64 x 2 (by decide)
  have h2 : ∀ a : Nat, a &&& 2 = 0 ∨ a &&& 2 = 2 := by
    intro a
    have h3 : a &&& 2 = (a.testBit 1).toNat * 2 := by
      apply Nat.eq_of_testBit_eq
      intro i
      rw [show 2 = 2 ^ 1 by rfl, Nat.testBit_and, Nat.testBit_two_pow]
      by_cases hi : 1 = i
      · subst hi
        cases a.testBit 1 <;> decide
      · rw [decide_eq_false hi, Bool.and_false]
        cases a.testBit 1
        · simp
        · rw [show true.toNat * 2 ^ 1 = 2 ^ 1 by rfl, Nat.testBit_two_pow, decide_eq_false hi]
    rw [h3]
    cases a.testBit 1 <;> simp
  rw [h]
  rcases h2 (x % 18446744073709551616).toNat with h3 | h3 <;> rw [h3]
  · exact .inl rfl
  · exact .inr rfl
theorem wf_u64 {a : Int} (h : (Lit.int .u64 a).wf = true) : 0 ≤ a ∧ a < 18446744073709551616 := by
  simp [Lit.wf, IntKind.min, IntKind.max, IntKind.signed, IntKind.bits] at h; omega
theorem wf_i64 {a : Int} (h : (Lit.int .i64 a).wf = true) : -9223372036854775808 ≤ a ∧ a ≤ 9223372036854775807 := by
  simp [Lit.wf, IntKind.min, IntKind.max, IntKind.signed, IntKind.bits] at h; omega
theorem fsgn_63 {E F : Nat} (hE : E ≤ 11) (hF : F ≤ 52) : fsgn E F ≤ 9223372036854775808 := by
  have : 2 ^ (E + F) ≤ 2 ^ 63 := Nat.pow_le_pow_right (by decide) (by omega)
  unfold fsgn; omega
theorem under_of {E F n : Nat} {r : Rat} (h1 : n < finf E F) (h2 : fval E F n ≤ r) (h3 : n + 1 < finf E F → r < fval E F (n + 1)) : Under E F r n :=
  ⟨h1, h2, fun m hm hI => Std.lt_of_lt_of_le (h3 (by omega)) (fval_le.2 hm)⟩
/-! What the first call sees. -/
theorem al_val : dval' 8 23 1069547520 = (3 : Rat) / 2 ∧ dkind 8 23 1069547520 = 1 := ⟨by decide +kernel, by decide +kernel⟩
theorem al_text : qtext ((3 : Rat) / 2) = [51, 47, 50] := by decide +kernel
theorem al_under : Under 8 23 (qabs (qOf false 1 10)) 1036831948 := under_of (by decide +kernel) (by decide +kernel) (fun _ => by decide +kernel)
theorem al_near : 1036831949 = fnear 8 23 (qOf false 1 10) 1036831948 := by decide +kernel
theorem decode_al (w : World) : Calls Tryz.prog 18 #[formV 8 23, .int .u64 1069547520] w (QPostC w ((3 : Rat) / 2) 1) := by
  have h := decode_any 8 23 1069547520 w (by decide) (by decide) (by decide) (by decide) (by decide)
  rwa [al_val.1, al_val.2] at h
theorem near_al (v : Value) (w : World) (h : QIs w v (qOf false 1 10)) : Calls Tryz.prog 12 #[formV 8 23, v] w fun e w' => e = .returned (.int .u64 1036831949) ∧ Below w.heap.size w w' :=
  nearest_any 8 23 1036831948 1 v _ w 1036831949 (Lib.hid al_near) (by decide) (by decide) (by decide) (by decide) h (QB.of _ (limbs_bound (by decide) (by decide)) (limbs_bound (by decide) (by decide)) (by decide)) (by decide) al_under
theorem of_ten (w : World) : Calls Tryz.prog 20 #[.int .u64 10] w fun e w' => ∃ r, e = .returned r ∧ NatIs w' r 10 ∧ Below w.heap.size w w' := of_any 10 w (by decide)
theorem lim9 {n : Nat} (h : n < 4294967296) : (limbs n).length ≤ 1000000 := limbs_bound h (by omega)
theorem q32_b : QB ((3 : Rat) / 2) 100000 := ⟨limbs_bound (by decide +kernel) (by decide), limbs_bound (by decide +kernel) (by decide)⟩
theorem text_al (v : Value) (w : World) (h : QIs w v ((3 : Rat) / 2)) : Calls Tryz.prog 21 #[v] w fun e w' => e = .returned (.string ⟨#[51, 47, 50]⟩) ∧ Below w.heap.size w w' := by
  have h2 := qtext_any v _ w h q32_b
  rwa [al_text] at h2

set_option maxRecDepth 100000 in
set_option maxHeartbeats 1000000 in
/-- alive. -/
theorem alive4_any (w : World) : Calls Tryz.prog 6 #[] w fun e w' => e = .returned (.bool true) ∧ Below w.heap.size w w' := by
  go_enter Tryz.func6, Tryz.ntmps6
  go_wp2_with fail
  refine (single_any _).mono ?_
  rintro e w1 ⟨rfl, hb⟩
  have hbf := hb
  clear hb
  go_wp2_with fail
  refine (decode_al _).mono ?_
  rintro e w2 hq9
  obtain ⟨xB, xxO, xxL, xxC, xyO, xyL, xyC, rfl, hS, hxx, hxy, hx, hb⟩ := hq9.out
  have HxS := Lib.hid hS; clear hS
  replace hbf := hbf.trans (hb.mono hbf.size)
  clear hb
  obtain ⟨w3, hwE⟩ : ∃ W, W = (w2.alloc (.cells #[.bool xB, .slice xxO xxL xxC, .slice xyO xyL xyC] 30)) := ⟨_, rfl⟩
  have hb : Below w2.heap.size w2 w3 := by rw [hwE]; exact ((Below.refl _ w2).alloc (Nat.le_refl _) _)
  obtain ⟨pr, hpr⟩ : ∃ p, p = w2.heap.size := ⟨_, rfl⟩
  have hbr : Box3 w3 pr (Value.bool xB) (Value.slice xxO xxL xxC) (Value.slice xyO xyL xyC) := by rw [hwE, hpr]; exact ⟨by go_simp, by go_simp, by go_simp, by go_simp, by go_simp, by go_simp⟩
  have HP : Hid (w.heap.size ≤ pr) := Lib.hid (by have h9 := hbf.size; omega)
  have HW := Lib.hid hwE; clear hwE
  go_upto_region 2 with fail
  rw [← HW.out, ← hpr]
  clear hpr HW
  replace hxx := hxx.below hb
  replace hxy := hxy.below hb
  replace hx := hx.below hb
  replace hbf := hbf.trans (hb.mono hbf.size)
  clear hb
  go_wp2_with fail
  refine (of_one _).mono ?_
  rintro e w4 ⟨r9, rfl, h1, hb⟩
  replace hbr := hbr.kept hb
  replace hxx := hxx.below hb
  replace hxy := hxy.below hb
  replace hx := hx.below hb
  replace hbf := hbf.trans (hb.mono hbf.size)
  clear hb
  obtain ⟨oO, oL, oC, rfl⟩ := h1.form
  go_wp2_with fail
  refine (of_ten _).mono ?_
  rintro e w5 ⟨r9, rfl, h0, hb⟩
  replace hbr := hbr.kept hb
  replace hxx := hxx.below hb
  replace hxy := hxy.below hb
  replace hx := hx.below hb
  replace h1 := h1.below hb
  replace hbf := hbf.trans (hb.mono hbf.size)
  clear hb
  obtain ⟨zO, zL, zC, rfl⟩ := h0.form
  go_wp2_with fail
  refine (make_ok false _ _ 1 10 _ h1 h0 (lim9 (by decide)) (lim9 (by decide)) (by decide)).mono ?_
  rintro e w6 hq9
  obtain ⟨mB, mxO, mxL, mxC, myO, myL, myC, rfl, hS, hmx, hmy, hm, hb⟩ := hq9.out
  have HmS := Lib.hid hS; clear hS
  replace hbr := hbr.kept hb
  replace hxx := hxx.below hb
  replace hxy := hxy.below hb
  replace hx := hx.below hb
  replace h1 := h1.below hb
  replace h0 := h0.below hb
  replace hbf := hbf.trans (hb.mono hbf.size)
  clear hb
  obtain ⟨w7, hwE⟩ : ∃ W, W = (w6.alloc (.cells #[.bool mB, .slice mxO mxL mxC, .slice myO myL myC] 30)) := ⟨_, rfl⟩
  have hb : Below w6.heap.size w6 w7 := by rw [hwE]; exact ((Below.refl _ w6).alloc (Nat.le_refl _) _)
  obtain ⟨pv, hpv⟩ : ∃ p, p = w6.heap.size := ⟨_, rfl⟩
  have hbv : Box3 w7 pv (Value.bool mB) (Value.slice mxO mxL mxC) (Value.slice myO myL myC) := by rw [hwE, hpv]; exact ⟨by go_simp, by go_simp, by go_simp, by go_simp, by go_simp, by go_simp⟩
  replace HP : Hid (w.heap.size ≤ pr ∧ pr < pv) := Lib.hid (by have h1 := HP.out; have h9 := hbf.size; have h2r := hbr.lt; omega)
  have HW := Lib.hid hwE; clear hwE
  go_upto_region 3 with fail
  rw [← HW.out, ← hpv]
  clear hpv HW
  replace hbr := hbr.kept hb
  replace hxx := hxx.below hb
  replace hxy := hxy.below hb
  replace hx := hx.below hb
  replace h1 := h1.below hb
  replace h0 := h0.below hb
  replace hmx := hmx.below hb
  replace hmy := hmy.below hb
  replace hm := hm.below hb
  replace hbf := hbf.trans (hb.mono hbf.size)
  clear hb
  refine wp_region_seqQ (S := fun w' => Box3 w' pr (Value.bool xB) (Value.slice xxO xxL xxC) (Value.slice xyO xyL xyC) ∧ Box3 w' pv (Value.bool mB) (Value.slice mxO mxL mxC) (Value.slice myO myL myC)) [(0, 4, some 16), (1, 65536, some 17), (2, 131072, some 18), (4, 262146, some 19), (12, 786432, some 20), (20, 1310720, some 21), (36, 2359296, some 22), (80, 4194304, some 23), (128, 8388608, some 24), (128, 8388616, some 25), (896, 58720256, some 26), (1152, 75497472, some 27), (2176, 142606336, some 28), (5120, 268435456, some 29), (8192, 536870912, some 30), (8192, 536870912, some 31), (57344, 3758096384, some 32), (73728, 4831838208, some 33), (262143, 8589934592, some 0)] [(true, 0), (true, 1), (true, 2), (true, 3), (false, 4), (true, 5), (true, 6), (true, 7), (true, 9), (false, 8), (false, 10), (true, 11), (true, 12), (true, 13), (true, 15), (false, 14), (true, 16), (true, 17), (true, 18)] (by kernel_rfl) (by kernel_rfl) (by kernel_rfl) (by kernel_rfl) (by kernel_rfl) (by kernel_rfl) (fun d _ _ _ _ h => by cases d <;> exact h) ⟨hbr.drew, hbv.drew⟩ (fun _ => ?_)
  simp only [pickOps, List.append_eq, List.cons_append, List.nil_append, List.getElem?_toArray, List.getElem?_cons_succ, List.getElem?_cons_zero]
  have hb : Below w7.heap.size w7 w7.drew := (Below.refl _ _).drew
  generalize w7.drew = w8 at hb ⊢
  replace hbr := hbr.kept hb
  replace hbv := hbv.kept hb
  replace hxx := hxx.below hb
  replace hxy := hxy.below hb
  replace hx := hx.below hb
  replace h1 := h1.below hb
  replace h0 := h0.below hb
  replace hmx := hmx.below hb
  replace hmy := hmy.below hb
  replace hm := hm.below hb
  replace hbf := hbf.trans (hb.mono hbf.size)
  clear hb
  repeat (first | (refine seq_take (v := ?_) (by rfl) ?_ ?_; rotate_left; (· intro w hSw; (try dsimp only at hSw); obtain ⟨⟨er0, er1, er2, _, _, _⟩, ⟨ev0, ev1, ev2, _, _, _⟩⟩ := hSw; go_simp; all_goals with_reducible rfl); (try simp only [Act.put, List.setIfInBounds_toArray, List.set_cons_zero, List.set_cons_succ])) | (refine seq_leave (by rfl) ?_; (try simp only [Act.put, List.setIfInBounds_toArray, List.set_cons_zero, List.set_cons_succ])))
  refine seq_step (by rfl) (fun K hK => ?_)
  go_simp
  go_at_call 21
  (with_reducible refine (text_al _ _ hx).mono ?_)
  rintro e w9 ⟨rfl, hb⟩
  replace hbr := hbr.kept hb
  replace hbv := hbv.kept hb
  replace hxx := hxx.below hb
  replace hxy := hxy.below hb
  replace hx := hx.below hb
  replace h1 := h1.below hb
  replace h0 := h0.below hb
  replace hmx := hmx.below hb
  replace hmy := hmy.below hb
  replace hm := hm.below hb
  replace hbf := hbf.trans (hb.mono hbf.size)
  clear hb
  first | refine hK.out _ _ ⟨hbr, hbv⟩ (fun _ => ?_) | (go_wp2_with fail; refine hK.out _ _ ⟨hbr, hbv⟩ (fun _ => ?_))
  clear hK K
  (try simp only [Act.put, List.setIfInBounds_toArray, List.set_cons_zero, List.set_cons_succ])
  repeat (first | (refine seq_take (v := ?_) (by rfl) ?_ ?_; rotate_left; (· intro w hSw; (try dsimp only at hSw); obtain ⟨⟨er0, er1, er2, _, _, _⟩, ⟨ev0, ev1, ev2, _, _, _⟩⟩ := hSw; go_simp; all_goals with_reducible rfl); (try simp only [Act.put, List.setIfInBounds_toArray, List.set_cons_zero, List.set_cons_succ])) | (refine seq_leave (by rfl) ?_; (try simp only [Act.put, List.setIfInBounds_toArray, List.set_cons_zero, List.set_cons_succ])))
  refine seq_step (by rfl) (fun K hK => ?_)
  go_simp
  go_at_call 17
  (with_reducible refine (single_any _).mono ?_)
  rintro e w10 ⟨rfl, hb⟩
  replace hbr := hbr.kept hb
  replace hbv := hbv.kept hb
  replace hxx := hxx.below hb
  replace hxy := hxy.below hb
  replace hx := hx.below hb
  replace h1 := h1.below hb
  replace h0 := h0.below hb
  replace hmx := hmx.below hb
  replace hmy := hmy.below hb
  replace hm := hm.below hb
  replace hbf := hbf.trans (hb.mono hbf.size)
  clear hb
  first | refine hK.out _ _ ⟨hbr, hbv⟩ (fun _ => ?_) | (go_wp2_with fail; refine hK.out _ _ ⟨hbr, hbv⟩ (fun _ => ?_))
  clear hK K
  (try simp only [Act.put, List.setIfInBounds_toArray, List.set_cons_zero, List.set_cons_succ])
  refine seq_step (by rfl) (fun K hK => ?_)
  go_simp
  go_at_call 12
  (with_reducible refine (near_al _ _ hm).mono ?_)
  rintro e w11 ⟨rfl, hb⟩
  replace hbr := hbr.kept hb
  replace hbv := hbv.kept hb
  replace hxx := hxx.below hb
  replace hxy := hxy.below hb
  replace hx := hx.below hb
  replace h1 := h1.below hb
  replace h0 := h0.below hb
  replace hmx := hmx.below hb
  replace hmy := hmy.below hb
  replace hm := hm.below hb
  replace hbf := hbf.trans (hb.mono hbf.size)
  clear hb
  first | refine hK.out _ _ ⟨hbr, hbv⟩ (fun _ => ?_) | (go_wp2_with fail; refine hK.out _ _ ⟨hbr, hbv⟩ (fun _ => ?_))
  clear hK K
  (try simp only [Act.put, List.setIfInBounds_toArray, List.set_cons_zero, List.set_cons_succ])
  repeat (first | (refine seq_take (v := ?_) (by rfl) ?_ ?_; rotate_left; (· intro w hSw; (try dsimp only at hSw); obtain ⟨⟨er0, er1, er2, _, _, _⟩, ⟨ev0, ev1, ev2, _, _, _⟩⟩ := hSw; go_simp; all_goals with_reducible rfl); (try simp only [Act.put, List.setIfInBounds_toArray, List.set_cons_zero, List.set_cons_succ])) | (refine seq_leave (by rfl) ?_; (try simp only [Act.put, List.setIfInBounds_toArray, List.set_cons_zero, List.set_cons_succ])))
  refine seq_step (by rfl) (fun K hK => ?_)
  go_simp
  go_at_call 22
  (with_reducible refine (double_any _).mono ?_)
  rintro e w12 ⟨rfl, hb⟩
  replace hbr := hbr.kept hb
  replace hbv := hbv.kept hb
  replace hxx := hxx.below hb
  replace hxy := hxy.below hb
  replace hx := hx.below hb
  replace h1 := h1.below hb
  replace h0 := h0.below hb
  replace hmx := hmx.below hb
  replace hmy := hmy.below hb
  replace hm := hm.below hb
  replace hbf := hbf.trans (hb.mono hbf.size)
  clear hb
  first | refine hK.out _ _ ⟨hbr, hbv⟩ (fun _ => ?_) | (go_wp2_with fail; refine hK.out _ _ ⟨hbr, hbv⟩ (fun _ => ?_))
  clear hK K
  (try simp only [Act.put, List.setIfInBounds_toArray, List.set_cons_zero, List.set_cons_succ])
  repeat (first | (refine seq_take (v := ?_) (by rfl) ?_ ?_; rotate_left; (· intro w hSw; (try dsimp only at hSw); obtain ⟨⟨er0, er1, er2, _, _, _⟩, ⟨ev0, ev1, ev2, _, _, _⟩⟩ := hSw; go_simp; all_goals with_reducible rfl); (try simp only [Act.put, List.setIfInBounds_toArray, List.set_cons_zero, List.set_cons_succ])) | (refine seq_leave (by rfl) ?_; (try simp only [Act.put, List.setIfInBounds_toArray, List.set_cons_zero, List.set_cons_succ])))
  refine seq_end ?_
  go_wp2_with fail
  go_ret
  exact ⟨rfl, hbf⟩

/-- The form that is looked at. -/
def formE (how x : Int) : Int := if how % 4 = 0 then 8 else if how % 4 = 1 then x else if how % 4 = 2 then 4 else 2 + x % 4
def formF (how y : Int) : Int := if how % 4 = 0 then 23 else if how % 4 = 1 then y else if how % 4 = 2 then 3 else 1 + y % 8

set_option maxRecDepth 100000 in
set_option maxHeartbeats 1000000 in
/-- form. -/
theorem form_any (how x y : Int) (w : World) : Calls Tryz.prog 4 #[.int .i64 how, .int .i64 x, .int .i64 y] w fun e w' => e = .returned (formV (formE how x) (formF how y)) ∧ Below w.heap.size w w' := by
  obtain ⟨w0, hw0⟩ : ∃ w0, w0 = (w.alloc (.cells #[.int .i64 0, .int .i64 0] 23)) := ⟨_, rfl⟩
  have hbf : Below w.heap.size w w0 := by rw [hw0]; exact ((Below.refl _ w).alloc (Nat.le_refl _) _)
  obtain ⟨pr, hpr⟩ : ∃ p, p = w.heap.size := ⟨_, rfl⟩
  have hbr : Box2 w0 pr (Value.int .i64 0) (Value.int .i64 0) := by rw [hw0, hpr]; exact ⟨by go_simp, by go_simp, by go_simp, by go_simp⟩
  have HP : Hid (w.heap.size ≤ pr) := Lib.hid (by omega)
  have HW := Lib.hid hw0; clear hw0
  go_enter Tryz.func4, Tryz.ntmps4
  go_upto_region 1 with fail
  rw [← HW.out, ← hpr]
  clear hpr HW
  have h3 := and_three how
  have h3a := and_three x
  have h7 := and_seven y
  have hx4 : 0 ≤ x % 4 ∧ x % 4 < 4 := by omega
  have hy8 : 0 ≤ y % 8 ∧ y % 8 < 8 := by omega
  have hw4 : how % 4 = 0 ∨ how % 4 = 1 ∨ how % 4 = 2 ∨ how % 4 = 3 := by omega
  rcases hw4 with hw | hw | hw | hw
  · rw [hw] at h3
    have er0 := hbr.c0
    have fr0 := hbr.f0
    have er1 := hbr.c1
    have fr1 := hbr.f1
    go_wp2_with fail
    refine (single_any _).mono ?_
    rintro e w1 ⟨rfl, hb⟩
    clear er0 fr0 er1 fr1
    replace hbr := hbr.kept hb
    replace hbf := hbf.trans (hb.mono hbf.size)
    clear hb
    have er0 := hbr.c0
    have fr0 := hbr.f0
    have er1 := hbr.c1
    have fr1 := hbr.f1
    go_wp2_with fail
    rw [show formE how x = 8 by unfold formE; rw [hw]; rfl, show formF how y = 23 by unfold formF; rw [hw]; rfl]
    exact end_form rfl rfl rfl hbr (show w.heap.size ≤ pr by have := HP.out; omega) hbf
  · rw [hw] at h3
    have er0 := hbr.c0
    have fr0 := hbr.f0
    have er1 := hbr.c1
    have fr1 := hbr.f1
    go_wp2_with fail
    rw [show formE how x = x by unfold formE; rw [hw]; rfl, show formF how y = y by unfold formF; rw [hw]; rfl]
    exact end_form rfl rfl rfl hbr (show w.heap.size ≤ pr by have := HP.out; omega) hbf
  · rw [hw] at h3
    have er0 := hbr.c0
    have fr0 := hbr.f0
    have er1 := hbr.c1
    have fr1 := hbr.f1
    go_wp2_with fail
    rw [show formE how x = 4 by unfold formE; rw [hw]; rfl, show formF how y = 3 by unfold formF; rw [hw]; rfl]
    exact end_form rfl rfl rfl hbr (show w.heap.size ≤ pr by have := HP.out; omega) hbf
  · rw [hw] at h3
    have er0 := hbr.c0
    have fr0 := hbr.f0
    have er1 := hbr.c1
    have fr1 := hbr.f1
    go_wp2_with fail
    rw [show formE how x = 2 + x % 4 by unfold formE; rw [hw]; rfl, show formF how y = 1 + y % 8 by unfold formF; rw [hw]; rfl]
    exact end_form rfl rfl rfl hbr (show w.heap.size ≤ pr by have := HP.out; omega) hbf

end Go.Proofs.YtanicapbdigjaaaGreatDoor
