/-
  Pk16: IeeeA (what is needed of them).
-/
import Derived.Test.YtcpfanpcdkoiaaaGreatPk12
import Derived.Test.YtcpfanpcdkoiaaaGreatPk15
set_option maxRecDepth 100000
set_option linter.unusedVariables false
set_option linter.unusedSimpArgs false

namespace Go.Proofs.YtcpfanpcdkoiaaaGreat
open Go.RowKit


attribute [local go_sem] field_nat
def fsgn (E F : Nat) : Nat := 2 ^ (E + F)
def fsize (E F b : Nat) : Nat := b % 2 ^ (E + F)
def fneg (E F b : Nat) : Bool := b.testBit (E + F)
theorem fsgn_lt {E F : Nat} (hE : E ≤ 11) (hF : F ≤ 52) : fsgn E F < 18446744073709551616 := by
 have : 2 ^ (E + F) ≤ 2 ^ 63 := Nat.pow_le_pow_right (by decide) (by omega)
 unfold fsgn; omega
theorem wrap_fsgn {E F : Nat} (hE : E ≤ 11) (hF : F ≤ 52) : IntKind.u64.wrap (2 ^ (E + F)) = (fsgn E F : Int) := by
 have h := fsgn_lt hE hF
 have e : (2 : Int) ^ (E + F) = (fsgn E F : Int) := by unfold fsgn; simp
 rw [e]; exact IntWalk.u64_in _ (by omega)
theorem wrap_finf {E F : Nat} (hE : E ≤ 11) (hF : F ≤ 52) : IntKind.u64.wrap (IntKind.u64.wrap (IntKind.u64.wrap (2 ^ E) - 1) * 2 ^ F) = (finf E F : Int) := by
 have h := finf_lt E F
 have h9 := fsgn_lt hE hF
 have hE2 : 2 ^ E ≤ 2 ^ 11 := Nat.pow_le_pow_right (by decide) hE
 have hE3 : 0 < 2 ^ E := Nat.pow_pos (by decide)
 have e : (2 : Int) ^ E = ((2 ^ E : Nat) : Int) := by simp
 have e1 : IntKind.u64.wrap (2 ^ E) = ((2 ^ E : Nat) : Int) := by rw [e]; exact IntWalk.u64_in _ (by omega)
 have e2 : IntKind.u64.wrap (((2 ^ E : Nat) : Int) - 1) = ((2 ^ E - 1 : Nat) : Int) := by
  rw [show ((2 ^ E : Nat) : Int) - 1 = ((2 ^ E - 1 : Nat) : Int) by omega]; exact IntWalk.u64_in _ (by omega)
 rw [e1, e2, show ((2 ^ E - 1 : Nat) : Int) * 2 ^ F = (finf E F : Int) by unfold finf; rw [Int.natCast_mul]; congr 1]
 unfold fsgn at h9
 exact IntWalk.u64_in _ (by omega)
theorem quo_lt {E F n : Nat} (hn : n < finf E F) (hE : E ≤ 11) : n / 2 ^ F < 2 ^ 11 := by
 have h := finf_lt E F
 refine Nat.lt_of_lt_of_le ((Nat.div_lt_iff_lt_mul (Nat.pow_pos (by decide))).2 ?_) (Nat.pow_le_pow_right (by decide) hE)
 rw [← Nat.pow_add]; omega
theorem wrap_quo {E F n : Nat} (hn : n < finf E F) (hE : E ≤ 11) (hF : F ≤ 52) : IntKind.i64.wrap ((n : Int) / 2 ^ F) = ((n / 2 ^ F : Nat) : Int) := by
 have h := quo_lt hn hE
 rw [show ((n : Int) / 2 ^ F) = ((n / 2 ^ F : Nat) : Int) by simp]
 generalize n / 2 ^ F = q at h ⊢
 exact IntWalk.i64_in _ ⟨by omega, by omega⟩
theorem wrap_two {F : Nat} (hF : F ≤ 62) : IntKind.u64.wrap (2 ^ F) = ((2 ^ F : Nat) : Int) := by
 have h : 2 ^ F ≤ 2 ^ 62 := Nat.pow_le_pow_right (by decide) hF
 rw [show (2 : Int) ^ F = ((2 ^ F : Nat) : Int) by simp]
 generalize 2 ^ F = P at h ⊢
 exact IntWalk.u64_in _ ⟨by omega, by omega⟩
theorem and_rest {E F n : Nat} (hn : n < finf E F) (hE : E ≤ 11) (hF : F ≤ 52) : bits .and .u64 (n : Int) (IntKind.u64.wrap (IntKind.u64.wrap (2 ^ F) - 1)) = ((n % 2 ^ F : Nat) : Int) := by
 have h := finf_lt E F
 have h9 := fsgn_lt hE hF
 unfold fsgn at h9
 have h1 : 0 < 2 ^ F := Nat.pow_pos (by decide)
 have h2 : 2 ^ F ≤ 2 ^ 62 := Nat.pow_le_pow_right (by decide) (by omega)
 rw [wrap_two (by omega), IntWalk.u64_in _ (by omega), show ((2 ^ F : Nat) : Int) - 1 = ((2 ^ F - 1 : Nat) : Int) by omega]
 exact and_mask (by omega) (by omega)
theorem pow_small {F : Nat} (hF : F ≤ 52) : 2 ^ F ≤ 4503599627370496 := by
 have h : 2 ^ F ≤ 2 ^ 52 := Nat.pow_le_pow_right (by decide) hF
 omega
theorem or_two {m F : Nat} (hm : m < 2 ^ F) (hF : F ≤ 52) : bits .or .u64 (m : Int) (IntKind.u64.wrap (2 ^ F)) = ((m + 2 ^ F : Nat) : Int) := by
 rw [wrap_two (by omega)]; exact or_top hm (by omega)
theorem max_nat {e : Nat} : max (e : Int) 1 = ((max e 1 : Nat) : Int) := by omega
theorem exp_two {E : Nat} (hE2 : 2 ≤ E) (hE : E ≤ 11) : 2 ≤ 2 ^ (E - 1) ∧ 2 ^ (E - 1) ≤ 1024 := by
 have h1 : 2 ^ 1 ≤ 2 ^ (E - 1) := Nat.pow_le_pow_right (by decide) (by omega)
 have h2 : 2 ^ (E - 1) ≤ 2 ^ 10 := Nat.pow_le_pow_right (by decide) (by omega)
 omega
theorem value_exp {E F e : Nat} (hE2 : 2 ≤ E) (hE : E ≤ 11) (hF : F ≤ 52) (he : e < 2 ^ 11) (x : Int) (hx : x = ((max e 1 : Nat) : Int)) :
  wrap64 (wrap64 (x - wrap64 (wrap64 (2 ^ (E - 1)) - 1)) - (F : Int)) = ((max e 1 : Nat) - (2 ^ (E - 1) - 1 : Nat) - (F : Nat) : Int) := by
 subst hx
 have h := exp_two hE2 hE
 rw [show (2 : Int) ^ (E - 1) = ((2 ^ (E - 1) : Nat) : Int) by simp]
 generalize 2 ^ (E - 1) = P at h ⊢
 unfold wrap64; omega
theorem value_low {E F e : Nat} (hE2 : 2 ≤ E) (hE : E ≤ 11) (hF : F ≤ 52) (he : e < 2 ^ 11) : (-2100 : Int) ≤ ((max e 1 : Nat) - (2 ^ (E - 1) - 1 : Nat) - (F : Nat) : Int) := by
 have h := exp_two hE2 hE
 generalize 2 ^ (E - 1) = P at h ⊢
 generalize hx : max e 1 = x
 have h1 : 1 ≤ x ∧ x ≤ 2048 := by omega
 clear hx
 omega
theorem value_high {E F e : Nat} (hE2 : 2 ≤ E) (hE : E ≤ 11) (hF : F ≤ 52) (he : e < 2 ^ 11) : ((max e 1 : Nat) - (2 ^ (E - 1) - 1 : Nat) - (F : Nat) : Int) ≤ 2100 := by
 have h := exp_two hE2 hE
 generalize 2 ^ (E - 1) = P at h ⊢
 generalize hx : max e 1 = x
 have h1 : 1 ≤ x ∧ x ≤ 2048 := by omega
 clear hx
 omega
theorem fsgn_pos (E F : Nat) : 0 < fsgn E F := Nat.pow_pos (by decide)
theorem fsize_lt (E F b : Nat) : fsize E F b < fsgn E F := Nat.mod_lt _ (Nat.pow_pos (by decide))
theorem and_fsgn {E F b : Nat} (hE : E ≤ 11) (hF : F ≤ 52) (hb : b < 18446744073709551616) : (!(bits .and .u64 (b : Int) (fsgn E F : Int) == 0)) = fneg E F b := by
 have h := and_bit (k := E + F) hb (by omega)
 unfold fsgn fneg
 rw [h]
 cases b.testBit (E + F)
 ·simp
 ·have : 0 < 2 ^ (E + F) := Nat.pow_pos (by decide)
  rw [Bool.not_eq_true', beq_eq_false_iff_ne]
  simp only [Bool.toNat_true, Nat.one_mul]
  omega
theorem and_fsize {E F b : Nat} (hE : E ≤ 11) (hF : F ≤ 52) (hb : b < 18446744073709551616) : bits .and .u64 (b : Int) (IntKind.u64.wrap ((fsgn E F : Int) - 1)) = (fsize E F b : Int) := by
 have h9 := fsgn_lt hE hF
 have h := and_mask (k := E + F) hb (by omega)
 have h1 : 0 < fsgn E F := fsgn_pos E F
 rw [IntWalk.u64_in _ (by omega), show (fsgn E F : Int) - 1 = ((2 ^ (E + F) - 1 : Nat) : Int) by unfold fsgn at h1 ⊢; omega, h]; rfl
set_option maxHeartbeats 1000000 in
theorem single_any (w : World) : Calls Tryz.prog 132 #[] w fun e w' => e = .returned (formV 8 23) ∧ Below w.heap.size w w' := by
 go_enter Tryz.func132, Tryz.ntmps132
 go_wp2_with fail
 exact ret_form (x := .int .i64 8) (y := .int .i64 23) rfl rfl ⟨by go_simp, by go_simp, by go_simp, by go_simp⟩ rfl ⟨rfl, (Below.refl _ w).alloc (Nat.le_refl _) _⟩
set_option maxHeartbeats 1000000 in
theorem valid_any (e f : Int) (w : World) : Calls Tryz.prog 158 #[formV e f] w fun e' w' => e' = .returned (.bool (decide (2 ≤ e ∧ e ≤ 11 ∧ 1 ≤ f ∧ f ≤ 52))) ∧ Below w.heap.size w w' := by
 obtain ⟨w0, hw0⟩ : ∃ w0, w0 = (w.alloc (.cells #[.int .i64 e, .int .i64 f] 185)) := ⟨_, rfl⟩
 have hbf : Below w.heap.size w w0 := by rw [hw0]; exact ((Below.refl _ w).alloc (Nat.le_refl _) _)
 obtain ⟨pg, hpg⟩ : ∃ p, p = w.heap.size := ⟨_, rfl⟩
 have hbg : Box2 w0 pg (Value.int .i64 e) (Value.int .i64 f) := by rw [hw0, hpg]; exact ⟨by go_simp, by go_simp, by go_simp, by go_simp⟩
 have HP : Hid (w.heap.size ≤ pg) := Lib.hid (by omega)
 have HW := Lib.hid hw0; clear hw0
 go_enter Tryz.func158, Tryz.ntmps158
 go_upto_region 1 with fail
 rw [← HW.out, ← hpg]
 clear hpg HW
 have eg0 := hbg.c0
 have eg1 := hbg.c1
 by_cases h1 : 2 ≤ e
 case neg =>
  have d1 : decide (2 ≤ e) = false := decide_eq_false h1
  go_wp2_with fail
  go_ret
  exact ⟨ret_one (by show Value.bool _ = Value.bool _; congr 1 <;> (rw [eq_comm, decide_eq_false_iff_not]; omega)), hbf⟩
 have d1 : decide (2 ≤ e) = true := decide_eq_true h1
 by_cases h2 : e ≤ 11
 case neg =>
  have d2 : decide (e ≤ 11) = false := decide_eq_false h2
  go_wp2_with fail
  go_ret
  exact ⟨ret_one (by show Value.bool _ = Value.bool _; congr 1 <;> (rw [eq_comm, decide_eq_false_iff_not]; omega)), hbf⟩
 have d2 : decide (e ≤ 11) = true := decide_eq_true h2
 by_cases h3 : 1 ≤ f
 case neg =>
  have d3 : decide (1 ≤ f) = false := decide_eq_false h3
  go_wp2_with fail
  go_ret
  exact ⟨ret_one (by show Value.bool _ = Value.bool _; congr 1 <;> (rw [eq_comm, decide_eq_false_iff_not]; omega)), hbf⟩
 have d3 : decide (1 ≤ f) = true := decide_eq_true h3
 go_wp2_with fail
 go_ret
 exact ⟨ret_one (by show Value.bool _ = Value.bool _; congr 1; rw [Bool.eq_iff_iff]; simp; omega), hbf⟩
set_option maxHeartbeats 1000000 in
theorem sign_any (E F : Nat) (w : World) (hE : E ≤ 11) (hF : F ≤ 52) : Calls Tryz.prog 172 #[formV (E : Int) (F : Int)] w fun e w' => e = .returned (.int .u64 (fsgn E F : Int)) ∧ Below w.heap.size w w' := by
 obtain ⟨w0, hw0⟩ : ∃ w0, w0 = (w.alloc (.cells #[.int .i64 (E : Int), .int .i64 (F : Int)] 185)) := ⟨_, rfl⟩
 have hbf : Below w.heap.size w w0 := by rw [hw0]; exact ((Below.refl _ w).alloc (Nat.le_refl _) _)
 obtain ⟨pg, hpg⟩ : ∃ p, p = w.heap.size := ⟨_, rfl⟩
 have hbg : Box2 w0 pg (Value.int .i64 (E : Int)) (Value.int .i64 (F : Int)) := by rw [hw0, hpg]; exact ⟨by go_simp, by go_simp, by go_simp, by go_simp⟩
 have HP : Hid (w.heap.size ≤ pg) := Lib.hid (by omega)
 have HW := Lib.hid hw0; clear hw0
 go_enter Tryz.func172, Tryz.ntmps172
 go_upto_region 1 with fail
 rw [← HW.out, ← hpg]
 clear hpg HW
 have hsg : IntKind.u64.wrap (2 ^ (E + F)) = (fsgn E F : Int) := wrap_fsgn hE hF
 have eg0 := hbg.c0
 have eg1 := hbg.c1
 go_wp2_with fail
 go_ret
 exact ⟨ret_one (congrArg _ hsg), hbf⟩
set_option maxHeartbeats 1000000 in
theorem infinity_any (E F : Nat) (w : World) (hE : E ≤ 11) (hF : F ≤ 52) : Calls Tryz.prog 160 #[formV (E : Int) (F : Int)] w fun e w' => e = .returned (.int .u64 (finf E F : Int)) ∧ Below w.heap.size w w' := by
 obtain ⟨w0, hw0⟩ : ∃ w0, w0 = (w.alloc (.cells #[.int .i64 (E : Int), .int .i64 (F : Int)] 185)) := ⟨_, rfl⟩
 have hbf : Below w.heap.size w w0 := by rw [hw0]; exact ((Below.refl _ w).alloc (Nat.le_refl _) _)
 obtain ⟨pg, hpg⟩ : ∃ p, p = w.heap.size := ⟨_, rfl⟩
 have hbg : Box2 w0 pg (Value.int .i64 (E : Int)) (Value.int .i64 (F : Int)) := by rw [hw0, hpg]; exact ⟨by go_simp, by go_simp, by go_simp, by go_simp⟩
 have HP : Hid (w.heap.size ≤ pg) := Lib.hid (by omega)
 have HW := Lib.hid hw0; clear hw0
 go_enter Tryz.func160, Tryz.ntmps160
 go_wp2_with fail
 rw [← HW.out, ← hpg]
 clear hpg HW
 refine wp_region_seqQ (S := fun w' => Box2 w' pg (Value.int .i64 (E : Int)) (Value.int .i64 (F : Int))) [(0, 2, some 3), (1, 8, some 4), (2, 16, some 5), (4, 32, some 6), (0, 2, some 7), (16, 128, some 8), (40, 320, some 9), (127, 512, some 2)] [(true, 0), (true, 1), (true, 2), (true, 3), (true, 4), (true, 5), (true, 6), (true, 7)] (by kernel_rfl) (by kernel_rfl) (by kernel_rfl) (by kernel_rfl) (by kernel_rfl) (by kernel_rfl) (fun d _ _ _ _ h => by cases d <;> exact h) hbg.drew (fun _ => ?_)
 simp only [pickOps, List.append_eq, List.cons_append, List.nil_append, List.getElem?_toArray, List.getElem?_cons_succ, List.getElem?_cons_zero]
 have hb : Below w0.heap.size w0 w0.drew := (Below.refl _ _).drew
 generalize w0.drew = w1 at hb ⊢
 replace hbg := hbg.kept hb
 replace hbf := hbf.trans (hb.mono hbf.size)
 clear hb
 repeat (first | (refine seq_take (v := ?_) (by rfl) ?_ ?_; rotate_left; (· intro w hSw; (try dsimp only at hSw); obtain ⟨eg0, eg1, _, _⟩ := hSw; go_simp; all_goals with_reducible rfl); (try simp only [Act.put, List.setIfInBounds_toArray, List.set_cons_zero, List.set_cons_succ])) | (refine seq_leave (by rfl) ?_; (try simp only [Act.put, List.setIfInBounds_toArray, List.set_cons_zero, List.set_cons_succ])))
 refine seq_end ?_
 go_wp2_with fail
 go_ret
 exact ⟨ret_one (congrArg _ (wrap_finf hE hF)), hbf⟩
set_option maxHeartbeats 1000000 in
theorem parts_any (E F b : Nat) (w : World) (hE : E ≤ 11) (hF : F ≤ 52) (hb64 : b < 18446744073709551616) : Calls Tryz.prog 159 #[formV (E : Int) (F : Int), .int .u64 (b : Int)] w fun e w' => e = .returned (.tuple #[.bool (fneg E F b), .int .u64 (fsize E F b : Int)]) ∧ Below w.heap.size w w' := by
 obtain ⟨w0, hw0⟩ : ∃ w0, w0 = (w.alloc (.cells #[.int .i64 (E : Int), .int .i64 (F : Int)] 185)) := ⟨_, rfl⟩
 have hbf : Below w.heap.size w w0 := by rw [hw0]; exact ((Below.refl _ w).alloc (Nat.le_refl _) _)
 obtain ⟨pg, hpg⟩ : ∃ p, p = w.heap.size := ⟨_, rfl⟩
 have hbg : Box2 w0 pg (Value.int .i64 (E : Int)) (Value.int .i64 (F : Int)) := by rw [hw0, hpg]; exact ⟨by go_simp, by go_simp, by go_simp, by go_simp⟩
 have HP : Hid (w.heap.size ≤ pg) := Lib.hid (by omega)
 have HW := Lib.hid hw0; clear hw0
 go_enter Tryz.func159, Tryz.ntmps159
 go_wp2_with fail
 rw [← HW.out, ← hpg]
 clear hpg HW
 refine wp_region_seqQ (S := fun w' => Box2 w' pg (Value.int .i64 (E : Int)) (Value.int .i64 (F : Int))) [(0, 2, some 6), (0, 4, some 7), (2, 128, some 8), (5, 320, some 9), (8, 512, some 10), (0, 2, some 11), (0, 4, some 12), (68, 4096, some 13), (128, 8192, some 14), (288, 18432, some 15), (159, 1024, some 4), (2047, 32768, some 5)] [(true, 0), (true, 1), (true, 5), (true, 6), (false, 2), (true, 3), (true, 4), (false, 7), (true, 8), (true, 9), (true, 10), (true, 11)] (by kernel_rfl) (by kernel_rfl) (by kernel_rfl) (by kernel_rfl) (by kernel_rfl) (by kernel_rfl) (fun d _ _ _ _ h => by cases d <;> exact h) hbg.drew (fun _ => ?_)
 simp only [pickOps, List.append_eq, List.cons_append, List.nil_append, List.getElem?_toArray, List.getElem?_cons_succ, List.getElem?_cons_zero]
 have hb : Below w0.heap.size w0 w0.drew := (Below.refl _ _).drew
 generalize w0.drew = w1 at hb ⊢
 replace hbg := hbg.kept hb
 replace hbf := hbf.trans (hb.mono hbf.size)
 clear hb
 repeat (first | (refine seq_take (v := ?_) (by rfl) ?_ ?_; rotate_left; (· intro w hSw; (try dsimp only at hSw); obtain ⟨eg0, eg1, _, _⟩ := hSw; go_simp; all_goals with_reducible rfl); (try simp only [Act.put, List.setIfInBounds_toArray, List.set_cons_zero, List.set_cons_succ])) | (refine seq_leave (by rfl) ?_; (try simp only [Act.put, List.setIfInBounds_toArray, List.set_cons_zero, List.set_cons_succ])))
 refine seq_step (by rfl) (fun K hK => ?_)
 go_simp
 go_at_call 172
 (with_reducible refine (sign_any E F _ hE hF).mono ?_)
 rintro e w2 ⟨rfl, hb⟩
 replace hbg := hbg.kept hb
 replace hbf := hbf.trans (hb.mono hbf.size)
 clear hb
 first | refine hK.out _ _ hbg (fun _ => ?_) | (go_wp2_with fail; refine hK.out _ _ hbg (fun _ => ?_))
 clear hK K
 (try simp only [Act.put, List.setIfInBounds_toArray, List.set_cons_zero, List.set_cons_succ])
 repeat (first | (refine seq_take (v := ?_) (by rfl) ?_ ?_; rotate_left; (· intro w hSw; (try dsimp only at hSw); obtain ⟨eg0, eg1, _, _⟩ := hSw; go_simp; all_goals with_reducible rfl); (try simp only [Act.put, List.setIfInBounds_toArray, List.set_cons_zero, List.set_cons_succ])) | (refine seq_leave (by rfl) ?_; (try simp only [Act.put, List.setIfInBounds_toArray, List.set_cons_zero, List.set_cons_succ])))
 refine seq_step (by rfl) (fun K hK => ?_)
 go_simp
 go_at_call 172
 (with_reducible refine (sign_any E F _ hE hF).mono ?_)
 rintro e w3 ⟨rfl, hb⟩
 replace hbg := hbg.kept hb
 replace hbf := hbf.trans (hb.mono hbf.size)
 clear hb
 first | refine hK.out _ _ hbg (fun _ => ?_) | (go_wp2_with fail; refine hK.out _ _ hbg (fun _ => ?_))
 clear hK K
 (try simp only [Act.put, List.setIfInBounds_toArray, List.set_cons_zero, List.set_cons_succ])
 repeat (first | (refine seq_take (v := ?_) (by rfl) ?_ ?_; rotate_left; (· intro w hSw; (try dsimp only at hSw); obtain ⟨eg0, eg1, _, _⟩ := hSw; go_simp; all_goals with_reducible rfl); (try simp only [Act.put, List.setIfInBounds_toArray, List.set_cons_zero, List.set_cons_succ])) | (refine seq_leave (by rfl) ?_; (try simp only [Act.put, List.setIfInBounds_toArray, List.set_cons_zero, List.set_cons_succ])))
 refine seq_end ?_
 go_wp2_with fail
 go_ret2
 exact ⟨ret_two (congrArg _ (and_fsgn hE hF hb64)) (congrArg _ (and_fsize hE hF hb64)), hbf⟩
theorem limbs_shift {n k m : Nat} (hn : n < 18446744073709551616) (hm : 64 + k ≤ 32 * m) : (limbs (n * 2 ^ k)).length ≤ m :=
 limbs_bits (Nat.lt_of_lt_of_le (Nat.mul_lt_mul_of_pos_right (show n < 2 ^ 64 by simpa using hn) (Nat.pow_pos (by decide))) (by rw [← Nat.pow_add]; exact Nat.pow_le_pow_right (by decide) hm))
theorem tval_pos (n k : Nat) : tval n (k : Int) = qOf false (n * 2 ^ k) 1 := by
 unfold tval; rw [if_neg (by omega)]; rfl
theorem tval_neg (n : Nat) {k : Nat} (hk : 0 < k) : tval n (-(k : Int)) = qOf false n (2 ^ k) := by
 unfold tval; rw [if_pos (by omega), Int.neg_neg]; rfl
set_option maxHeartbeats 1000000 in
theorem times_pos (n k : Nat) (w : World) (hn : n < 18446744073709551616) (hk : k ≤ 2100) : Calls Tryz.prog 174 #[.int .u64 (n : Int), .int .i64 (k : Int)] w (QPost w (tval n (k : Int))) := by
 obtain ⟨w0, hw0⟩ : ∃ w0, w0 = (w.alloc (.cells #[.bool false, .slice none 0 0, .slice none 0 0] 182)) := ⟨_, rfl⟩
 have hbf : Below w.heap.size w w0 := by rw [hw0]; exact ((Below.refl _ w).alloc (Nat.le_refl _) _)
 obtain ⟨pr, hpr⟩ : ∃ p, p = w.heap.size := ⟨_, rfl⟩
 have hbr : Box3 w0 pr (Value.bool false) (Value.slice none 0 0) (Value.slice none 0 0) := by rw [hw0, hpr]; exact ⟨by go_simp, by go_simp, by go_simp, by go_simp, by go_simp, by go_simp⟩
 have HP : Hid (w.heap.size ≤ pr) := Lib.hid (by omega)
 have HW := Lib.hid hw0; clear hw0
 go_enter Tryz.func174, Tryz.ntmps174
 go_upto_region 1 with fail
 rw [← HW.out, ← hpr]
 clear hpr HW
 go_wp2_with fail
 refine (of_any n _ hn).mono ?_
 rintro e w1 ⟨r9, rfl, hx, hb⟩
 replace hbr := hbr.kept hb
 replace hbf := hbf.trans (hb.mono hbf.size)
 clear hb
 obtain ⟨xO, xL, xC, rfl⟩ := hx.form
 go_wp2_with fail
 refine (of_one _).mono ?_
 rintro e w2 ⟨r9, rfl, hy, hb⟩
 replace hbr := hbr.kept hb
 replace hx := hx.below hb
 replace hbf := hbf.trans (hb.mono hbf.size)
 clear hb
 obtain ⟨yO, yL, yC, rfl⟩ := hy.form
 obtain ⟨w3, hwE⟩ : ∃ W, W = ((w2.alloc (.cells #[.slice xO xL xC] 180)).alloc (.cells #[.slice yO yL yC] 180)) := ⟨_, rfl⟩
 have hb : Below w2.heap.size w2 w3 := by rw [hwE]; exact (((Below.refl _ w2).alloc (Nat.le_refl _) _).alloc (by simp <;> omega) _)
 obtain ⟨pu, hpu⟩ : ∃ p, p = w2.heap.size := ⟨_, rfl⟩
 have hbu : Box w3 pu (Value.slice xO xL xC) := by rw [hwE, hpu]; exact ⟨by go_simp, by go_simp, by simp <;> omega⟩
 obtain ⟨pv, hpv⟩ : ∃ p, p = w2.heap.size + 1 := ⟨_, rfl⟩
 have hbv : Box w3 pv (Value.slice yO yL yC) := by rw [hwE, hpv]; exact ⟨by go_simp, by go_simp, by simp <;> omega⟩
 replace HP : Hid (w.heap.size ≤ pr ∧ pr < pu ∧ pu < pv) := Lib.hid (by have h1 := HP.out; have h9 := hbf.size; have h2r := hbr.lt; omega)
 have HW := Lib.hid hwE; clear hwE
 go_upto_region 2 with fail
 rw [← HW.out, ← hpv, ← hpu]
 clear hpu hpv HW
 replace hbr := hbr.kept hb
 replace hx := hx.below hb
 replace hy := hy.below hb
 replace hbf := hbf.trans (hb.mono hbf.size)
 clear hb
 have hc : decide ((k : Int) < 0) = false := decide_eq_false (by omega)
 have hl1 : (limbs n).length ≤ 1000000 := by have := limbs_bits (n := n) (k := 2) (by omega); omega
 have eu := hbu.cell
 go_wp2_with fail
 refine (shift_any _ n k _ hx hl1 (by omega)).mono ?_
 rintro e w4 ⟨r9, rfl, hs, hb⟩
 clear eu
 replace hbr := hbr.kept hb
 replace hbu := hbu.kept hb
 replace hbv := hbv.kept hb
 replace hx := hx.below hb
 replace hy := hy.below hb
 replace hbf := hbf.trans (hb.mono hbf.size)
 clear hb
 obtain ⟨sO, sL, sC, rfl⟩ := hs.form
 have eu := hbu.cell
 have fu := hbu.free
 go_upto_region 5 with fail
 clear eu fu
 obtain ⟨w5, hwE⟩ : ∃ W, W = w4.setCell ⟨pu, 0, none⟩ (Value.slice sO sL sC) := ⟨_, rfl⟩
 rw [← hwE]
 replace hx := hx.setS (u := (Value.slice sO sL sC)) hbu; rw [← hwE] at hx
 replace hy := hy.setS (u := (Value.slice sO sL sC)) hbu; rw [← hwE] at hy
 replace hs := hs.setS (u := (Value.slice sO sL sC)) hbu; rw [← hwE] at hs
 replace hbr := hbr.setOther (show pr ≠ pu by have := HP.out; omega) 0 (Value.slice sO sL sC); rw [← hwE] at hbr
 replace hbv := hbv.setOther (show pv ≠ pu by have := HP.out; omega) 0 (Value.slice sO sL sC); rw [← hwE] at hbv
 replace hbf := hbf.setCell (p := ⟨pu, 0, none⟩) (show w.heap.size ≤ pu by have := HP.out; omega) (Value.slice sO sL sC); rw [← hwE] at hbf
 replace hbu := hbu.set (Value.slice sO sL sC); rw [← hwE] at hbu; clear hwE
 have hl2 : (limbs (n * 2 ^ k)).length ≤ 1000000 := by have := limbs_shift (m := 100) (k := k) hn (by omega); omega
 have eu := hbu.cell
 have ev := hbv.cell
 go_wp2_with fail
 refine (make_ok false _ _ (n * 2 ^ k) 1 _ hs hy hl2 (by rw [limbs_one]; decide) (by decide)).mono ?_
 rintro e w6 hq9
 obtain ⟨mB, mxO, mxL, mxC, myO, myL, myC, rfl, hS, hmx, hmy, hm, hb⟩ := hq9.out
 have HmS := Lib.hid hS; clear hS
 clear eu ev
 replace hbr := hbr.kept hb
 replace hbu := hbu.kept hb
 replace hbv := hbv.kept hb
 replace hx := hx.below hb
 replace hy := hy.below hb
 replace hs := hs.below hb
 replace hbf := hbf.trans (hb.mono hbf.size)
 clear hb
 obtain ⟨w7, hwE⟩ : ∃ W, W = (w6.alloc (.cells #[.bool mB, .slice mxO mxL mxC, .slice myO myL myC] 182)) := ⟨_, rfl⟩
 have hb : Below w6.heap.size w6 w7 := by rw [hwE]; exact ((Below.refl _ w6).alloc (Nat.le_refl _) _)
 obtain ⟨pm, hpm⟩ : ∃ p, p = w6.heap.size := ⟨_, rfl⟩
 have hbm : Box3 w7 pm (Value.bool mB) (Value.slice mxO mxL mxC) (Value.slice myO myL myC) := by rw [hwE, hpm]; exact ⟨by go_simp, by go_simp, by go_simp, by go_simp, by go_simp, by go_simp⟩
 replace HP : Hid (w.heap.size ≤ pr ∧ pr < pu ∧ pu < pv ∧ pv < pm) := Lib.hid (by have h1 := HP.out; have h9 := hbf.size; have h2v := hbv.lt; omega)
 have HW := Lib.hid hwE; clear hwE
 go_upto_region 6 with fail
 rw [← HW.out, ← hpm]
 clear hpm HW
 replace hbr := hbr.kept hb
 replace hbu := hbu.kept hb
 replace hbv := hbv.kept hb
 replace hx := hx.below hb
 replace hy := hy.below hb
 replace hs := hs.below hb
 replace hmx := hmx.below hb
 replace hmy := hmy.below hb
 replace hm := hm.below hb
 replace hbf := hbf.trans (hb.mono hbf.size)
 clear hb
 have em0 := hbm.c0
 have em1 := hbm.c1
 have em2 := hbm.c2
 have er0 := hbr.c0
 have fr0 := hbr.f0
 have er1 := hbr.c1
 have fr1 := hbr.f1
 have er2 := hbr.c2
 have fr2 := hbr.f2
 go_wp2_with fail
 rw [tval_pos]
 exact end_q rfl rfl rfl hbr (show w.heap.size ≤ pr by have := HP.out; omega) hm hbf
set_option maxHeartbeats 1000000 in
theorem times_neg (n k : Nat) (w : World) (hn : n < 18446744073709551616) (hk : k ≤ 2100) (hk0 : 0 < k) : Calls Tryz.prog 174 #[.int .u64 (n : Int), .int .i64 (-(k : Int))] w (QPost w (tval n (-(k : Int)))) := by
 obtain ⟨w0, hw0⟩ : ∃ w0, w0 = (w.alloc (.cells #[.bool false, .slice none 0 0, .slice none 0 0] 182)) := ⟨_, rfl⟩
 have hbf : Below w.heap.size w w0 := by rw [hw0]; exact ((Below.refl _ w).alloc (Nat.le_refl _) _)
 obtain ⟨pr, hpr⟩ : ∃ p, p = w.heap.size := ⟨_, rfl⟩
 have hbr : Box3 w0 pr (Value.bool false) (Value.slice none 0 0) (Value.slice none 0 0) := by rw [hw0, hpr]; exact ⟨by go_simp, by go_simp, by go_simp, by go_simp, by go_simp, by go_simp⟩
 have HP : Hid (w.heap.size ≤ pr) := Lib.hid (by omega)
 have HW := Lib.hid hw0; clear hw0
 go_enter Tryz.func174, Tryz.ntmps174
 go_upto_region 1 with fail
 rw [← HW.out, ← hpr]
 clear hpr HW
 go_wp2_with fail
 refine (of_any n _ hn).mono ?_
 rintro e w1 ⟨r9, rfl, hx, hb⟩
 replace hbr := hbr.kept hb
 replace hbf := hbf.trans (hb.mono hbf.size)
 clear hb
 obtain ⟨xO, xL, xC, rfl⟩ := hx.form
 go_wp2_with fail
 refine (of_one _).mono ?_
 rintro e w2 ⟨r9, rfl, hy, hb⟩
 replace hbr := hbr.kept hb
 replace hx := hx.below hb
 replace hbf := hbf.trans (hb.mono hbf.size)
 clear hb
 obtain ⟨yO, yL, yC, rfl⟩ := hy.form
 obtain ⟨w3, hwE⟩ : ∃ W, W = ((w2.alloc (.cells #[.slice xO xL xC] 180)).alloc (.cells #[.slice yO yL yC] 180)) := ⟨_, rfl⟩
 have hb : Below w2.heap.size w2 w3 := by rw [hwE]; exact (((Below.refl _ w2).alloc (Nat.le_refl _) _).alloc (by simp <;> omega) _)
 obtain ⟨pu, hpu⟩ : ∃ p, p = w2.heap.size := ⟨_, rfl⟩
 have hbu : Box w3 pu (Value.slice xO xL xC) := by rw [hwE, hpu]; exact ⟨by go_simp, by go_simp, by simp <;> omega⟩
 obtain ⟨pv, hpv⟩ : ∃ p, p = w2.heap.size + 1 := ⟨_, rfl⟩
 have hbv : Box w3 pv (Value.slice yO yL yC) := by rw [hwE, hpv]; exact ⟨by go_simp, by go_simp, by simp <;> omega⟩
 replace HP : Hid (w.heap.size ≤ pr ∧ pr < pu ∧ pu < pv) := Lib.hid (by have h1 := HP.out; have h9 := hbf.size; have h2r := hbr.lt; omega)
 have HW := Lib.hid hwE; clear hwE
 go_upto_region 2 with fail
 rw [← HW.out, ← hpv, ← hpu]
 clear hpu hpv HW
 replace hbr := hbr.kept hb
 replace hx := hx.below hb
 replace hy := hy.below hb
 replace hbf := hbf.trans (hb.mono hbf.size)
 clear hb
 have hc : decide (-(k : Int) < 0) = true := decide_eq_true (by omega)
 have ev := hbv.cell
 go_wp2_with fail
 refine (shift_any _ 1 k _ hy (by rw [limbs_one]; decide) (by omega)).mono ?_
 rintro e w4 ⟨r9, rfl, hs, hb⟩
 clear ev
 replace hbr := hbr.kept hb
 replace hbu := hbu.kept hb
 replace hbv := hbv.kept hb
 replace hx := hx.below hb
 replace hy := hy.below hb
 replace hbf := hbf.trans (hb.mono hbf.size)
 clear hb
 obtain ⟨sO, sL, sC, rfl⟩ := hs.form
 have ev := hbv.cell
 have fv := hbv.free
 go_upto_region 5 with fail
 clear ev fv
 obtain ⟨w5, hwE⟩ : ∃ W, W = w4.setCell ⟨pv, 0, none⟩ (Value.slice sO sL sC) := ⟨_, rfl⟩
 rw [← hwE]
 replace hx := hx.setS (u := (Value.slice sO sL sC)) hbv; rw [← hwE] at hx
 replace hy := hy.setS (u := (Value.slice sO sL sC)) hbv; rw [← hwE] at hy
 replace hs := hs.setS (u := (Value.slice sO sL sC)) hbv; rw [← hwE] at hs
 replace hbr := hbr.setOther (show pr ≠ pv by have := HP.out; omega) 0 (Value.slice sO sL sC); rw [← hwE] at hbr
 replace hbu := hbu.setOther (show pu ≠ pv by have := HP.out; omega) 0 (Value.slice sO sL sC); rw [← hwE] at hbu
 replace hbf := hbf.setCell (p := ⟨pv, 0, none⟩) (show w.heap.size ≤ pv by have := HP.out; omega) (Value.slice sO sL sC); rw [← hwE] at hbf
 replace hbv := hbv.set (Value.slice sO sL sC); rw [← hwE] at hbv; clear hwE
 rw [Nat.one_mul] at hs
 have hl1 : (limbs n).length ≤ 1000000 := by have := limbs_bits (n := n) (k := 2) (by omega); omega
 have hl2 : (limbs (2 ^ k)).length ≤ 1000000 := by have := limbs_shift (m := 100) (k := k) (n := 1) (by decide) (by omega); rw [Nat.one_mul] at this; omega
 have eu := hbu.cell
 have ev := hbv.cell
 go_wp2_with fail
 refine (make_ok false _ _ n (2 ^ k) _ hx hs hl1 hl2 (Nat.pow_pos (by decide))).mono ?_
 rintro e w6 hq9
 obtain ⟨mB, mxO, mxL, mxC, myO, myL, myC, rfl, hS, hmx, hmy, hm, hb⟩ := hq9.out
 have HmS := Lib.hid hS; clear hS
 clear eu ev
 replace hbr := hbr.kept hb
 replace hbu := hbu.kept hb
 replace hbv := hbv.kept hb
 replace hx := hx.below hb
 replace hy := hy.below hb
 replace hs := hs.below hb
 replace hbf := hbf.trans (hb.mono hbf.size)
 clear hb
 obtain ⟨w7, hwE⟩ : ∃ W, W = (w6.alloc (.cells #[.bool mB, .slice mxO mxL mxC, .slice myO myL myC] 182)) := ⟨_, rfl⟩
 have hb : Below w6.heap.size w6 w7 := by rw [hwE]; exact ((Below.refl _ w6).alloc (Nat.le_refl _) _)
 obtain ⟨pm, hpm⟩ : ∃ p, p = w6.heap.size := ⟨_, rfl⟩
 have hbm : Box3 w7 pm (Value.bool mB) (Value.slice mxO mxL mxC) (Value.slice myO myL myC) := by rw [hwE, hpm]; exact ⟨by go_simp, by go_simp, by go_simp, by go_simp, by go_simp, by go_simp⟩
 replace HP : Hid (w.heap.size ≤ pr ∧ pr < pu ∧ pu < pv ∧ pv < pm) := Lib.hid (by have h1 := HP.out; have h9 := hbf.size; have h2v := hbv.lt; omega)
 have HW := Lib.hid hwE; clear hwE
 go_upto_region 6 with fail
 rw [← HW.out, ← hpm]
 clear hpm HW
 replace hbr := hbr.kept hb
 replace hbu := hbu.kept hb
 replace hbv := hbv.kept hb
 replace hx := hx.below hb
 replace hy := hy.below hb
 replace hs := hs.below hb
 replace hmx := hmx.below hb
 replace hmy := hmy.below hb
 replace hm := hm.below hb
 replace hbf := hbf.trans (hb.mono hbf.size)
 clear hb
 have em0 := hbm.c0
 have em1 := hbm.c1
 have em2 := hbm.c2
 have er0 := hbr.c0
 have fr0 := hbr.f0
 have er1 := hbr.c1
 have fr1 := hbr.f1
 have er2 := hbr.c2
 have fr2 := hbr.f2
 go_wp2_with fail
 rw [tval_neg n hk0]
 exact end_q rfl rfl rfl hbr (show w.heap.size ≤ pr by have := HP.out; omega) hm hbf
theorem times_any (n : Nat) (e : Int) (w : World) (hn : n < 18446744073709551616) (h1 : -2100 ≤ e) (h2 : e ≤ 2100) : Calls Tryz.prog 174 #[.int .u64 (n : Int), .int .i64 e] w (QPost w (tval n e)) := by
 rcases Int.lt_or_le e 0 with h | h
 ·obtain ⟨k, rfl⟩ : ∃ k : Nat, e = -(k : Int) := ⟨e.natAbs, by omega⟩
  exact times_neg n k w hn (by omega) (by omega)
 ·obtain ⟨k, rfl⟩ : ∃ k : Nat, e = (k : Int) := ⟨e.natAbs, by omega⟩
  exact times_pos n k w hn (by omega)
theorem times_x (x y : Int) (n : Nat) (e : Int) (w : World) (hx : x = n) (hy : y = e) (hn : n < 18446744073709551616) (h1 : -2100 ≤ e) (h2 : e ≤ 2100) : Calls Tryz.prog 174 #[.int .u64 x, .int .i64 y] w (QPost w (tval n e)) := by
 rw [hx, hy]; exact times_any n e w hn h1 h2
set_option maxHeartbeats 1000000 in
theorem value_any (E F n : Nat) (w : World) (hE2 : 2 ≤ E) (hE : E ≤ 11) (hF1 : 1 ≤ F) (hF : F ≤ 52) (hn : n < finf E F) : Calls Tryz.prog 162 #[formV (E : Int) (F : Int), .int .u64 (n : Int)] w (QPost w (fval E F n)) := by
 obtain ⟨w0, hw0⟩ : ∃ w0, w0 = ((w.alloc (.cells #[.int .i64 (E : Int), .int .i64 (F : Int)] 185)).alloc (.cells #[.bool false, .slice none 0 0, .slice none 0 0] 182)) := ⟨_, rfl⟩
 have hbf : Below w.heap.size w w0 := by rw [hw0]; exact (((Below.refl _ w).alloc (Nat.le_refl _) _).alloc (by simp <;> omega) _)
 obtain ⟨pg, hpg⟩ : ∃ p, p = w.heap.size := ⟨_, rfl⟩
 have hbg : Box2 w0 pg (Value.int .i64 (E : Int)) (Value.int .i64 (F : Int)) := by rw [hw0, hpg]; exact ⟨by go_simp, by go_simp, by go_simp, by go_simp⟩
 obtain ⟨pr, hpr⟩ : ∃ p, p = w.heap.size + 1 := ⟨_, rfl⟩
 have hbr : Box3 w0 pr (Value.bool false) (Value.slice none 0 0) (Value.slice none 0 0) := by rw [hw0, hpr]; exact ⟨by go_simp, by go_simp, by go_simp, by go_simp, by go_simp, by go_simp⟩
 have HP : Hid (w.heap.size ≤ pg ∧ pg < pr) := Lib.hid (by omega)
 have HW := Lib.hid hw0; clear hw0
 go_enter Tryz.func162, Tryz.ntmps162
 go_wp2_with fail
 rw [← HW.out, ← hpr, ← hpg]
 clear hpg hpr HW
 refine wp_region_seqQ (S := fun w' => Box2 w' pg (Value.int .i64 (E : Int)) (Value.int .i64 (F : Int))) [(0, 2, some 8), (0, 4, some 9), (2, 512, some 10), (5, 1280, some 11), (8, 2048, some 12), (0, 2, some 13), (0, 4, some 14), (64, 16384, some 15), (128, 32768, some 16), (256, 65536, some 17), (544, 139264, some 18), (31, 4096, some 5), (4095, 262144, some 6)] [(true, 0), (true, 1), (true, 2), (true, 3), (true, 4), (true, 5), (true, 6), (true, 7), (true, 8), (true, 9), (true, 10), (true, 11), (true, 12)] (by kernel_rfl) (by kernel_rfl) (by kernel_rfl) (by kernel_rfl) (by kernel_rfl) (by kernel_rfl) (fun d _ _ _ _ h => by cases d <;> exact h) hbg.drew (fun _ => ?_)
 simp only [pickOps, List.append_eq, List.cons_append, List.nil_append, List.getElem?_toArray, List.getElem?_cons_succ, List.getElem?_cons_zero]
 have hb : Below w0.heap.size w0 w0.drew := (Below.refl _ _).drew
 generalize w0.drew = w1 at hb ⊢
 replace hbg := hbg.kept hb
 replace hbr := hbr.kept hb
 replace hbf := hbf.trans (hb.mono hbf.size)
 clear hb
 repeat (first | (refine seq_take (v := ?_) (by rfl) ?_ ?_; rotate_left; (· intro w hSw; (try dsimp only at hSw); obtain ⟨eg0, eg1, _, _⟩ := hSw; go_simp; all_goals with_reducible rfl); (try simp only [Act.put, List.setIfInBounds_toArray, List.set_cons_zero, List.set_cons_succ])) | (refine seq_leave (by rfl) ?_; (try simp only [Act.put, List.setIfInBounds_toArray, List.set_cons_zero, List.set_cons_succ])))
 refine seq_end ?_
 obtain ⟨e, he⟩ : ∃ e, e = n / 2 ^ F := ⟨_, rfl⟩
 obtain ⟨m, hm⟩ : ∃ m, m = n % 2 ^ F := ⟨_, rfl⟩
 have hq := wrap_quo hn hE hF
 have hr := and_rest hn hE hF
 rw [← he] at hq; rw [← hm] at hr
 rw [hq, hr]
 have HE9 := Lib.hid he
 have HM9 := Lib.hid hm
 have HB : Hid (e < 2 ^ 11 ∧ m < 2 ^ F) := Lib.hid (by rw [he, hm]; exact ⟨quo_lt hn hE, Nat.mod_lt _ (Nat.pow_pos (by decide))⟩)
 clear hq hr he hm
 have HN9 := Lib.hid hn; clear hn
 by_cases h0 : e = 0
 case pos =>
  have hc : decide ((0 : Int) < (e : Int)) = false := decide_eq_false (by omega)
  have eg0 := hbg.c0
  have eg1 := hbg.c1
  have er0 := hbr.c0
  have fr0 := hbr.f0
  have er1 := hbr.c1
  have fr1 := hbr.f1
  have er2 := hbr.c2
  have fr2 := hbr.f2
  go_wp2_with fail
  refine (times_x _ _ m _ _ rfl (value_exp (e := 0) hE2 hE hF (by decide) _ rfl) (by have := HB.out; have := pow_small hF; omega) (value_low hE2 hE hF (by decide)) (value_high hE2 hE hF (by decide))).mono ?_
  rintro e w2 hq9
  obtain ⟨vB, vxO, vxL, vxC, vyO, vyL, vyC, rfl, hS, hvx, hvy, hv, hb⟩ := hq9.out
  have HvS := Lib.hid hS; clear hS
  clear eg0 eg1 er0 fr0 er1 fr1 er2 fr2
  replace hbg := hbg.kept hb
  replace hbr := hbr.kept hb
  replace hbf := hbf.trans (hb.mono hbf.size)
  clear hb
  have hv9 : tval m ((max 0 1 : Nat) - (2 ^ (E - 1) - 1 : Nat) - (F : Nat) : Int) = fval E F n := by rw [← fval_is hE2 hF1, ← HE9.out, ← HM9.out, h0]; rfl
  rw [hv9] at hv
  have er0 := hbr.c0
  have fr0 := hbr.f0
  have er1 := hbr.c1
  have fr1 := hbr.f1
  have er2 := hbr.c2
  have fr2 := hbr.f2
  go_wp2_with fail
  exact end_q rfl rfl rfl hbr (show w.heap.size ≤ pr by have := HP.out; omega) hv hbf
 have hc : decide ((0 : Int) < (e : Int)) = true := decide_eq_true (by omega)
 have eg0 := hbg.c0
 have eg1 := hbg.c1
 have er0 := hbr.c0
 have fr0 := hbr.f0
 have er1 := hbr.c1
 have fr1 := hbr.f1
 have er2 := hbr.c2
 have fr2 := hbr.f2
 go_wp2_with fail
 refine (times_x _ _ (m + 2 ^ F) _ _ (or_two HB.out.2 hF) (value_exp (e := e) hE2 hE hF HB.out.1 _ max_nat) (by have := HB.out; have := pow_small hF; omega) (value_low hE2 hE hF HB.out.1) (value_high hE2 hE hF HB.out.1)).mono ?_
 rintro e w2 hq9
 obtain ⟨vB, vxO, vxL, vxC, vyO, vyL, vyC, rfl, hS, hvx, hvy, hv, hb⟩ := hq9.out
 have HvS := Lib.hid hS; clear hS
 clear eg0 eg1 er0 fr0 er1 fr1 er2 fr2
 replace hbg := hbg.kept hb
 replace hbr := hbr.kept hb
 replace hbf := hbf.trans (hb.mono hbf.size)
 clear hb
 have hv9 : tval (m + 2 ^ F) ((max e 1 : Nat) - (2 ^ (E - 1) - 1 : Nat) - (F : Nat) : Int) = fval E F n := by rw [← fval_is hE2 hF1, ← HE9.out, ← HM9.out, if_pos (by omega)]
 rw [hv9] at hv
 have er0 := hbr.c0
 have fr0 := hbr.f0
 have er1 := hbr.c1
 have fr1 := hbr.f1
 have er2 := hbr.c2
 have fr2 := hbr.f2
 go_wp2_with fail
 exact end_q rfl rfl rfl hbr (show w.heap.size ≤ pr by have := HP.out; omega) hv hbf
set_option maxHeartbeats 1000000 in
theorem fminus_any (v : Value) (q : Rat) (k : Nat) (w : World) (h : QIs w v q) (hqb : QB q k) (hk : k ≤ 80000) : Calls Tryz.prog 161 #[v] w (QPost w (-q)) := by
 obtain ⟨qB, qxO, qxL, qxC, qyO, qyL, qyC, rfl, hS, hqx, hqy⟩ := h.form
 have HqS := Lib.hid hS; clear hS
 obtain ⟨w0, hw0⟩ : ∃ w0, w0 = ((w.alloc (.cells #[.bool qB, .slice qxO qxL qxC, .slice qyO qyL qyC] 182)).alloc (.cells #[.bool false, .slice none 0 0, .slice none 0 0] 182)) := ⟨_, rfl⟩
 have hbf : Below w.heap.size w w0 := by rw [hw0]; exact (((Below.refl _ w).alloc (Nat.le_refl _) _).alloc (by simp <;> omega) _)
 obtain ⟨pq, hpq⟩ : ∃ p, p = w.heap.size := ⟨_, rfl⟩
 have hbq : Box3 w0 pq (Value.bool qB) (Value.slice qxO qxL qxC) (Value.slice qyO qyL qyC) := by rw [hw0, hpq]; exact ⟨by go_simp, by go_simp, by go_simp, by go_simp, by go_simp, by go_simp⟩
 obtain ⟨pr, hpr⟩ : ∃ p, p = w.heap.size + 1 := ⟨_, rfl⟩
 have hbr : Box3 w0 pr (Value.bool false) (Value.slice none 0 0) (Value.slice none 0 0) := by rw [hw0, hpr]; exact ⟨by go_simp, by go_simp, by go_simp, by go_simp, by go_simp, by go_simp⟩
 have HP : Hid (w.heap.size ≤ pq ∧ pq < pr) := Lib.hid (by omega)
 replace h := h.below hbf
 replace hqx := hqx.below hbf
 replace hqy := hqy.below hbf
 have HW := Lib.hid hw0; clear hw0
 go_enter Tryz.func161, Tryz.ntmps161
 go_upto_region 1 with fail
 rw [← HW.out, ← hpr, ← hpq]
 clear hpq hpr HW
 have eq0 := hbq.c0
 have eq1 := hbq.c1
 have eq2 := hbq.c2
 go_wp2_with fail
 refine (qsub_any _ _ 0 q 1 k _ (QIs.zero _) h (QB.zero 1 (by omega)) hqb (by omega)).mono ?_
 rintro e w1 hq9
 obtain ⟨mB, mxO, mxL, mxC, myO, myL, myC, rfl, hS, hmx, hmy, hm, hb⟩ := hq9.out
 have HmS := Lib.hid hS; clear hS
 clear eq0 eq1 eq2
 replace hbq := hbq.kept hb
 replace hbr := hbr.kept hb
 replace h := h.below hb
 replace hqx := hqx.below hb
 replace hqy := hqy.below hb
 replace hbf := hbf.trans (hb.mono hbf.size)
 clear hb
 rw [show (0 : Rat) - q = -q by rw [Rat.sub_eq_add_neg, Rat.zero_add]] at hm
 have er0 := hbr.c0
 have fr0 := hbr.f0
 have er1 := hbr.c1
 have fr1 := hbr.f1
 have er2 := hbr.c2
 have fr2 := hbr.f2
 go_wp2_with fail
 exact end_q rfl rfl rfl hbr (show w.heap.size ≤ pr by have := HP.out; omega) hm hbf
end Go.Proofs.YtcpfanpcdkoiaaaGreat
