/-
  RatMakes: the walk.
-/
import Derived.Test.YtacflncmbnildaaDoorRefR
namespace Go.Proofs.YtacflncmbnildaaDoor
open Go.RowKit
set_option linter.unusedVariables false
set_option linter.unusedSimpArgs false
attribute [local go_sem] field_nat

set_option maxRecDepth 100000 in
set_option maxHeartbeats 1000000 in
/-- RatMakes. -/
theorem ratMakes_main (neg : Bool) (n d : Nat) (v : Int) (w : World) (hn64 : n < 18446744073709551616) (hd64 : d < 18446744073709551616) (hv1 : -9223372036854775808 ≤ v) (hv2 : v ≤ 9223372036854775807) :
    Calls Tryd.prog 3 #[.bool neg, .int .u64 (n : Int), .int .u64 (d : Int), .int .i64 v] w fun e w' => e = .returned (.bool true) ∧ Below w.heap.size w w' := by
  have hln : (limbs n).length ≤ 2 := limbs_length_le (k := 2) (by omega)
  have hld : (limbs d).length ≤ 2 := limbs_length_le (k := 2) (by omega)
  have hrn := rlimbs_of_limbs hln
  have hrd := rlimbs_of_limbs hld
  go_enter Tryd.func3, Tryd.ntmps3
  go_wp2_with fail
  refine (of_any n _ hn64).mono ?_
  rintro e w1 ⟨r9, rfl, hn, hb⟩
  have hbf := hb
  clear hb
  obtain ⟨nO, nL, nC, rfl⟩ := hn.form
  go_wp2_with fail
  refine (of_any d _ hd64).mono ?_
  rintro e w2 ⟨r9, rfl, hd, hb⟩
  replace hn := hn.below hb
  replace hbf := hbf.trans (hb.mono hbf.size)
  clear hb
  obtain ⟨dO, dL, dC, rfl⟩ := hd.form
  by_cases h0 : d = 0
  case pos =>
    subst h0
    go_wp2_with fail
    refine (make_zero neg _ _ n _ hn hd (by omega)).mono ?_
    rintro e w3 hq9
    obtain ⟨rB, rxO, rxL, rxC, ryO, ryL, ryC, rfl, hS, hrx, hry, hr, hb⟩ := hq9.out
    have HrS := Lib.hid hS; clear hS
    replace hn := hn.below hb
    replace hd := hd.below hb
    replace hbf := hbf.trans (hb.mono hbf.size)
    clear hb
    obtain ⟨w4, hwE⟩ : ∃ W, W = (w3.alloc (.cells #[.bool rB, .slice rxO rxL rxC, .slice ryO ryL ryC] 27)) := ⟨_, rfl⟩
    have hb : Below w3.heap.size w3 w4 := by rw [hwE]; exact ((Below.refl _ w3).alloc (Nat.le_refl _) _)
    obtain ⟨pr, hpr⟩ : ∃ p, p = w3.heap.size := ⟨_, rfl⟩
    have hbr : Box3 w4 pr (Value.bool rB) (Value.slice rxO rxL rxC) (Value.slice ryO ryL ryC) := by rw [hwE, hpr]; exact ⟨by go_simp, by go_simp, by go_simp, by go_simp, by go_simp, by go_simp⟩
    have HP : Hid (w.heap.size ≤ pr) := Lib.hid (by have h9 := hbf.size; omega)
    have HW := Lib.hid hwE; clear hwE
    go_upto_region 3 with fail
    rw [← HW.out, ← hpr]
    clear hpr HW
    replace hn := hn.below hb
    replace hd := hd.below hb
    replace hrx := hrx.below hb
    replace hry := hry.below hb
    replace hr := hr.below hb
    replace hbf := hbf.trans (hb.mono hbf.size)
    clear hb
    go_wp2_with fail
    refine (alive2_any _).mono ?_
    rintro e w5 ⟨rfl, hb⟩
    replace hbr := hbr.kept hb
    replace hn := hn.below hb
    replace hd := hd.below hb
    replace hrx := hrx.below hb
    replace hry := hry.below hb
    replace hr := hr.below hb
    replace hbf := hbf.trans (hb.mono hbf.size)
    clear hb
    have er0 := hbr.c0
    have er1 := hbr.c1
    have er2 := hbr.c2
    go_wp2_with fail
    refine (qtext_any _ 0 _ hr (QB.zero _ (by decide))).mono ?_
    rintro e w6 ⟨rfl, hb⟩
    clear er0 er1 er2
    replace hbr := hbr.kept hb
    replace hn := hn.below hb
    replace hd := hd.below hb
    replace hrx := hrx.below hb
    replace hry := hry.below hb
    replace hr := hr.below hb
    replace hbf := hbf.trans (hb.mono hbf.size)
    clear hb
    rw [qt_z]
    go_wp2_with fail
    go_ret
    exact ⟨rfl, hbf⟩
  have H0 : Hid (0 < d) := Lib.hid (by omega)
  have hd0 : ¬ ((d : Nat) : Int) = 0 := by omega
  have hd1 : (((d : Nat) : Int) == 0) = false := by simpa using hd0
  clear h0
  go_wp2_with fail
  refine (make_ok neg _ _ n d _ hn hd (by omega) (by omega) H0.out).mono ?_
  rintro e w3 hq9
  obtain ⟨rB, rxO, rxL, rxC, ryO, ryL, ryC, rfl, hS, hrx, hry, hr, hb⟩ := hq9.out
  have HrS := Lib.hid hS; clear hS
  replace hn := hn.below hb
  replace hd := hd.below hb
  replace hbf := hbf.trans (hb.mono hbf.size)
  clear hb
  have hqr : QB (qOf neg n d) 30000 := QB.of _ (by omega) (by omega) H0.out
  have hqv : QB (v : Rat) 30000 := QB.int (by omega) (by decide)
  obtain ⟨w4, hwE⟩ : ∃ W, W = (w3.alloc (.cells #[.bool rB, .slice rxO rxL rxC, .slice ryO ryL ryC] 27)) := ⟨_, rfl⟩
  have hb : Below w3.heap.size w3 w4 := by rw [hwE]; exact ((Below.refl _ w3).alloc (Nat.le_refl _) _)
  obtain ⟨pr, hpr⟩ : ∃ p, p = w3.heap.size := ⟨_, rfl⟩
  have hbr : Box3 w4 pr (Value.bool rB) (Value.slice rxO rxL rxC) (Value.slice ryO ryL ryC) := by rw [hwE, hpr]; exact ⟨by go_simp, by go_simp, by go_simp, by go_simp, by go_simp, by go_simp⟩
  have HP : Hid (w.heap.size ≤ pr) := Lib.hid (by have h9 := hbf.size; omega)
  have HW := Lib.hid hwE; clear hwE
  go_upto_region 4 with fail
  rw [← HW.out, ← hpr]
  clear hpr HW
  replace hn := hn.below hb
  replace hd := hd.below hb
  replace hrx := hrx.below hb
  replace hry := hry.below hb
  replace hr := hr.below hb
  replace hbf := hbf.trans (hb.mono hbf.size)
  clear hb
  refine wp_region_seq (S := fun w' => Box3 w' pr (Value.bool rB) (Value.slice rxO rxL rxC) (Value.slice ryO ryL ryC)) [(false, 0), (true, 1), (true, 2), (true, 3), (true, 4), (true, 5), (true, 6), (true, 7), (true, 8), (true, 10), (false, 9), (false, 11), (false, 12), (false, 13), (true, 14), (true, 15), (true, 16), (true, 18), (false, 17), (false, 19), (false, 20), (true, 21), (true, 22)] (by kernel_rfl) (by kernel_rfl) (by kernel_rfl) (by kernel_rfl) (by kernel_rfl) (fun d _ _ _ _ h => by cases d <;> exact h) hbr.drew (fun _ => ?_)
  simp only [pickOps, List.append_eq, List.cons_append, List.nil_append, List.getElem?_toArray, List.getElem?_cons_succ, List.getElem?_cons_zero]
  have hb : Below w4.heap.size w4 w4.drew := (Below.refl _ _).drew
  generalize w4.drew = w5 at hb ⊢
  replace hbr := hbr.kept hb
  replace hn := hn.below hb
  replace hd := hd.below hb
  replace hrx := hrx.below hb
  replace hry := hry.below hb
  replace hr := hr.below hb
  replace hbf := hbf.trans (hb.mono hbf.size)
  clear hb
  refine seq_step (by rfl) (fun K hK => ?_)
  go_simp
  go_at_call 11
  (with_reducible refine (alive2_any _).mono ?_)
  rintro e w6 ⟨rfl, hb⟩
  replace hbr := hbr.kept hb
  replace hn := hn.below hb
  replace hd := hd.below hb
  replace hrx := hrx.below hb
  replace hry := hry.below hb
  replace hr := hr.below hb
  replace hbf := hbf.trans (hb.mono hbf.size)
  clear hb
  first | refine hK.out _ _ hbr (fun _ => ?_) | (go_wp2_with fail; refine hK.out _ _ hbr (fun _ => ?_))
  clear hK K
  (try simp only [Act.put, List.setIfInBounds_toArray, List.set_cons_zero, List.set_cons_succ])
  repeat (first | (refine seq_take (v := ?_) (by rfl) ?_ ?_; rotate_left; (· intro w hSw; (try dsimp only at hSw); obtain ⟨er0, er1, er2, _, _, _⟩ := hSw; go_simp; all_goals with_reducible rfl); (try simp only [Act.put, List.setIfInBounds_toArray, List.set_cons_zero, List.set_cons_succ])) | (refine seq_leave (by rfl) ?_; (try simp only [Act.put, List.setIfInBounds_toArray, List.set_cons_zero, List.set_cons_succ])))
  refine seq_step (by rfl) (fun K hK => ?_)
  go_simp
  go_at_call 15
  (with_reducible refine (rof_any n _ hn64).mono ?_)
  rintro e w7 ⟨r9, rfl, hx, hb⟩
  obtain ⟨xO, xL, xC, rfl⟩ := hx.form
  replace hbr := hbr.kept hb
  replace hn := hn.below hb
  replace hd := hd.below hb
  replace hrx := hrx.below hb
  replace hry := hry.below hb
  replace hr := hr.below hb
  replace hbf := hbf.trans (hb.mono hbf.size)
  clear hb
  first | refine hK.out _ _ hbr (fun _ => ?_) | (go_wp2_with fail; refine hK.out _ _ hbr (fun _ => ?_))
  clear hK K
  (try simp only [Act.put, List.setIfInBounds_toArray, List.set_cons_zero, List.set_cons_succ])
  refine seq_step (by rfl) (fun K hK => ?_)
  go_simp
  go_at_call 15
  (with_reducible refine (rof_any d _ hd64).mono ?_)
  rintro e w8 ⟨r9, rfl, hy, hb⟩
  obtain ⟨yO, yL, yC, rfl⟩ := hy.form
  replace hbr := hbr.kept hb
  replace hn := hn.below hb
  replace hd := hd.below hb
  replace hrx := hrx.below hb
  replace hry := hry.below hb
  replace hr := hr.below hb
  replace hx := hx.below hb
  replace hbf := hbf.trans (hb.mono hbf.size)
  clear hb
  first | refine hK.out _ _ hbr (fun _ => ?_) | (go_wp2_with fail; refine hK.out _ _ hbr (fun _ => ?_))
  clear hK K
  (try simp only [Act.put, List.setIfInBounds_toArray, List.set_cons_zero, List.set_cons_succ])
  refine seq_step (by rfl) (fun K hK => ?_)
  go_simp
  go_at_call 14
  (with_reducible refine (rmake_any neg _ _ n d _ hx hy (by omega) (by omega) H0.out).mono ?_)
  rintro e w9 hq9
  obtain ⟨mB, mxO, mxL, mxC, myO, myL, myC, rfl, hS, hmx, hmy, hm, hb⟩ := hq9.out
  have HmS := Lib.hid hS; clear hS
  replace hbr := hbr.kept hb
  replace hn := hn.below hb
  replace hd := hd.below hb
  replace hrx := hrx.below hb
  replace hry := hry.below hb
  replace hr := hr.below hb
  replace hx := hx.below hb
  replace hy := hy.below hb
  replace hbf := hbf.trans (hb.mono hbf.size)
  clear hb
  first | refine hK.out _ _ hbr (fun _ => ?_) | (go_wp2_with fail; refine hK.out _ _ hbr (fun _ => ?_))
  clear hK K
  (try simp only [Act.put, List.setIfInBounds_toArray, List.set_cons_zero, List.set_cons_succ])
  refine seq_step (by rfl) (fun K hK => ?_)
  go_simp
  go_at_call 13
  (with_reducible refine (same2_any _ _ _ _ hr hm hqr).mono ?_)
  rintro e w10 ⟨rfl, hb⟩
  replace hbr := hbr.kept hb
  replace hn := hn.below hb
  replace hd := hd.below hb
  replace hrx := hrx.below hb
  replace hry := hry.below hb
  replace hr := hr.below hb
  replace hx := hx.below hb
  replace hy := hy.below hb
  replace hmx := hmx.below hb
  replace hmy := hmy.below hb
  replace hm := hm.below hb
  replace hbf := hbf.trans (hb.mono hbf.size)
  clear hb
  first | refine hK.out _ _ hbr (fun _ => ?_) | (go_wp2_with fail; refine hK.out _ _ hbr (fun _ => ?_))
  clear hK K
  (try simp only [Act.put, List.setIfInBounds_toArray, List.set_cons_zero, List.set_cons_succ])
  repeat (first | (refine seq_take (v := ?_) (by rfl) ?_ ?_; rotate_left; (· intro w hSw; (try dsimp only at hSw); obtain ⟨er0, er1, er2, _, _, _⟩ := hSw; go_simp; all_goals with_reducible rfl); (try simp only [Act.put, List.setIfInBounds_toArray, List.set_cons_zero, List.set_cons_succ])) | (refine seq_leave (by rfl) ?_; (try simp only [Act.put, List.setIfInBounds_toArray, List.set_cons_zero, List.set_cons_succ])))
  refine seq_step (by rfl) (fun K hK => ?_)
  go_simp
  go_at_call 16
  (with_reducible refine (of_q v _ hv1 hv2).mono ?_)
  rintro e w11 hq9
  obtain ⟨kB, kxO, kxL, kxC, kyO, kyL, kyC, rfl, hS, hkx, hky, hk, hb⟩ := hq9.out
  have HkS := Lib.hid hS; clear hS
  replace hbr := hbr.kept hb
  replace hn := hn.below hb
  replace hd := hd.below hb
  replace hrx := hrx.below hb
  replace hry := hry.below hb
  replace hr := hr.below hb
  replace hx := hx.below hb
  replace hy := hy.below hb
  replace hmx := hmx.below hb
  replace hmy := hmy.below hb
  replace hm := hm.below hb
  replace hbf := hbf.trans (hb.mono hbf.size)
  clear hb
  first | refine hK.out _ _ hbr (fun _ => ?_) | (go_wp2_with fail; refine hK.out _ _ hbr (fun _ => ?_))
  clear hK K
  (try simp only [Act.put, List.setIfInBounds_toArray, List.set_cons_zero, List.set_cons_succ])
  refine seq_step (by rfl) (fun K hK => ?_)
  go_simp
  go_at_call 17
  (with_reducible refine (rint_any v _ hv1 hv2).mono ?_)
  rintro e w12 hq9
  obtain ⟨jB, jxO, jxL, jxC, jyO, jyL, jyC, rfl, hS, hjx, hjy, hj, hb⟩ := hq9.out
  have HjS := Lib.hid hS; clear hS
  replace hbr := hbr.kept hb
  replace hn := hn.below hb
  replace hd := hd.below hb
  replace hrx := hrx.below hb
  replace hry := hry.below hb
  replace hr := hr.below hb
  replace hx := hx.below hb
  replace hy := hy.below hb
  replace hmx := hmx.below hb
  replace hmy := hmy.below hb
  replace hm := hm.below hb
  replace hkx := hkx.below hb
  replace hky := hky.below hb
  replace hk := hk.below hb
  replace hbf := hbf.trans (hb.mono hbf.size)
  clear hb
  first | refine hK.out _ _ hbr (fun _ => ?_) | (go_wp2_with fail; refine hK.out _ _ hbr (fun _ => ?_))
  clear hK K
  (try simp only [Act.put, List.setIfInBounds_toArray, List.set_cons_zero, List.set_cons_succ])
  refine seq_step (by rfl) (fun K hK => ?_)
  go_simp
  go_at_call 13
  (with_reducible refine (same2_any _ _ _ _ hk hj hqv).mono ?_)
  rintro e w13 ⟨rfl, hb⟩
  replace hbr := hbr.kept hb
  replace hn := hn.below hb
  replace hd := hd.below hb
  replace hrx := hrx.below hb
  replace hry := hry.below hb
  replace hr := hr.below hb
  replace hx := hx.below hb
  replace hy := hy.below hb
  replace hmx := hmx.below hb
  replace hmy := hmy.below hb
  replace hm := hm.below hb
  replace hkx := hkx.below hb
  replace hky := hky.below hb
  replace hk := hk.below hb
  replace hjx := hjx.below hb
  replace hjy := hjy.below hb
  replace hj := hj.below hb
  replace hbf := hbf.trans (hb.mono hbf.size)
  clear hb
  first | refine hK.out _ _ hbr (fun _ => ?_) | (go_wp2_with fail; refine hK.out _ _ hbr (fun _ => ?_))
  clear hK K
  (try simp only [Act.put, List.setIfInBounds_toArray, List.set_cons_zero, List.set_cons_succ])
  repeat (first | (refine seq_take (v := ?_) (by rfl) ?_ ?_; rotate_left; (· intro w hSw; (try dsimp only at hSw); obtain ⟨er0, er1, er2, _, _, _⟩ := hSw; go_simp; all_goals with_reducible rfl); (try simp only [Act.put, List.setIfInBounds_toArray, List.set_cons_zero, List.set_cons_succ])) | (refine seq_leave (by rfl) ?_; (try simp only [Act.put, List.setIfInBounds_toArray, List.set_cons_zero, List.set_cons_succ])))
  refine seq_end ?_
  go_wp2_with fail
  go_ret
  exact ⟨rfl, hbf⟩

theorem wf_u64 {a : Int} (h : (Lit.int .u64 a).wf = true) : 0 ≤ a ∧ a < 18446744073709551616 := by
  simp [Lit.wf, IntKind.min, IntKind.max, IntKind.signed, IntKind.bits] at h; omega
theorem wf_i64 {a : Int} (h : (Lit.int .i64 a).wf = true) : -9223372036854775808 ≤ a ∧ a ≤ 9223372036854775807 := by
  simp [Lit.wf, IntKind.min, IntKind.max, IntKind.signed, IntKind.bits] at h; omega
theorem ratMakes_walk (a0 : Bool) (a1 a2 a3 : Int) (w1 : (Lit.int .u64 a1).wf = true) (w2 : (Lit.int .u64 a2).wf = true) (w3 : (Lit.int .i64 a3).wf = true) (w : World) :
    Calls Tryd.prog 3 #[.bool a0, .int .u64 a1, .int .u64 a2, .int .i64 a3] w fun e w' => e = .returned (.bool true) ∧ Below w.heap.size w w' := by
  have h1 := wf_u64 w1
  have h2 := wf_u64 w2
  have h3 := wf_i64 w3
  have := ratMakes_main a0 a1.toNat a2.toNat a3 w (by omega) (by omega) h3.1 h3.2
  rwa [Int.toNat_of_nonneg h1.1, Int.toNat_of_nonneg h2.1] at this

end Go.Proofs.YtacflncmbnildaaDoor
