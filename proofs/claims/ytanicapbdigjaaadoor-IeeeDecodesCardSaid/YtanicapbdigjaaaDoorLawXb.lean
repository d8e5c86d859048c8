/-
  IeeeDecodes: the walk.
-/
import Derived.Test.YtanicapbdigjaaaDoorLawY
import Derived.Test.YtanicapbdigjaaaDoorIeeeG
namespace Go.Proofs.YtanicapbdigjaaaDoor
open Go.RowKit
set_option linter.unusedVariables false
set_option linter.unusedSimpArgs false
attribute [local go_sem] field_nat

theorem form_h (how x y e f : Int) (w : World) (he : Hid (formE how x = e)) (hf : Hid (formF how y = f)) : Calls Tryd.prog 9 #[.int .i64 how, .int .i64 x, .int .i64 y] w fun e' w' => e' = .returned (formV e f) ∧ Below w.heap.size w w' := by
  have h := form_any how x y w
  rwa [he.out, hf.out] at h
theorem rvalid_yes (E F : Nat) (w : World) (h1 : 2 ≤ E) (h2 : E ≤ 11) (h3 : 1 ≤ F) (h4 : F ≤ 52) : Calls Tryd.prog 12 #[.int .i64 (E : Int), .int .i64 (F : Int)] w fun e' w' => e' = .returned (.bool true) ∧ Below w.heap.size w w' := by
  have h := rvalid_any (E : Int) (F : Int) w
  rwa [decide_eq_true (by omega)] at h
theorem rvalid_no (e f : Int) (w : World) (hv : Hid (¬ (2 ≤ e ∧ e ≤ 11 ∧ 1 ≤ f ∧ f ≤ 52))) : Calls Tryd.prog 12 #[.int .i64 e, .int .i64 f] w fun e' w' => e' = .returned (.bool false) ∧ Below w.heap.size w w' := by
  have h := rvalid_any e f w
  rwa [decide_eq_false hv.out] at h

set_option maxRecDepth 100000 in
set_option maxHeartbeats 1000000 in
theorem ieeeDecodes_bad (how x y e f : Int) (b : Nat) (w : World) (HE : Hid (formE how x = e)) (HF : Hid (formF how y = f)) (hno : Hid (¬ (2 ≤ e ∧ e ≤ 11 ∧ 1 ≤ f ∧ f ≤ 52))) :
    Calls Tryd.prog 3 #[.int .i64 how, .int .i64 x, .int .i64 y, .int .u64 (b : Int)] w fun e w' => e = .returned (.bool true) ∧ Below w.heap.size w w' := by
  go_enter Tryd.func3, Tryd.ntmps3
  go_wp2_with fail
  refine (alive4_any _).mono ?_
  rintro e w1 ⟨rfl, hb⟩
  have hbf := hb
  clear hb
  go_wp2_with fail
  refine (form_h how x y e f _ HE HF).mono ?_
  rintro e w2 ⟨rfl, hb⟩
  replace hbf := hbf.trans (hb.mono hbf.size)
  clear hb
  obtain ⟨w3, hwE⟩ : ∃ W, W = (w2.alloc (.cells #[.int .i64 e, .int .i64 f] 25)) := ⟨_, rfl⟩
  have hb : Below w2.heap.size w2 w3 := by rw [hwE]; exact ((Below.refl _ w2).alloc (Nat.le_refl _) _)
  obtain ⟨pg, hpg⟩ : ∃ p, p = w2.heap.size := ⟨_, rfl⟩
  have hbg : Box2 w3 pg (Value.int .i64 e) (Value.int .i64 f) := by rw [hwE, hpg]; exact ⟨by go_simp, by go_simp, by go_simp, by go_simp⟩
  have HP : Hid (w.heap.size ≤ pg) := Lib.hid (by have h9 := hbf.size; omega)
  have HW := Lib.hid hwE; clear hwE
  go_upto_region 4 with fail
  rw [← HW.out, ← hpg]
  clear hpg HW
  replace hbf := hbf.trans (hb.mono hbf.size)
  clear hb
  have eg0 := hbg.c0
  have eg1 := hbg.c1
  go_wp2_with fail
  refine (decode_bad e f b _ hno).mono ?_
  rintro e w4 hq9
  obtain ⟨vB, vxO, vxL, vxC, vyO, vyL, vyC, rfl, hS, hvx, hvy, hv, hb⟩ := hq9.out
  have HvS := Lib.hid hS; clear hS
  clear eg0 eg1
  replace hbg := hbg.kept hb
  replace hbf := hbf.trans (hb.mono hbf.size)
  clear hb
  obtain ⟨w5, hwE⟩ : ∃ W, W = (w4.alloc (.cells #[.bool vB, .slice vxO vxL vxC, .slice vyO vyL vyC] 31)) := ⟨_, rfl⟩
  have hb : Below w4.heap.size w4 w5 := by rw [hwE]; exact ((Below.refl _ w4).alloc (Nat.le_refl _) _)
  obtain ⟨pr, hpr⟩ : ∃ p, p = w4.heap.size := ⟨_, rfl⟩
  have hbr : Box3 w5 pr (Value.bool vB) (Value.slice vxO vxL vxC) (Value.slice vyO vyL vyC) := by rw [hwE, hpr]; exact ⟨by go_simp, by go_simp, by go_simp, by go_simp, by go_simp, by go_simp⟩
  replace HP : Hid (w.heap.size ≤ pg ∧ pg < pr) := Lib.hid (by have h1 := HP.out; have h9 := hbf.size; have h2g := hbg.lt; omega)
  have HW := Lib.hid hwE; clear hwE
  go_upto_region 5 with fail
  rw [← HW.out, ← hpr]
  clear hpr HW
  replace hbg := hbg.kept hb
  replace hvx := hvx.below hb
  replace hvy := hvy.below hb
  replace hv := hv.below hb
  replace hbf := hbf.trans (hb.mono hbf.size)
  clear hb
  refine wp_region_seqQ (S := fun w' => Box2 w' pg (Value.int .i64 e) (Value.int .i64 f)) [(0, 512, some 26), (1, 67108864, some 27), (0, 512, some 28), (4, 268435456, some 29), (0, 512, some 30), (16, 1073741824, some 31), (42, 2684354560, some 32), (66, 4429185024, some 33)] [(true, 0), (true, 2), (true, 3), (true, 4), (true, 5), (false, 1), (false, 6), (true, 7)] (by kernel_rfl) (by kernel_rfl) (by kernel_rfl) (by kernel_rfl) (by kernel_rfl) (by kernel_rfl) (fun d _ _ _ _ h => by cases d <;> exact h) hbg.drew (fun _ => ?_)
  simp only [pickOps, List.append_eq, List.cons_append, List.nil_append, List.getElem?_toArray, List.getElem?_cons_succ, List.getElem?_cons_zero]
  have hb : Below w5.heap.size w5 w5.drew := (Below.refl _ _).drew
  generalize w5.drew = w6 at hb ⊢
  replace hbg := hbg.kept hb
  replace hbr := hbr.kept hb
  replace hvx := hvx.below hb
  replace hvy := hvy.below hb
  replace hv := hv.below hb
  replace hbf := hbf.trans (hb.mono hbf.size)
  clear hb
  repeat (first | (refine seq_take (v := ?_) (by rfl) ?_ ?_; rotate_left; (· intro w hSw; (try dsimp only at hSw); obtain ⟨eg0, eg1, _, _⟩ := hSw; go_simp; all_goals with_reducible rfl); (try simp only [Act.put, List.setIfInBounds_toArray, List.set_cons_zero, List.set_cons_succ])) | (refine seq_leave (by rfl) ?_; (try simp only [Act.put, List.setIfInBounds_toArray, List.set_cons_zero, List.set_cons_succ])))
  refine seq_step (by rfl) (fun K hK => ?_)
  go_simp
  go_at_call 11
  (with_reducible refine (valid_no e f _ hno).mono ?_)
  rintro e w7 ⟨rfl, hb⟩
  replace hbg := hbg.kept hb
  replace hbr := hbr.kept hb
  replace hvx := hvx.below hb
  replace hvy := hvy.below hb
  replace hv := hv.below hb
  replace hbf := hbf.trans (hb.mono hbf.size)
  clear hb
  first | refine hK.out _ _ hbg (fun _ => ?_) | (go_wp2_with fail; refine hK.out _ _ hbg (fun _ => ?_))
  clear hK K
  (try simp only [Act.put, List.setIfInBounds_toArray, List.set_cons_zero, List.set_cons_succ])
  refine seq_step (by rfl) (fun K hK => ?_)
  go_simp
  go_at_call 12
  (with_reducible refine (rvalid_no e f _ hno).mono ?_)
  rintro e w8 ⟨rfl, hb⟩
  replace hbg := hbg.kept hb
  replace hbr := hbr.kept hb
  replace hvx := hvx.below hb
  replace hvy := hvy.below hb
  replace hv := hv.below hb
  replace hbf := hbf.trans (hb.mono hbf.size)
  clear hb
  first | refine hK.out _ _ hbg (fun _ => ?_) | (go_wp2_with fail; refine hK.out _ _ hbg (fun _ => ?_))
  clear hK K
  (try simp only [Act.put, List.setIfInBounds_toArray, List.set_cons_zero, List.set_cons_succ])
  repeat (first | (refine seq_take (v := ?_) (by rfl) ?_ ?_; rotate_left; (· intro w hSw; (try dsimp only at hSw); obtain ⟨eg0, eg1, _, _⟩ := hSw; go_simp; all_goals with_reducible rfl); (try simp only [Act.put, List.setIfInBounds_toArray, List.set_cons_zero, List.set_cons_succ])) | (refine seq_leave (by rfl) ?_; (try simp only [Act.put, List.setIfInBounds_toArray, List.set_cons_zero, List.set_cons_succ])))
  refine seq_end ?_
  have eg0 := hbg.c0
  have eg1 := hbg.c1
  go_wp2_with fail
  refine (valid_no e f _ hno).mono ?_
  rintro e w9 ⟨rfl, hb⟩
  clear eg0 eg1
  replace hbg := hbg.kept hb
  replace hbr := hbr.kept hb
  replace hvx := hvx.below hb
  replace hvy := hvy.below hb
  replace hv := hv.below hb
  replace hbf := hbf.trans (hb.mono hbf.size)
  clear hb
  have er0 := hbr.c0
  have er1 := hbr.c1
  have er2 := hbr.c2
  go_wp2_with fail
  refine (text_t _ 0 [48] 66 _ hv (QB.zero _ (by decide)) (by decide) (Lib.hid qt_nought)).mono ?_
  rintro e w10 ⟨rfl, hb⟩
  clear er0 er1 er2
  replace hbg := hbg.kept hb
  replace hbr := hbr.kept hb
  replace hvx := hvx.below hb
  replace hvy := hvy.below hb
  replace hv := hv.below hb
  replace hbf := hbf.trans (hb.mono hbf.size)
  clear hb
  go_wp2_with fail
  go_ret
  exact ⟨rfl, hbf⟩

theorem rtext_t (v : Value) (q : Rat) (T : List UInt8) (k : Nat) (w : World) (h : RQIs w v q) (hq : QB q k) (hk : k ≤ 30000) (hT : Hid (qtext q = T)) : Calls Tryd.prog 15 #[v] w fun e w' => e = .returned (.string ⟨T.toArray⟩) ∧ Below w.heap.size w w' := by
  have h2 := rqtext_any v _ w h (hq.mono hk)
  rwa [hT.out] at h2

set_option maxRecDepth 100000 in
set_option maxHeartbeats 1000000 in
/-- IeeeDecodes. -/
theorem ieeeDecodes_good (how x y : Int) (E F b : Nat) (w : World) (HE : Hid (formE how x = (E : Int))) (HF : Hid (formF how y = (F : Int))) (hE2 : 2 ≤ E) (hE : E ≤ 11) (hF1 : 1 ≤ F) (hF : F ≤ 52) (hb64 : b < 18446744073709551616) :
    Calls Tryd.prog 3 #[.int .i64 how, .int .i64 x, .int .i64 y, .int .u64 (b : Int)] w fun e w' => e = .returned (.bool true) ∧ Below w.heap.size w w' := by
  go_enter Tryd.func3, Tryd.ntmps3
  go_wp2_with fail
  refine (alive4_any _).mono ?_
  rintro e w1 ⟨rfl, hb⟩
  have hbf := hb
  clear hb
  go_wp2_with fail
  refine (form_h how x y (E : Int) (F : Int) _ HE HF).mono ?_
  rintro e w2 ⟨rfl, hb⟩
  replace hbf := hbf.trans (hb.mono hbf.size)
  clear hb
  obtain ⟨w3, hwE⟩ : ∃ W, W = (w2.alloc (.cells #[.int .i64 (E : Int), .int .i64 (F : Int)] 25)) := ⟨_, rfl⟩
  have hb : Below w2.heap.size w2 w3 := by rw [hwE]; exact ((Below.refl _ w2).alloc (Nat.le_refl _) _)
  obtain ⟨pg, hpg⟩ : ∃ p, p = w2.heap.size := ⟨_, rfl⟩
  have hbg : Box2 w3 pg (Value.int .i64 (E : Int)) (Value.int .i64 (F : Int)) := by rw [hwE, hpg]; exact ⟨by go_simp, by go_simp, by go_simp, by go_simp⟩
  have HP : Hid (w.heap.size ≤ pg) := Lib.hid (by have h9 := hbf.size; omega)
  have HW := Lib.hid hwE; clear hwE
  go_upto_region 4 with fail
  rw [← HW.out, ← hpg]
  clear hpg HW
  replace hbf := hbf.trans (hb.mono hbf.size)
  clear hb
  have eg0 := hbg.c0
  have eg1 := hbg.c1
  go_wp2_with fail
  refine (decode_any E F b _ hE2 hE hF1 hF hb64).mono ?_
  rintro e w4 hq9
  obtain ⟨vB, vxO, vxL, vxC, vyO, vyL, vyC, rfl, hS, hvx, hvy, hv, hb⟩ := hq9.out
  have HvS := Lib.hid hS; clear hS
  clear eg0 eg1
  replace hbg := hbg.kept hb
  replace hbf := hbf.trans (hb.mono hbf.size)
  clear hb
  obtain ⟨w5, hwE⟩ : ∃ W, W = (w4.alloc (.cells #[.bool vB, .slice vxO vxL vxC, .slice vyO vyL vyC] 31)) := ⟨_, rfl⟩
  have hb : Below w4.heap.size w4 w5 := by rw [hwE]; exact ((Below.refl _ w4).alloc (Nat.le_refl _) _)
  obtain ⟨pr, hpr⟩ : ∃ p, p = w4.heap.size := ⟨_, rfl⟩
  have hbr : Box3 w5 pr (Value.bool vB) (Value.slice vxO vxL vxC) (Value.slice vyO vyL vyC) := by rw [hwE, hpr]; exact ⟨by go_simp, by go_simp, by go_simp, by go_simp, by go_simp, by go_simp⟩
  replace HP : Hid (w.heap.size ≤ pg ∧ pg < pr) := Lib.hid (by have h1 := HP.out; have h9 := hbf.size; have h2g := hbg.lt; omega)
  have HW := Lib.hid hwE; clear hwE
  go_upto_region 5 with fail
  rw [← HW.out, ← hpr]
  clear hpr HW
  replace hbg := hbg.kept hb
  replace hvx := hvx.below hb
  replace hvy := hvy.below hb
  replace hv := hv.below hb
  replace hbf := hbf.trans (hb.mono hbf.size)
  clear hb
  refine wp_region_seqQ (S := fun w' => Box2 w' pg (Value.int .i64 (E : Int)) (Value.int .i64 (F : Int))) [(0, 512, some 26), (1, 67108864, some 27), (0, 512, some 28), (4, 268435456, some 29), (0, 512, some 30), (16, 1073741824, some 31), (42, 2684354560, some 32), (66, 4429185024, some 33)] [(true, 0), (true, 2), (true, 3), (true, 4), (true, 5), (false, 1), (false, 6), (true, 7)] (by kernel_rfl) (by kernel_rfl) (by kernel_rfl) (by kernel_rfl) (by kernel_rfl) (by kernel_rfl) (fun d _ _ _ _ h => by cases d <;> exact h) hbg.drew (fun _ => ?_)
  simp only [pickOps, List.append_eq, List.cons_append, List.nil_append, List.getElem?_toArray, List.getElem?_cons_succ, List.getElem?_cons_zero]
  have hb : Below w5.heap.size w5 w5.drew := (Below.refl _ _).drew
  generalize w5.drew = w6 at hb ⊢
  replace hbg := hbg.kept hb
  replace hbr := hbr.kept hb
  replace hvx := hvx.below hb
  replace hvy := hvy.below hb
  replace hv := hv.below hb
  replace hbf := hbf.trans (hb.mono hbf.size)
  clear hb
  repeat (first | (refine seq_take (v := ?_) (by rfl) ?_ ?_; rotate_left; (· intro w hSw; (try dsimp only at hSw); obtain ⟨eg0, eg1, _, _⟩ := hSw; go_simp; all_goals with_reducible rfl); (try simp only [Act.put, List.setIfInBounds_toArray, List.set_cons_zero, List.set_cons_succ])) | (refine seq_leave (by rfl) ?_; (try simp only [Act.put, List.setIfInBounds_toArray, List.set_cons_zero, List.set_cons_succ])))
  refine seq_step (by rfl) (fun K hK => ?_)
  go_simp
  go_at_call 11
  (with_reducible refine (valid_yes E F _ hE2 hE hF1 hF).mono ?_)
  rintro e w7 ⟨rfl, hb⟩
  replace hbg := hbg.kept hb
  replace hbr := hbr.kept hb
  replace hvx := hvx.below hb
  replace hvy := hvy.below hb
  replace hv := hv.below hb
  replace hbf := hbf.trans (hb.mono hbf.size)
  clear hb
  first | refine hK.out _ _ hbg (fun _ => ?_) | (go_wp2_with fail; refine hK.out _ _ hbg (fun _ => ?_))
  clear hK K
  (try simp only [Act.put, List.setIfInBounds_toArray, List.set_cons_zero, List.set_cons_succ])
  refine seq_step (by rfl) (fun K hK => ?_)
  go_simp
  go_at_call 12
  (with_reducible refine (rvalid_yes E F _ hE2 hE hF1 hF).mono ?_)
  rintro e w8 ⟨rfl, hb⟩
  replace hbg := hbg.kept hb
  replace hbr := hbr.kept hb
  replace hvx := hvx.below hb
  replace hvy := hvy.below hb
  replace hv := hv.below hb
  replace hbf := hbf.trans (hb.mono hbf.size)
  clear hb
  first | refine hK.out _ _ hbg (fun _ => ?_) | (go_wp2_with fail; refine hK.out _ _ hbg (fun _ => ?_))
  clear hK K
  (try simp only [Act.put, List.setIfInBounds_toArray, List.set_cons_zero, List.set_cons_succ])
  repeat (first | (refine seq_take (v := ?_) (by rfl) ?_ ?_; rotate_left; (· intro w hSw; (try dsimp only at hSw); obtain ⟨eg0, eg1, _, _⟩ := hSw; go_simp; all_goals with_reducible rfl); (try simp only [Act.put, List.setIfInBounds_toArray, List.set_cons_zero, List.set_cons_succ])) | (refine seq_leave (by rfl) ?_; (try simp only [Act.put, List.setIfInBounds_toArray, List.set_cons_zero, List.set_cons_succ])))
  refine seq_end ?_
  have eg0 := hbg.c0
  have eg1 := hbg.c1
  go_wp2_with fail
  refine (valid_yes E F _ hE2 hE hF1 hF).mono ?_
  rintro e w9 ⟨rfl, hb⟩
  clear eg0 eg1
  replace hbg := hbg.kept hb
  replace hbr := hbr.kept hb
  replace hvx := hvx.below hb
  replace hvy := hvy.below hb
  replace hv := hv.below hb
  replace hbf := hbf.trans (hb.mono hbf.size)
  clear hb
  by_cases h9 : 9 < E
  case pos =>
    have hc : decide ((9 : Int) < (E : Int)) = true := decide_eq_true (by omega)
    have eg0 := hbg.c0
    have eg1 := hbg.c1
    go_wp2_with fail
    go_ret
    exact ⟨rfl, hbf⟩
  case neg =>
    have hc : decide ((9 : Int) < (E : Int)) = false := decide_eq_false (by omega)
    have hqv := dval_qb (E := E) (F := F) (p := b) hE hF
    obtain ⟨T, hT⟩ : ∃ T, qtext (dval' E F b) = T := ⟨_, rfl⟩
    have HT := Lib.hid hT
    clear hT
    have eg0 := hbg.c0
    have eg1 := hbg.c1
    go_wp2_with fail
    refine (rdecode_any E F b _ hE2 hE hF1 hF hb64).mono ?_
    rintro e w10 hq9
    obtain ⟨uB, uxO, uxL, uxC, uyO, uyL, uyC, rfl, hS, hux, huy, hu, hb⟩ := hq9.out
    have HuS := Lib.hid hS; clear hS
    clear eg0 eg1
    replace hbg := hbg.kept hb
    replace hbr := hbr.kept hb
    replace hvx := hvx.below hb
    replace hvy := hvy.below hb
    replace hv := hv.below hb
    replace hbf := hbf.trans (hb.mono hbf.size)
    clear hb
    obtain ⟨w11, hwE⟩ : ∃ W, W = (w10.alloc (.cells #[.bool uB, .slice uxO uxL uxC, .slice uyO uyL uyC] 39)) := ⟨_, rfl⟩
    have hb : Below w10.heap.size w10 w11 := by rw [hwE]; exact ((Below.refl _ w10).alloc (Nat.le_refl _) _)
    obtain ⟨px, hpx⟩ : ∃ p, p = w10.heap.size := ⟨_, rfl⟩
    have hbx : Box3 w11 px (Value.bool uB) (Value.slice uxO uxL uxC) (Value.slice uyO uyL uyC) := by rw [hwE, hpx]; exact ⟨by go_simp, by go_simp, by go_simp, by go_simp, by go_simp, by go_simp⟩
    replace HP : Hid (w.heap.size ≤ pg ∧ pg < pr ∧ pr < px) := Lib.hid (by have h1 := HP.out; have h9 := hbf.size; have h2r := hbr.lt; omega)
    have HW := Lib.hid hwE; clear hwE
    go_upto_region 12 with fail
    rw [← HW.out, ← hpx]
    clear hpx HW
    replace hbg := hbg.kept hb
    replace hbr := hbr.kept hb
    replace hvx := hvx.below hb
    replace hvy := hvy.below hb
    replace hv := hv.below hb
    replace hux := hux.below hb
    replace huy := huy.below hb
    replace hu := hu.below hb
    replace hbf := hbf.trans (hb.mono hbf.size)
    clear hb
    generalize dkind E F b = km at *
    have hkk : (km == km) = true := beq_self_eq_true _
    refine wp_region_seqQ (S := fun w' => Box3 w' pr (Value.bool vB) (Value.slice vxO vxL vxC) (Value.slice vyO vyL vyC) ∧ Box3 w' px (Value.bool uB) (Value.slice uxO uxL uxC) (Value.slice uyO uyL uyC)) [(0, 2048, some 56), (0, 8192, some 57), (3, 216172782113783808, some 58), (4, 288230376151711744, some 59), (8, 576460752303424512, some 60), (24, 1729382256910270464, some 61), (8, 576460752303427584, some 62), (104, 5188146770730811392, some 63), (168, 12105675798371893248, some 64), (264, 19023204826012975104, some 65), (1023, 36893488147419103232, some 8)] [(true, 0), (true, 1), (true, 2), (true, 3), (true, 4), (true, 6), (false, 5), (false, 7), (true, 8), (true, 9), (true, 10)] (by kernel_rfl) (by kernel_rfl) (by kernel_rfl) (by kernel_rfl) (by kernel_rfl) (by kernel_rfl) (fun d _ _ _ _ h => by cases d <;> exact h) ⟨hbr.drew, hbx.drew⟩ (fun _ => ?_)
    simp only [pickOps, List.append_eq, List.cons_append, List.nil_append, List.getElem?_toArray, List.getElem?_cons_succ, List.getElem?_cons_zero]
    have hb : Below w11.heap.size w11 w11.drew := (Below.refl _ _).drew
    generalize w11.drew = w12 at hb ⊢
    replace hbg := hbg.kept hb
    replace hbr := hbr.kept hb
    replace hbx := hbx.kept hb
    replace hvx := hvx.below hb
    replace hvy := hvy.below hb
    replace hv := hv.below hb
    replace hux := hux.below hb
    replace huy := huy.below hb
    replace hu := hu.below hb
    replace hbf := hbf.trans (hb.mono hbf.size)
    clear hb
    repeat (first | (refine seq_take (v := ?_) (by rfl) ?_ ?_; rotate_left; (· intro w hSw; (try dsimp only at hSw); obtain ⟨⟨er0, er1, er2, _, _, _⟩, ⟨ex0, ex1, ex2, _, _, _⟩⟩ := hSw; go_simp; all_goals with_reducible rfl); (try simp only [Act.put, List.setIfInBounds_toArray, List.set_cons_zero, List.set_cons_succ])) | (refine seq_leave (by rfl) ?_; (try simp only [Act.put, List.setIfInBounds_toArray, List.set_cons_zero, List.set_cons_succ])))
    refine seq_step (by rfl) (fun K hK => ?_)
    go_simp
    go_at_call 13
    (with_reducible refine (text_t _ _ T 66 _ hv hqv (by decide) HT).mono ?_)
    rintro e w13 ⟨rfl, hb⟩
    replace hbg := hbg.kept hb
    replace hbr := hbr.kept hb
    replace hbx := hbx.kept hb
    replace hvx := hvx.below hb
    replace hvy := hvy.below hb
    replace hv := hv.below hb
    replace hux := hux.below hb
    replace huy := huy.below hb
    replace hu := hu.below hb
    replace hbf := hbf.trans (hb.mono hbf.size)
    clear hb
    first | refine hK.out _ _ ⟨hbr, hbx⟩ (fun _ => ?_) | (go_wp2_with fail; refine hK.out _ _ ⟨hbr, hbx⟩ (fun _ => ?_))
    clear hK K
    (try simp only [Act.put, List.setIfInBounds_toArray, List.set_cons_zero, List.set_cons_succ])
    refine seq_step (by rfl) (fun K hK => ?_)
    go_simp
    go_at_call 15
    (with_reducible refine (rtext_t _ _ T 66 _ hu hqv (by decide) HT).mono ?_)
    rintro e w14 ⟨rfl, hb⟩
    replace hbg := hbg.kept hb
    replace hbr := hbr.kept hb
    replace hbx := hbx.kept hb
    replace hvx := hvx.below hb
    replace hvy := hvy.below hb
    replace hv := hv.below hb
    replace hux := hux.below hb
    replace huy := huy.below hb
    replace hu := hu.below hb
    replace hbf := hbf.trans (hb.mono hbf.size)
    clear hb
    first | refine hK.out _ _ ⟨hbr, hbx⟩ (fun _ => ?_) | (go_wp2_with fail; refine hK.out _ _ ⟨hbr, hbx⟩ (fun _ => ?_))
    clear hK K
    (try simp only [Act.put, List.setIfInBounds_toArray, List.set_cons_zero, List.set_cons_succ])
    repeat (first | (refine seq_take (v := ?_) (by rfl) ?_ ?_; rotate_left; (· intro w hSw; (try dsimp only at hSw); obtain ⟨⟨er0, er1, er2, _, _, _⟩, ⟨ex0, ex1, ex2, _, _, _⟩⟩ := hSw; go_simp; all_goals with_reducible rfl); (try simp only [Act.put, List.setIfInBounds_toArray, List.set_cons_zero, List.set_cons_succ])) | (refine seq_leave (by rfl) ?_; (try simp only [Act.put, List.setIfInBounds_toArray, List.set_cons_zero, List.set_cons_succ])))
    refine seq_end ?_
    go_wp2_with fail
    go_ret
    exact ⟨rfl, hbf⟩

theorem ieeeDecodes_walk (a0 a1 a2 a3 : Int) (w0 : (Lit.int .i64 a0).wf = true) (w1 : (Lit.int .i64 a1).wf = true) (w2 : (Lit.int .i64 a2).wf = true) (w3 : (Lit.int .u64 a3).wf = true) (w : World) :
    Calls Tryd.prog 3 #[.int .i64 a0, .int .i64 a1, .int .i64 a2, .int .u64 a3] w fun e w' => e = .returned (.bool true) ∧ Below w.heap.size w w' := by
  have h3 := wf_u64 w3
  rw [← Int.toNat_of_nonneg h3.1]
  obtain ⟨e, he⟩ : ∃ e, formE a0 a1 = e := ⟨_, rfl⟩
  obtain ⟨f, hf⟩ : ∃ f, formF a0 a2 = f := ⟨_, rfl⟩
  by_cases hv : 2 ≤ e ∧ e ≤ 11 ∧ 1 ≤ f ∧ f ≤ 52
  · obtain ⟨E, rfl⟩ : ∃ E : Nat, e = (E : Int) := ⟨e.toNat, by omega⟩
    obtain ⟨F, rfl⟩ : ∃ F : Nat, f = (F : Int) := ⟨f.toNat, by omega⟩
    exact ieeeDecodes_good a0 a1 a2 E F a3.toNat w (Lib.hid he) (Lib.hid hf) (by omega) (by omega) (by omega) (by omega) (by omega)
  · exact ieeeDecodes_bad a0 a1 a2 e f a3.toNat w (Lib.hid he) (Lib.hid hf) (Lib.hid hv)
end Go.Proofs.YtanicapbdigjaaaDoor
