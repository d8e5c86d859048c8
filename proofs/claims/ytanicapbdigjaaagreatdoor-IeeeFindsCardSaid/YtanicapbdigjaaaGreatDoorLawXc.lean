/-
  IeeeFinds: the walk.
-/
import Derived.Test.YtanicapbdigjaaaGreatDoorIeeeH
import Derived.Test.YtanicapbdigjaaaGreatDoorRefS
namespace Go.Proofs.YtanicapbdigjaaaGreatDoor
open Go.RowKit
set_option linter.unusedVariables false
set_option linter.unusedSimpArgs false
attribute [local go_sem] field_nat

theorem form_h (how x y e f : Int) (w : World) (he : Hid (formE how x = e)) (hf : Hid (formF how y = f)) : Calls Tryz.prog 4 #[.int .i64 how, .int .i64 x, .int .i64 y] w fun e' w' => e' = .returned (formV e f) ∧ Below w.heap.size w w' := by
  have h := form_any how x y w
  rwa [he.out, hf.out] at h

set_option maxRecDepth 100000 in
set_option maxHeartbeats 1000000 in
/-- Exact of no form. -/
theorem exact_bad (e f : Int) (v : Value) (r : Rat) (w : World) (h : QIs w v r) (hno : Hid (¬ (2 ≤ e ∧ e ≤ 11 ∧ 1 ≤ f ∧ f ≤ 52))) : Calls Tryz.prog 9 #[formV e f, v] w fun e' w' => e' = .returned (.tuple #[.int .u64 0, .bool false]) ∧ Below w.heap.size w w' := by
  obtain ⟨qB, qxO, qxL, qxC, qyO, qyL, qyC, rfl, hS, hqx, hqy⟩ := h.form
  have HqS := Lib.hid hS; clear hS
  obtain ⟨w0, hw0⟩ : ∃ w0, w0 = ((w.alloc (.cells #[.int .i64 e, .int .i64 f] 23)).alloc (.cells #[.bool qB, .slice qxO qxL qxC, .slice qyO qyL qyC] 30)) := ⟨_, rfl⟩
  have hbf : Below w.heap.size w w0 := by rw [hw0]; exact (((Below.refl _ w).alloc (Nat.le_refl _) _).alloc (by simp <;> omega) _)
  obtain ⟨pg, hpg⟩ : ∃ p, p = w.heap.size := ⟨_, rfl⟩
  have hbg : Box2 w0 pg (Value.int .i64 e) (Value.int .i64 f) := by rw [hw0, hpg]; exact ⟨by go_simp, by go_simp, by go_simp, by go_simp⟩
  obtain ⟨pq, hpq⟩ : ∃ p, p = w.heap.size + 1 := ⟨_, rfl⟩
  have hbq : Box3 w0 pq (Value.bool qB) (Value.slice qxO qxL qxC) (Value.slice qyO qyL qyC) := by rw [hw0, hpq]; exact ⟨by go_simp, by go_simp, by go_simp, by go_simp, by go_simp, by go_simp⟩
  have HP : Hid (w.heap.size ≤ pg ∧ pg < pq) := Lib.hid (by omega)
  replace h := h.below hbf
  replace hqx := hqx.below hbf
  replace hqy := hqy.below hbf
  have HW := Lib.hid hw0; clear hw0
  go_enter Tryz.func9, Tryz.ntmps9
  go_upto_region 1 with fail
  rw [← HW.out, ← hpq, ← hpg]
  clear hpg hpq HW
  have eg0 := hbg.c0
  have eg1 := hbg.c1
  go_wp2_with fail
  refine (valid_no e f _ hno).mono ?_
  rintro e w1 ⟨rfl, hb⟩
  clear eg0 eg1
  replace hbg := hbg.kept hb
  replace hbq := hbq.kept hb
  replace h := h.below hb
  replace hqx := hqx.below hb
  replace hqy := hqy.below hb
  replace hbf := hbf.trans (hb.mono hbf.size)
  clear hb
  go_wp2_with fail
  go_ret2
  exact ⟨ret_two rfl rfl, hbf⟩

set_option maxRecDepth 100000 in
set_option maxHeartbeats 1000000 in
/-- Below of no form. -/
theorem below_bad (e f : Int) (v : Value) (r : Rat) (w : World) (h : QIs w v r) (hno : Hid (¬ (2 ≤ e ∧ e ≤ 11 ∧ 1 ≤ f ∧ f ≤ 52))) : Calls Tryz.prog 10 #[formV e f, v] w fun e' w' => e' = .returned (.tuple #[.int .u64 0, .bool false]) ∧ Below w.heap.size w w' := by
  obtain ⟨qB, qxO, qxL, qxC, qyO, qyL, qyC, rfl, hS, hqx, hqy⟩ := h.form
  have HqS := Lib.hid hS; clear hS
  obtain ⟨w0, hw0⟩ : ∃ w0, w0 = ((w.alloc (.cells #[.int .i64 e, .int .i64 f] 23)).alloc (.cells #[.bool qB, .slice qxO qxL qxC, .slice qyO qyL qyC] 30)) := ⟨_, rfl⟩
  have hbf : Below w.heap.size w w0 := by rw [hw0]; exact (((Below.refl _ w).alloc (Nat.le_refl _) _).alloc (by simp <;> omega) _)
  obtain ⟨pg, hpg⟩ : ∃ p, p = w.heap.size := ⟨_, rfl⟩
  have hbg : Box2 w0 pg (Value.int .i64 e) (Value.int .i64 f) := by rw [hw0, hpg]; exact ⟨by go_simp, by go_simp, by go_simp, by go_simp⟩
  obtain ⟨pq, hpq⟩ : ∃ p, p = w.heap.size + 1 := ⟨_, rfl⟩
  have hbq : Box3 w0 pq (Value.bool qB) (Value.slice qxO qxL qxC) (Value.slice qyO qyL qyC) := by rw [hw0, hpq]; exact ⟨by go_simp, by go_simp, by go_simp, by go_simp, by go_simp, by go_simp⟩
  have HP : Hid (w.heap.size ≤ pg ∧ pg < pq) := Lib.hid (by omega)
  replace h := h.below hbf
  replace hqx := hqx.below hbf
  replace hqy := hqy.below hbf
  have HW := Lib.hid hw0; clear hw0
  go_enter Tryz.func10, Tryz.ntmps10
  go_upto_region 1 with fail
  rw [← HW.out, ← hpq, ← hpg]
  clear hpg hpq HW
  have eg0 := hbg.c0
  have eg1 := hbg.c1
  go_wp2_with fail
  refine (valid_no e f _ hno).mono ?_
  rintro e w1 ⟨rfl, hb⟩
  clear eg0 eg1
  replace hbg := hbg.kept hb
  replace hbq := hbq.kept hb
  replace h := h.below hb
  replace hqx := hqx.below hb
  replace hqy := hqy.below hb
  replace hbf := hbf.trans (hb.mono hbf.size)
  clear hb
  go_wp2_with fail
  go_ret2
  exact ⟨ret_two rfl rfl, hbf⟩

set_option maxRecDepth 100000 in
set_option maxHeartbeats 1000000 in
/-- Nearest of no form. -/
theorem nearest_bad (e f : Int) (v : Value) (r : Rat) (w : World) (h : QIs w v r) (hno : Hid (¬ (2 ≤ e ∧ e ≤ 11 ∧ 1 ≤ f ∧ f ≤ 52))) : Calls Tryz.prog 12 #[formV e f, v] w fun e' w' => e' = .returned (.int .u64 0) ∧ Below w.heap.size w w' := by
  obtain ⟨qB, qxO, qxL, qxC, qyO, qyL, qyC, rfl, hS, hqx, hqy⟩ := h.form
  have HqS := Lib.hid hS; clear hS
  obtain ⟨w0, hw0⟩ : ∃ w0, w0 = ((w.alloc (.cells #[.int .i64 e, .int .i64 f] 23)).alloc (.cells #[.bool qB, .slice qxO qxL qxC, .slice qyO qyL qyC] 30)) := ⟨_, rfl⟩
  have hbf : Below w.heap.size w w0 := by rw [hw0]; exact (((Below.refl _ w).alloc (Nat.le_refl _) _).alloc (by simp <;> omega) _)
  obtain ⟨pg, hpg⟩ : ∃ p, p = w.heap.size := ⟨_, rfl⟩
  have hbg : Box2 w0 pg (Value.int .i64 e) (Value.int .i64 f) := by rw [hw0, hpg]; exact ⟨by go_simp, by go_simp, by go_simp, by go_simp⟩
  obtain ⟨pq, hpq⟩ : ∃ p, p = w.heap.size + 1 := ⟨_, rfl⟩
  have hbq : Box3 w0 pq (Value.bool qB) (Value.slice qxO qxL qxC) (Value.slice qyO qyL qyC) := by rw [hw0, hpq]; exact ⟨by go_simp, by go_simp, by go_simp, by go_simp, by go_simp, by go_simp⟩
  have HP : Hid (w.heap.size ≤ pg ∧ pg < pq) := Lib.hid (by omega)
  replace h := h.below hbf
  replace hqx := hqx.below hbf
  replace hqy := hqy.below hbf
  have HW := Lib.hid hw0; clear hw0
  go_enter Tryz.func12, Tryz.ntmps12
  go_upto_region 1 with fail
  rw [← HW.out, ← hpq, ← hpg]
  clear hpg hpq HW
  have eg0 := hbg.c0
  have eg1 := hbg.c1
  go_wp2_with fail
  refine (valid_no e f _ hno).mono ?_
  rintro e w1 ⟨rfl, hb⟩
  clear eg0 eg1
  replace hbg := hbg.kept hb
  replace hbq := hbq.kept hb
  replace h := h.below hb
  replace hqx := hqx.below hb
  replace hqy := hqy.below hb
  replace hbf := hbf.trans (hb.mono hbf.size)
  clear hb
  go_wp2_with fail
  go_ret
  exact ⟨rfl, hbf⟩

set_option maxRecDepth 100000 in
set_option maxHeartbeats 1000000 in
/-- Above of no form. -/
theorem above_bad (e f : Int) (v : Value) (r : Rat) (k : Nat) (w : World) (h : QIs w v r) (hqb : QB r k) (hk : k ≤ 80000) (hno : Hid (¬ (2 ≤ e ∧ e ≤ 11 ∧ 1 ≤ f ∧ f ≤ 52))) : Calls Tryz.prog 11 #[formV e f, v] w fun e' w' => e' = .returned (.tuple #[.int .u64 0, .bool false]) ∧ Below w.heap.size w w' := by
  obtain ⟨qB, qxO, qxL, qxC, qyO, qyL, qyC, rfl, hS, hqx, hqy⟩ := h.form
  have HqS := Lib.hid hS; clear hS
  obtain ⟨w0, hw0⟩ : ∃ w0, w0 = ((w.alloc (.cells #[.int .i64 e, .int .i64 f] 23)).alloc (.cells #[.bool qB, .slice qxO qxL qxC, .slice qyO qyL qyC] 30)) := ⟨_, rfl⟩
  have hbf : Below w.heap.size w w0 := by rw [hw0]; exact (((Below.refl _ w).alloc (Nat.le_refl _) _).alloc (by simp <;> omega) _)
  obtain ⟨pg, hpg⟩ : ∃ p, p = w.heap.size := ⟨_, rfl⟩
  have hbg : Box2 w0 pg (Value.int .i64 e) (Value.int .i64 f) := by rw [hw0, hpg]; exact ⟨by go_simp, by go_simp, by go_simp, by go_simp⟩
  obtain ⟨pq, hpq⟩ : ∃ p, p = w.heap.size + 1 := ⟨_, rfl⟩
  have hbq : Box3 w0 pq (Value.bool qB) (Value.slice qxO qxL qxC) (Value.slice qyO qyL qyC) := by rw [hw0, hpq]; exact ⟨by go_simp, by go_simp, by go_simp, by go_simp, by go_simp, by go_simp⟩
  have HP : Hid (w.heap.size ≤ pg ∧ pg < pq) := Lib.hid (by omega)
  replace h := h.below hbf
  replace hqx := hqx.below hbf
  replace hqy := hqy.below hbf
  have HW := Lib.hid hw0; clear hw0
  go_enter Tryz.func11, Tryz.ntmps11
  go_upto_region 1 with fail
  rw [← HW.out, ← hpq, ← hpg]
  clear hpg hpq HW
  have eg0 := hbg.c0
  have eg1 := hbg.c1
  have eq0 := hbq.c0
  have eq1 := hbq.c1
  have eq2 := hbq.c2
  go_wp2_with fail
  clear eg0 eg1 eq0 eq1 eq2
  refine wp_region_seqQ (S := fun w' => Box2 w' pg (Value.int .i64 e) (Value.int .i64 f) ∧ Box3 w' pq (Value.bool qB) (Value.slice qxO qxL qxC) (Value.slice qyO qyL qyC)) [(0, 4, some 11), (0, 8, some 12), (2, 4096, some 13), (5, 10240, some 14), (8, 16384, some 10), (16, 1024, some 15), (16, 1024, some 16), (63, 32768, some 6), (255, 65536, some 7)] [(true, 0), (true, 1), (false, 2), (false, 3), (true, 4), (true, 5), (true, 6), (true, 7), (true, 8)] (by kernel_rfl) (by kernel_rfl) (by kernel_rfl) (by kernel_rfl) (by kernel_rfl) (by kernel_rfl) (fun d _ _ _ _ h => by cases d <;> exact h) ⟨hbg.drew, hbq.drew⟩ (fun _ => ?_)
  simp only [pickOps, List.append_eq, List.cons_append, List.nil_append, List.getElem?_toArray, List.getElem?_cons_succ, List.getElem?_cons_zero]
  have hb : Below w0.heap.size w0 w0.drew := (Below.refl _ _).drew
  generalize w0.drew = w1 at hb ⊢
  replace hbg := hbg.kept hb
  replace hbq := hbq.kept hb
  replace h := h.below hb
  replace hqx := hqx.below hb
  replace hqy := hqy.below hb
  replace hbf := hbf.trans (hb.mono hbf.size)
  clear hb
  repeat (first | (refine seq_take (v := ?_) (by rfl) ?_ ?_; rotate_left; (· intro w hSw; (try dsimp only at hSw); obtain ⟨⟨eg0, eg1, _, _⟩, ⟨eq0, eq1, eq2, _, _, _⟩⟩ := hSw; go_simp; all_goals with_reducible rfl); (try simp only [Act.put, List.setIfInBounds_toArray, List.set_cons_zero, List.set_cons_succ])) | (refine seq_leave (by rfl) ?_; (try simp only [Act.put, List.setIfInBounds_toArray, List.set_cons_zero, List.set_cons_succ])))
  refine seq_step (by rfl) (fun K hK => ?_)
  go_simp
  go_at_call 36
  (with_reducible refine (fminus_any _ r k _ h hqb hk).mono ?_)
  rintro e w2 hq9
  obtain ⟨mB, mxO, mxL, mxC, myO, myL, myC, rfl, hS, hmx, hmy, hm, hb⟩ := hq9.out
  have HmS := Lib.hid hS; clear hS
  replace hbg := hbg.kept hb
  replace hbq := hbq.kept hb
  replace h := h.below hb
  replace hqx := hqx.below hb
  replace hqy := hqy.below hb
  replace hbf := hbf.trans (hb.mono hbf.size)
  clear hb
  first | refine hK.out _ _ ⟨hbg, hbq⟩ (fun _ => ?_) | (go_wp2_with fail; refine hK.out _ _ ⟨hbg, hbq⟩ (fun _ => ?_))
  clear hK K
  (try simp only [Act.put, List.setIfInBounds_toArray, List.set_cons_zero, List.set_cons_succ])
  refine seq_step (by rfl) (fun K hK => ?_)
  go_simp
  go_at_call 10
  (with_reducible refine (below_bad e f _ (-r) _ hm hno).mono ?_)
  rintro e w3 ⟨rfl, hb⟩
  replace hbg := hbg.kept hb
  replace hbq := hbq.kept hb
  replace h := h.below hb
  replace hqx := hqx.below hb
  replace hqy := hqy.below hb
  replace hmx := hmx.below hb
  replace hmy := hmy.below hb
  replace hm := hm.below hb
  replace hbf := hbf.trans (hb.mono hbf.size)
  clear hb
  first | refine hK.out _ _ ⟨hbg, hbq⟩ (fun _ => ?_) | (go_wp2_with fail; refine hK.out _ _ ⟨hbg, hbq⟩ (fun _ => ?_))
  clear hK K
  (try simp only [Act.put, List.setIfInBounds_toArray, List.set_cons_zero, List.set_cons_succ])
  repeat (first | (refine seq_take (v := ?_) (by rfl) ?_ ?_; rotate_left; (· intro w hSw; (try dsimp only at hSw); obtain ⟨⟨eg0, eg1, _, _⟩, ⟨eq0, eq1, eq2, _, _, _⟩⟩ := hSw; go_simp; all_goals with_reducible rfl); (try simp only [Act.put, List.setIfInBounds_toArray, List.set_cons_zero, List.set_cons_succ])) | (refine seq_leave (by rfl) ?_; (try simp only [Act.put, List.setIfInBounds_toArray, List.set_cons_zero, List.set_cons_succ])))
  refine seq_end ?_
  go_wp2_with fail
  go_ret2
  exact ⟨ret_two rfl rfl, hbf⟩

set_option maxRecDepth 100000 in
set_option maxHeartbeats 1000000 in
/-- IeeeFinds, of long texts. -/
theorem ieeeFinds_long (how x y e f : Int) (l : List UInt8) (w : World) (HE : Hid (formE how x = e)) (HF : Hid (formF how y = f)) (h1 : (60 : Int) < ((l.length : Nat) : Int)) :
    Calls Tryz.prog 3 #[.int .i64 how, .int .i64 x, .int .i64 y, .string ⟨l.toArray⟩] w fun e w' => e = .returned (.bool true) ∧ Below w.heap.size w w' := by
  go_enter Tryz.func3, Tryz.ntmps3
  go_wp2_with fail
  refine (form_h how x y e f _ HE HF).mono ?_
  rintro e w1 ⟨rfl, hb⟩
  have hbf := hb
  clear hb
  obtain ⟨w2, hwE⟩ : ∃ W, W = (w1.alloc (.cells #[.int .i64 e, .int .i64 f] 23)) := ⟨_, rfl⟩
  have hb : Below w1.heap.size w1 w2 := by rw [hwE]; exact ((Below.refl _ w1).alloc (Nat.le_refl _) _)
  obtain ⟨pg, hpg⟩ : ∃ p, p = w1.heap.size := ⟨_, rfl⟩
  have hbg : Box2 w2 pg (Value.int .i64 e) (Value.int .i64 f) := by rw [hwE, hpg]; exact ⟨by go_simp, by go_simp, by go_simp, by go_simp⟩
  have HP : Hid (w.heap.size ≤ pg) := Lib.hid (by have h9 := hbf.size; omega)
  have HW := Lib.hid hwE; clear hwE
  go_upto_region 2 with fail
  rw [← HW.out, ← hpg]
  clear hpg HW
  replace hbf := hbf.trans (hb.mono hbf.size)
  clear hb
  go_wp2_with fail
  refine (alive4_any _).mono ?_
  rintro e w3 ⟨rfl, hb⟩
  replace hbg := hbg.kept hb
  replace hbf := hbf.trans (hb.mono hbf.size)
  clear hb
  go_wp2_with fail
  go_ret
  exact ⟨rfl, hbf⟩

set_option maxRecDepth 100000 in
set_option maxHeartbeats 1000000 in
/-- IeeeFinds, of great forms. -/
theorem ieeeFinds_great (how x y : Int) (E F : Nat) (l : List UInt8) (w : World) (HE : Hid (formE how x = (E : Int))) (HF : Hid (formF how y = (F : Int))) (hE2 : 2 ≤ E) (hE : E ≤ 11) (hF1 : 1 ≤ F) (hF : F ≤ 52) (hl : l.length ≤ 60) (h8 : 8 < E) :
    Calls Tryz.prog 3 #[.int .i64 how, .int .i64 x, .int .i64 y, .string ⟨l.toArray⟩] w fun e w' => e = .returned (.bool true) ∧ Below w.heap.size w w' := by
  have k1 : ¬ (60 : Int) < ((l.length : Nat) : Int) := by omega
  have k2 : (8 : Int) < (E : Int) := by omega
  go_enter Tryz.func3, Tryz.ntmps3
  go_wp2_with fail
  refine (form_h how x y (E : Int) (F : Int) _ HE HF).mono ?_
  rintro e w1 ⟨rfl, hb⟩
  have hbf := hb
  clear hb
  obtain ⟨w2, hwE⟩ : ∃ W, W = (w1.alloc (.cells #[.int .i64 (E : Int), .int .i64 (F : Int)] 23)) := ⟨_, rfl⟩
  have hb : Below w1.heap.size w1 w2 := by rw [hwE]; exact ((Below.refl _ w1).alloc (Nat.le_refl _) _)
  obtain ⟨pg, hpg⟩ : ∃ p, p = w1.heap.size := ⟨_, rfl⟩
  have hbg : Box2 w2 pg (Value.int .i64 (E : Int)) (Value.int .i64 (F : Int)) := by rw [hwE, hpg]; exact ⟨by go_simp, by go_simp, by go_simp, by go_simp⟩
  have HP : Hid (w.heap.size ≤ pg) := Lib.hid (by have h9 := hbf.size; omega)
  have HW := Lib.hid hwE; clear hwE
  go_upto_region 2 with fail
  rw [← HW.out, ← hpg]
  clear hpg HW
  replace hbf := hbf.trans (hb.mono hbf.size)
  clear hb
  have eg0 := hbg.c0
  have eg1 := hbg.c1
  go_wp2_with fail
  refine (valid_yes E F _ hE2 hE hF1 hF).mono ?_
  rintro e w3 ⟨rfl, hb⟩
  clear eg0 eg1
  replace hbg := hbg.kept hb
  replace hbf := hbf.trans (hb.mono hbf.size)
  clear hb
  have eg0 := hbg.c0
  have eg1 := hbg.c1
  go_upto_region 3 with fail
  clear eg0 eg1
  go_wp2_with fail
  refine (alive4_any _).mono ?_
  rintro e w4 ⟨rfl, hb⟩
  replace hbg := hbg.kept hb
  replace hbf := hbf.trans (hb.mono hbf.size)
  clear hb
  go_wp2_with fail
  go_ret
  exact ⟨rfl, hbf⟩

set_option maxRecDepth 100000 in
set_option maxHeartbeats 1000000 in
/-- IeeeFinds, of no form. -/
theorem ieeeFinds_bad (how x y e f : Int) (l : List UInt8) (w : World) (HE : Hid (formE how x = e)) (HF : Hid (formF how y = f)) (hno : Hid (¬ (2 ≤ e ∧ e ≤ 11 ∧ 1 ≤ f ∧ f ≤ 52))) (hl : l.length ≤ 60) :
    Calls Tryz.prog 3 #[.int .i64 how, .int .i64 x, .int .i64 y, .string ⟨l.toArray⟩] w fun e w' => e = .returned (.bool true) ∧ Below w.heap.size w w' := by
  have k1 : ¬ (60 : Int) < ((l.length : Nat) : Int) := by omega
  have hqr := QB.val (l := l) (K := 61) (by omega)
  obtain ⟨qr, hre⟩ : ∃ a, a = qval l := ⟨_, rfl⟩
  obtain ⟨kr, hrc⟩ : ∃ c, c = qcode l := ⟨_, rfl⟩
  rw [← hre] at hqr
  have HrE := Lib.hid hre
  have HrC := Lib.hid hrc
  clear hre hrc
  go_enter Tryz.func3, Tryz.ntmps3
  go_wp2_with fail
  refine (form_h how x y e f _ HE HF).mono ?_
  rintro e w1 ⟨rfl, hb⟩
  have hbf := hb
  clear hb
  obtain ⟨w2, hwE⟩ : ∃ W, W = (w1.alloc (.cells #[.int .i64 e, .int .i64 f] 23)) := ⟨_, rfl⟩
  have hb : Below w1.heap.size w1 w2 := by rw [hwE]; exact ((Below.refl _ w1).alloc (Nat.le_refl _) _)
  obtain ⟨pg, hpg⟩ : ∃ p, p = w1.heap.size := ⟨_, rfl⟩
  have hbg : Box2 w2 pg (Value.int .i64 e) (Value.int .i64 f) := by rw [hwE, hpg]; exact ⟨by go_simp, by go_simp, by go_simp, by go_simp⟩
  have HP : Hid (w.heap.size ≤ pg) := Lib.hid (by have h9 := hbf.size; omega)
  have HW := Lib.hid hwE; clear hwE
  go_upto_region 2 with fail
  rw [← HW.out, ← hpg]
  clear hpg HW
  replace hbf := hbf.trans (hb.mono hbf.size)
  clear hb
  have eg0 := hbg.c0
  have eg1 := hbg.c1
  go_wp2_with fail
  refine (valid_no e f _ hno).mono ?_
  rintro e w3 ⟨rfl, hb⟩
  clear eg0 eg1
  replace hbg := hbg.kept hb
  replace hbf := hbf.trans (hb.mono hbf.size)
  clear hb
  have eg0 := hbg.c0
  have eg1 := hbg.c1
  go_wp2_with fail
  refine (alive4_any _).mono ?_
  rintro e w4 ⟨rfl, hb⟩
  clear eg0 eg1
  replace hbg := hbg.kept hb
  replace hbf := hbf.trans (hb.mono hbf.size)
  clear hb
  go_wp2_with fail
  refine (qparse_main l _ qr kr HrE HrC (by omega)).mono ?_
  rintro e w5 hq9
  obtain ⟨uB, uxO, uxL, uxC, uyO, uyL, uyC, rfl, hS, hux, huy, hu, hb⟩ := hq9.out
  have HuS := Lib.hid hS; clear hS
  replace hbg := hbg.kept hb
  replace hbf := hbf.trans (hb.mono hbf.size)
  clear hb
  obtain ⟨w6, hwE⟩ : ∃ W, W = (w5.alloc (.cells #[.bool uB, .slice uxO uxL uxC, .slice uyO uyL uyC] 30)) := ⟨_, rfl⟩
  have hb : Below w5.heap.size w5 w6 := by rw [hwE]; exact ((Below.refl _ w5).alloc (Nat.le_refl _) _)
  obtain ⟨pr, hpr⟩ : ∃ p, p = w5.heap.size := ⟨_, rfl⟩
  have hbr : Box3 w6 pr (Value.bool uB) (Value.slice uxO uxL uxC) (Value.slice uyO uyL uyC) := by rw [hwE, hpr]; exact ⟨by go_simp, by go_simp, by go_simp, by go_simp, by go_simp, by go_simp⟩
  replace HP : Hid (w.heap.size ≤ pg ∧ pg < pr) := Lib.hid (by have h1 := HP.out; have h9 := hbf.size; have h2g := hbg.lt; omega)
  have HW := Lib.hid hwE; clear hwE
  go_upto_region 5 with fail
  rw [← HW.out, ← hpr]
  clear hpr HW
  replace hbg := hbg.kept hb
  replace hux := hux.below hb
  replace huy := huy.below hb
  replace hu := hu.below hb
  replace hbf := hbf.trans (hb.mono hbf.size)
  clear hb
  go_wp2_with fail
  refine (rqparse_main l _ qr kr HrE HrC (by omega)).mono ?_
  rintro e w7 hq9
  obtain ⟨vB, vxO, vxL, vxC, vyO, vyL, vyC, rfl, hS, hvx, hvy, hv, hb⟩ := hq9.out
  have HvS := Lib.hid hS; clear hS
  replace hbg := hbg.kept hb
  replace hbr := hbr.kept hb
  replace hux := hux.below hb
  replace huy := huy.below hb
  replace hu := hu.below hb
  replace hbf := hbf.trans (hb.mono hbf.size)
  clear hb
  obtain ⟨w8, hwE⟩ : ∃ W, W = (w7.alloc (.cells #[.bool vB, .slice vxO vxL vxC, .slice vyO vyL vyC] 37)) := ⟨_, rfl⟩
  have hb : Below w7.heap.size w7 w8 := by rw [hwE]; exact ((Below.refl _ w7).alloc (Nat.le_refl _) _)
  obtain ⟨ps, hps⟩ : ∃ p, p = w7.heap.size := ⟨_, rfl⟩
  have hbs : Box3 w8 ps (Value.bool vB) (Value.slice vxO vxL vxC) (Value.slice vyO vyL vyC) := by rw [hwE, hps]; exact ⟨by go_simp, by go_simp, by go_simp, by go_simp, by go_simp, by go_simp⟩
  replace HP : Hid (w.heap.size ≤ pg ∧ pg < pr ∧ pr < ps) := Lib.hid (by have h1 := HP.out; have h9 := hbf.size; have h2r := hbr.lt; omega)
  have HW := Lib.hid hwE; clear hwE
  go_upto_region 6 with fail
  rw [← HW.out, ← hps]
  clear hps HW
  replace hbg := hbg.kept hb
  replace hbr := hbr.kept hb
  replace hux := hux.below hb
  replace huy := huy.below hb
  replace hu := hu.below hb
  replace hvx := hvx.below hb
  replace hvy := hvy.below hb
  replace hv := hv.below hb
  replace hbf := hbf.trans (hb.mono hbf.size)
  clear hb
  have hkk : (kr == kr) = true := beq_self_eq_true _
  have hkk2 : (kr != kr) = false := by rw [bne, hkk]; rfl
  have eg0 := hbg.c0
  have eg1 := hbg.c1
  have er0 := hbr.c0
  have er1 := hbr.c1
  have er2 := hbr.c2
  go_wp2_with fail
  refine (exact_bad e f _ qr _ hu hno).mono ?_
  rintro e w9 ⟨rfl, hb⟩
  clear eg0 eg1 er0 er1 er2
  replace hbg := hbg.kept hb
  replace hbr := hbr.kept hb
  replace hbs := hbs.kept hb
  replace hux := hux.below hb
  replace huy := huy.below hb
  replace hu := hu.below hb
  replace hvx := hvx.below hb
  replace hvy := hvy.below hb
  replace hv := hv.below hb
  replace hbf := hbf.trans (hb.mono hbf.size)
  clear hb
  have eg0 := hbg.c0
  have eg1 := hbg.c1
  have er0 := hbr.c0
  have er1 := hbr.c1
  have er2 := hbr.c2
  go_wp2_with fail
  refine (below_bad e f _ qr _ hu hno).mono ?_
  rintro e w10 ⟨rfl, hb⟩
  clear eg0 eg1 er0 er1 er2
  replace hbg := hbg.kept hb
  replace hbr := hbr.kept hb
  replace hbs := hbs.kept hb
  replace hux := hux.below hb
  replace huy := huy.below hb
  replace hu := hu.below hb
  replace hvx := hvx.below hb
  replace hvy := hvy.below hb
  replace hv := hv.below hb
  replace hbf := hbf.trans (hb.mono hbf.size)
  clear hb
  have eg0 := hbg.c0
  have eg1 := hbg.c1
  have er0 := hbr.c0
  have er1 := hbr.c1
  have er2 := hbr.c2
  go_wp2_with fail
  refine (above_bad e f _ qr 61 _ hu hqr (by decide) hno).mono ?_
  rintro e w11 ⟨rfl, hb⟩
  clear eg0 eg1 er0 er1 er2
  replace hbg := hbg.kept hb
  replace hbr := hbr.kept hb
  replace hbs := hbs.kept hb
  replace hux := hux.below hb
  replace huy := huy.below hb
  replace hu := hu.below hb
  replace hvx := hvx.below hb
  replace hvy := hvy.below hb
  replace hv := hv.below hb
  replace hbf := hbf.trans (hb.mono hbf.size)
  clear hb
  have eg0 := hbg.c0
  have eg1 := hbg.c1
  have er0 := hbr.c0
  have er1 := hbr.c1
  have er2 := hbr.c2
  go_wp2_with fail
  refine (nearest_bad e f _ qr _ hu hno).mono ?_
  rintro e w12 ⟨rfl, hb⟩
  clear eg0 eg1 er0 er1 er2
  replace hbg := hbg.kept hb
  replace hbr := hbr.kept hb
  replace hbs := hbs.kept hb
  replace hux := hux.below hb
  replace huy := huy.below hb
  replace hu := hu.below hb
  replace hvx := hvx.below hb
  replace hvy := hvy.below hb
  replace hv := hv.below hb
  replace hbf := hbf.trans (hb.mono hbf.size)
  clear hb
  have eg0 := hbg.c0
  have eg1 := hbg.c1
  go_wp2_with fail
  refine (valid_no e f _ hno).mono ?_
  rintro e w13 ⟨rfl, hb⟩
  clear eg0 eg1
  replace hbg := hbg.kept hb
  replace hbr := hbr.kept hb
  replace hbs := hbs.kept hb
  replace hux := hux.below hb
  replace huy := huy.below hb
  replace hu := hu.below hb
  replace hvx := hvx.below hb
  replace hvy := hvy.below hb
  replace hv := hv.below hb
  replace hbf := hbf.trans (hb.mono hbf.size)
  clear hb
  go_wp2_with fail
  go_ret
  exact ⟨rfl, hbf⟩

set_option maxRecDepth 100000 in
set_option maxHeartbeats 1000000 in
/-- IeeeFinds. -/
theorem ieeeFinds_good (how x y : Int) (E F : Nat) (l : List UInt8) (w : World) (HE : Hid (formE how x = (E : Int))) (HF : Hid (formF how y = (F : Int))) (hE2 : 2 ≤ E) (hE : E ≤ 11) (hF1 : 1 ≤ F) (hF : F ≤ 52) (hl : l.length ≤ 60) (h8 : E ≤ 8) :
    Calls Tryz.prog 3 #[.int .i64 how, .int .i64 x, .int .i64 y, .string ⟨l.toArray⟩] w fun e w' => e = .returned (.bool true) ∧ Below w.heap.size w w' := by
  have k1 : ¬ (60 : Int) < ((l.length : Nat) : Int) := by omega
  have k2 : ¬ (8 : Int) < (E : Int) := by omega
  have hqr := QB.val (l := l) (K := 61) (by omega)
  obtain ⟨qr, hre⟩ : ∃ a, a = qval l := ⟨_, rfl⟩
  obtain ⟨kr, hrc⟩ : ∃ c, c = qcode l := ⟨_, rfl⟩
  rw [← hre] at hqr
  have HrE := Lib.hid hre
  have HrC := Lib.hid hrc
  clear hre hrc
  obtain ⟨n, hun⟩ := under_exists (E := E) (F := F) (r := qabs qr) (by omega) (qabs_nonneg qr)
  obtain ⟨a, ok, HEX⟩ : ∃ (a : Nat) (x : Bool), Hid ((a, x) = fexact E F qr n) := ⟨(fexact E F qr n).1, (fexact E F qr n).2, Lib.hid rfl⟩
  obtain ⟨b, is, HBE⟩ : ∃ (a : Nat) (x : Bool), Hid ((a, x) = fbelow E F qr n) := ⟨(fbelow E F qr n).1, (fbelow E F qr n).2, Lib.hid rfl⟩
  obtain ⟨c, on, HAB⟩ : ∃ (a : Nat) (x : Bool), Hid ((a, x) = fabove E F qr n) := ⟨(fabove E F qr n).1, (fabove E F qr n).2, Lib.hid rfl⟩
  obtain ⟨m, HNE⟩ : ∃ m, Hid (m = fnear E F qr n) := ⟨_, Lib.hid rfl⟩
  go_enter Tryz.func3, Tryz.ntmps3
  go_wp2_with fail
  refine (form_h how x y (E : Int) (F : Int) _ HE HF).mono ?_
  rintro e w1 ⟨rfl, hb⟩
  have hbf := hb
  clear hb
  obtain ⟨w2, hwE⟩ : ∃ W, W = (w1.alloc (.cells #[.int .i64 (E : Int), .int .i64 (F : Int)] 23)) := ⟨_, rfl⟩
  have hb : Below w1.heap.size w1 w2 := by rw [hwE]; exact ((Below.refl _ w1).alloc (Nat.le_refl _) _)
  obtain ⟨pg, hpg⟩ : ∃ p, p = w1.heap.size := ⟨_, rfl⟩
  have hbg : Box2 w2 pg (Value.int .i64 (E : Int)) (Value.int .i64 (F : Int)) := by rw [hwE, hpg]; exact ⟨by go_simp, by go_simp, by go_simp, by go_simp⟩
  have HP : Hid (w.heap.size ≤ pg) := Lib.hid (by have h9 := hbf.size; omega)
  have HW := Lib.hid hwE; clear hwE
  go_upto_region 2 with fail
  rw [← HW.out, ← hpg]
  clear hpg HW
  replace hbf := hbf.trans (hb.mono hbf.size)
  clear hb
  have eg0 := hbg.c0
  have eg1 := hbg.c1
  go_wp2_with fail
  refine (valid_yes E F _ hE2 hE hF1 hF).mono ?_
  rintro e w3 ⟨rfl, hb⟩
  clear eg0 eg1
  replace hbg := hbg.kept hb
  replace hbf := hbf.trans (hb.mono hbf.size)
  clear hb
  have eg0 := hbg.c0
  have eg1 := hbg.c1
  go_wp2_with fail
  refine (alive4_any _).mono ?_
  rintro e w4 ⟨rfl, hb⟩
  clear eg0 eg1
  replace hbg := hbg.kept hb
  replace hbf := hbf.trans (hb.mono hbf.size)
  clear hb
  go_wp2_with fail
  refine (qparse_main l _ qr kr HrE HrC (by omega)).mono ?_
  rintro e w5 hq9
  obtain ⟨uB, uxO, uxL, uxC, uyO, uyL, uyC, rfl, hS, hux, huy, hu, hb⟩ := hq9.out
  have HuS := Lib.hid hS; clear hS
  replace hbg := hbg.kept hb
  replace hbf := hbf.trans (hb.mono hbf.size)
  clear hb
  obtain ⟨w6, hwE⟩ : ∃ W, W = (w5.alloc (.cells #[.bool uB, .slice uxO uxL uxC, .slice uyO uyL uyC] 30)) := ⟨_, rfl⟩
  have hb : Below w5.heap.size w5 w6 := by rw [hwE]; exact ((Below.refl _ w5).alloc (Nat.le_refl _) _)
  obtain ⟨pr, hpr⟩ : ∃ p, p = w5.heap.size := ⟨_, rfl⟩
  have hbr : Box3 w6 pr (Value.bool uB) (Value.slice uxO uxL uxC) (Value.slice uyO uyL uyC) := by rw [hwE, hpr]; exact ⟨by go_simp, by go_simp, by go_simp, by go_simp, by go_simp, by go_simp⟩
  replace HP : Hid (w.heap.size ≤ pg ∧ pg < pr) := Lib.hid (by have h1 := HP.out; have h9 := hbf.size; have h2g := hbg.lt; omega)
  have HW := Lib.hid hwE; clear hwE
  go_upto_region 5 with fail
  rw [← HW.out, ← hpr]
  clear hpr HW
  replace hbg := hbg.kept hb
  replace hux := hux.below hb
  replace huy := huy.below hb
  replace hu := hu.below hb
  replace hbf := hbf.trans (hb.mono hbf.size)
  clear hb
  go_wp2_with fail
  refine (rqparse_main l _ qr kr HrE HrC (by omega)).mono ?_
  rintro e w7 hq9
  obtain ⟨vB, vxO, vxL, vxC, vyO, vyL, vyC, rfl, hS, hvx, hvy, hv, hb⟩ := hq9.out
  have HvS := Lib.hid hS; clear hS
  replace hbg := hbg.kept hb
  replace hbr := hbr.kept hb
  replace hux := hux.below hb
  replace huy := huy.below hb
  replace hu := hu.below hb
  replace hbf := hbf.trans (hb.mono hbf.size)
  clear hb
  obtain ⟨w8, hwE⟩ : ∃ W, W = (w7.alloc (.cells #[.bool vB, .slice vxO vxL vxC, .slice vyO vyL vyC] 37)) := ⟨_, rfl⟩
  have hb : Below w7.heap.size w7 w8 := by rw [hwE]; exact ((Below.refl _ w7).alloc (Nat.le_refl _) _)
  obtain ⟨ps, hps⟩ : ∃ p, p = w7.heap.size := ⟨_, rfl⟩
  have hbs : Box3 w8 ps (Value.bool vB) (Value.slice vxO vxL vxC) (Value.slice vyO vyL vyC) := by rw [hwE, hps]; exact ⟨by go_simp, by go_simp, by go_simp, by go_simp, by go_simp, by go_simp⟩
  replace HP : Hid (w.heap.size ≤ pg ∧ pg < pr ∧ pr < ps) := Lib.hid (by have h1 := HP.out; have h9 := hbf.size; have h2r := hbr.lt; omega)
  have HW := Lib.hid hwE; clear hwE
  go_upto_region 6 with fail
  rw [← HW.out, ← hps]
  clear hps HW
  replace hbg := hbg.kept hb
  replace hbr := hbr.kept hb
  replace hux := hux.below hb
  replace huy := huy.below hb
  replace hu := hu.below hb
  replace hvx := hvx.below hb
  replace hvy := hvy.below hb
  replace hv := hv.below hb
  replace hbf := hbf.trans (hb.mono hbf.size)
  clear hb
  have hkk : (kr == kr) = true := beq_self_eq_true _
  have hkk2 : (kr != kr) = false := by rw [bne, hkk]; rfl
  have eg0 := hbg.c0
  have eg1 := hbg.c1
  have er0 := hbr.c0
  have er1 := hbr.c1
  have er2 := hbr.c2
  go_wp2_with fail
  refine (exact_any E F n 61 _ qr _ a ok HEX hE2 hE hF1 hF hu hqr (by decide) hun).mono ?_
  rintro e w9 ⟨rfl, hb⟩
  clear eg0 eg1 er0 er1 er2
  replace hbg := hbg.kept hb
  replace hbr := hbr.kept hb
  replace hbs := hbs.kept hb
  replace hux := hux.below hb
  replace huy := huy.below hb
  replace hu := hu.below hb
  replace hvx := hvx.below hb
  replace hvy := hvy.below hb
  replace hv := hv.below hb
  replace hbf := hbf.trans (hb.mono hbf.size)
  clear hb
  have eg0 := hbg.c0
  have eg1 := hbg.c1
  have er0 := hbr.c0
  have er1 := hbr.c1
  have er2 := hbr.c2
  go_wp2_with fail
  refine (below_any E F n 61 _ qr _ b is HBE hE2 hE hF1 hF hu hqr (by decide) hun).mono ?_
  rintro e w10 ⟨rfl, hb⟩
  clear eg0 eg1 er0 er1 er2
  replace hbg := hbg.kept hb
  replace hbr := hbr.kept hb
  replace hbs := hbs.kept hb
  replace hux := hux.below hb
  replace huy := huy.below hb
  replace hu := hu.below hb
  replace hvx := hvx.below hb
  replace hvy := hvy.below hb
  replace hv := hv.below hb
  replace hbf := hbf.trans (hb.mono hbf.size)
  clear hb
  have eg0 := hbg.c0
  have eg1 := hbg.c1
  have er0 := hbr.c0
  have er1 := hbr.c1
  have er2 := hbr.c2
  go_wp2_with fail
  refine (above_any E F n 61 _ qr _ c on HAB hE2 hE hF1 hF hu hqr (by decide) hun).mono ?_
  rintro e w11 ⟨rfl, hb⟩
  clear eg0 eg1 er0 er1 er2
  replace hbg := hbg.kept hb
  replace hbr := hbr.kept hb
  replace hbs := hbs.kept hb
  replace hux := hux.below hb
  replace huy := huy.below hb
  replace hu := hu.below hb
  replace hvx := hvx.below hb
  replace hvy := hvy.below hb
  replace hv := hv.below hb
  replace hbf := hbf.trans (hb.mono hbf.size)
  clear hb
  have eg0 := hbg.c0
  have eg1 := hbg.c1
  have er0 := hbr.c0
  have er1 := hbr.c1
  have er2 := hbr.c2
  go_wp2_with fail
  refine (nearest_any E F n 61 _ qr _ m HNE hE2 hE hF1 hF hu hqr (by decide) hun).mono ?_
  rintro e w12 ⟨rfl, hb⟩
  clear eg0 eg1 er0 er1 er2
  replace hbg := hbg.kept hb
  replace hbr := hbr.kept hb
  replace hbs := hbs.kept hb
  replace hux := hux.below hb
  replace huy := huy.below hb
  replace hu := hu.below hb
  replace hvx := hvx.below hb
  replace hvy := hvy.below hb
  replace hv := hv.below hb
  replace hbf := hbf.trans (hb.mono hbf.size)
  clear hb
  have eg0 := hbg.c0
  have eg1 := hbg.c1
  go_wp2_with fail
  refine (valid_yes E F _ hE2 hE hF1 hF).mono ?_
  rintro e w13 ⟨rfl, hb⟩
  clear eg0 eg1
  replace hbg := hbg.kept hb
  replace hbr := hbr.kept hb
  replace hbs := hbs.kept hb
  replace hux := hux.below hb
  replace huy := huy.below hb
  replace hu := hu.below hb
  replace hvx := hvx.below hb
  replace hvy := hvy.below hb
  replace hv := hv.below hb
  replace hbf := hbf.trans (hb.mono hbf.size)
  clear hb
  have eg0 := hbg.c0
  have eg1 := hbg.c1
  have es0 := hbs.c0
  have es1 := hbs.c1
  have es2 := hbs.c2
  go_wp2_with fail
  refine (rexact_any E F n 61 _ qr _ a ok HEX hE2 hE hF1 hF hv hqr (by decide) hun).mono ?_
  rintro e w14 ⟨rfl, hb⟩
  clear eg0 eg1 es0 es1 es2
  replace hbg := hbg.kept hb
  replace hbr := hbr.kept hb
  replace hbs := hbs.kept hb
  replace hux := hux.below hb
  replace huy := huy.below hb
  replace hu := hu.below hb
  replace hvx := hvx.below hb
  replace hvy := hvy.below hb
  replace hv := hv.below hb
  replace hbf := hbf.trans (hb.mono hbf.size)
  clear hb
  have eg0 := hbg.c0
  have eg1 := hbg.c1
  have es0 := hbs.c0
  have es1 := hbs.c1
  have es2 := hbs.c2
  go_wp2_with fail
  refine (rbelow_any E F n 61 _ qr _ b is HBE hE2 hE hF1 hF hv hqr (by decide) hun).mono ?_
  rintro e w15 ⟨rfl, hb⟩
  clear eg0 eg1 es0 es1 es2
  replace hbg := hbg.kept hb
  replace hbr := hbr.kept hb
  replace hbs := hbs.kept hb
  replace hux := hux.below hb
  replace huy := huy.below hb
  replace hu := hu.below hb
  replace hvx := hvx.below hb
  replace hvy := hvy.below hb
  replace hv := hv.below hb
  replace hbf := hbf.trans (hb.mono hbf.size)
  clear hb
  have eg0 := hbg.c0
  have eg1 := hbg.c1
  have es0 := hbs.c0
  have es1 := hbs.c1
  have es2 := hbs.c2
  go_wp2_with fail
  refine (rabove_any E F n 61 _ qr _ c on HAB hE2 hE hF1 hF hv hqr (by decide) hun).mono ?_
  rintro e w16 ⟨rfl, hb⟩
  clear eg0 eg1 es0 es1 es2
  replace hbg := hbg.kept hb
  replace hbr := hbr.kept hb
  replace hbs := hbs.kept hb
  replace hux := hux.below hb
  replace huy := huy.below hb
  replace hu := hu.below hb
  replace hvx := hvx.below hb
  replace hvy := hvy.below hb
  replace hv := hv.below hb
  replace hbf := hbf.trans (hb.mono hbf.size)
  clear hb
  have e1 : ((a : Int) == (a : Int)) = true := beq_self_eq_true _
  have e2 : ((b : Int) == (b : Int)) = true := beq_self_eq_true _
  have e3 : ((c : Int) == (c : Int)) = true := beq_self_eq_true _
  have e4 : ((m : Int) == (m : Int)) = true := beq_self_eq_true _
  have e5 : (ok == ok) = true := beq_self_eq_true _
  have e6 : (is == is) = true := beq_self_eq_true _
  have e7 : (on == on) = true := beq_self_eq_true _
  have eg0 := hbg.c0
  have eg1 := hbg.c1
  have es0 := hbs.c0
  have es1 := hbs.c1
  have es2 := hbs.c2
  go_wp2_with fail
  refine (rnear_any E F n 61 _ qr _ m HNE hE2 hE hF1 hF hv hqr (by decide) hun).mono ?_
  rintro e w17 ⟨rfl, hb⟩
  clear eg0 eg1 es0 es1 es2
  replace hbg := hbg.kept hb
  replace hbr := hbr.kept hb
  replace hbs := hbs.kept hb
  replace hux := hux.below hb
  replace huy := huy.below hb
  replace hu := hu.below hb
  replace hvx := hvx.below hb
  replace hvy := hvy.below hb
  replace hv := hv.below hb
  replace hbf := hbf.trans (hb.mono hbf.size)
  clear hb
  go_wp2_with fail
  go_ret
  exact ⟨rfl, hbf⟩

theorem ieeeFinds_walk (a0 a1 a2 : Int) (a3 : ByteArray) (w0 : (Lit.int .i64 a0).wf = true) (w1 : (Lit.int .i64 a1).wf = true) (w2 : (Lit.int .i64 a2).wf = true) (w3 : a3.size ≤ maxLen) (w : World) :
    Calls Tryz.prog 3 #[.int .i64 a0, .int .i64 a1, .int .i64 a2, .string a3] w fun e w' => e = .returned (.bool true) ∧ Below w.heap.size w w' := by
  obtain ⟨l, rfl, _⟩ := bytes_of a3
  obtain ⟨e, he⟩ : ∃ e, formE a0 a1 = e := ⟨_, rfl⟩
  obtain ⟨f, hf⟩ : ∃ f, formF a0 a2 = f := ⟨_, rfl⟩
  by_cases hl : l.length ≤ 60
  · by_cases hv : 2 ≤ e ∧ e ≤ 11 ∧ 1 ≤ f ∧ f ≤ 52
    · obtain ⟨E, rfl⟩ : ∃ E : Nat, e = (E : Int) := ⟨e.toNat, by omega⟩
      obtain ⟨F, rfl⟩ : ∃ F : Nat, f = (F : Int) := ⟨f.toNat, by omega⟩
      by_cases h8 : E ≤ 8
      · exact ieeeFinds_good a0 a1 a2 E F l w (Lib.hid he) (Lib.hid hf) (by omega) (by omega) (by omega) (by omega) hl h8
      · exact ieeeFinds_great a0 a1 a2 E F l w (Lib.hid he) (Lib.hid hf) (by omega) (by omega) (by omega) (by omega) hl (by omega)
    · exact ieeeFinds_bad a0 a1 a2 e f l w (Lib.hid he) (Lib.hid hf) (Lib.hid hv) hl
  · exact ieeeFinds_long a0 a1 a2 e f l w (Lib.hid he) (Lib.hid hf) (by omega)
end Go.Proofs.YtanicapbdigjaaaGreatDoor
