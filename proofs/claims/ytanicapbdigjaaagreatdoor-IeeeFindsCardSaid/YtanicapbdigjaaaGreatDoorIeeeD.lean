/-
  Forms of numbers (4): Nearest.
-/
import Derived.Test.YtanicapbdigjaaaGreatDoorIeeeC
import Derived.Test.YtanicapbdigjaaaGreatDoorSeqF
namespace Go.Proofs.YtanicapbdigjaaaGreatDoor
open Go.RowKit
set_option linter.unusedVariables false
set_option linter.unusedSimpArgs false
attribute [local go_sem] field_nat

/-- The step behind a pattern; is it the next one that is nearer?; the nearest one. -/
def fstep (E F n : Nat) : Rat := if n + 1 < finf E F then fval E F (n + 1) - fval E F n else fval E F n - fval E F (n - 1)
def fmore (E F : Nat) (r : Rat) (n : Nat) : Bool := decide (qcmp (qabs r - fval E F n) (fstep E F n / 2) = 1 ∨ qcmp (qabs r - fval E F n) (fstep E F n / 2) = 0 ∧ n % 2 = 1)
def fnear (E F : Nat) (r : Rat) (n : Nat) : Nat := dsign E F (decide (r < 0)) (if fmore E F r n then n + 1 else n)
theorem value_x (E F n : Nat) (x : Int) (w : World) (hx : x = n) (hE2 : 2 ≤ E) (hE : E ≤ 11) (hF1 : 1 ≤ F) (hF : F ≤ 52) (hn : n < finf E F) : Calls Tryz.prog 32 #[formV (E : Int) (F : Int), .int .u64 x] w (QPost w (fval E F n)) := by
  rw [hx]; exact value_any E F n w hE2 hE hF1 hF hn
theorem qcmp_c (va vc : Value) (a c : Rat) (z : Int) (i j : Nat) (w : World) (ha : QIs w va a) (hc : QIs w vc c) (hla : QB a i) (hlc : QB c j) (hij : i + j ≤ 90000) (hz : Hid (qcmp a c = z)) :
    Calls Tryz.prog 41 #[va, vc] w fun e w' => e = .returned (.int .i64 z) ∧ Below w.heap.size w w' := by
  have := qcmp_any va vc a c i j w ha hc hla hlc hij
  rwa [hz.out] at this
theorem signed_x (E F n : Nat) (neg : Bool) (x : Int) (w : World) (hx : x = n) (hE : E ≤ 11) (hF : F ≤ 52) (hn : n < fsgn E F) : Calls Tryz.prog 33 #[formV (E : Int) (F : Int), .bool neg, .int .u64 x] w fun e w' => e = .returned (.int .u64 (dsign E F neg n : Int)) ∧ Below w.heap.size w w' := by
  rw [hx]; exact signed_any E F n neg w hE hF hn
theorem up_one (n : Nat) : (n : Int) + 1 = ((n + 1 : Nat) : Int) := by omega
theorem q_two_b : QB (2 : Rat) 2 := ⟨limbs_bound (by decide) (by decide), limbs_bound (by decide) (by decide)⟩
theorem q_two : ((2 : Int) : Rat) = 2 := rfl

set_option maxRecDepth 100000 in
set_option maxHeartbeats 1000000 in
/-- Nearest. -/
theorem nearest_any (E F n k : Nat) (v : Value) (r : Rat) (w : World) (m9 : Nat) (HM : Hid (m9 = fnear E F r n)) (hE2 : 2 ≤ E) (hE : E ≤ 11) (hF1 : 1 ≤ F) (hF : F ≤ 52) (h : QIs w v r) (hqb : QB r k) (hk : k ≤ 80000) (hu : Under E F (qabs r) n) :
    Calls Tryz.prog 12 #[formV (E : Int) (F : Int), v] w fun e w' => e = .returned (.int .u64 (m9 : Int)) ∧ Below w.heap.size w w' := by
  obtain ⟨qB, qxO, qxL, qxC, qyO, qyL, qyC, rfl, hS, hqx, hqy⟩ := h.form
  have HqS := Lib.hid hS; clear hS
  clear hqx hqy
  obtain ⟨w0, hw0⟩ : ∃ w0, w0 = ((w.alloc (.cells #[.int .i64 (E : Int), .int .i64 (F : Int)] 23)).alloc (.cells #[.bool qB, .slice qxO qxL qxC, .slice qyO qyL qyC] 30)) := ⟨_, rfl⟩
  have hbf : Below w.heap.size w w0 := by rw [hw0]; exact (((Below.refl _ w).alloc (Nat.le_refl _) _).alloc (by simp <;> omega) _)
  obtain ⟨pg, hpg⟩ : ∃ p, p = w.heap.size := ⟨_, rfl⟩
  have hbg : Box2 w0 pg (Value.int .i64 (E : Int)) (Value.int .i64 (F : Int)) := by rw [hw0, hpg]; exact ⟨by go_simp, by go_simp, by go_simp, by go_simp⟩
  obtain ⟨pq, hpq⟩ : ∃ p, p = w.heap.size + 1 := ⟨_, rfl⟩
  have hbq : Box3 w0 pq (Value.bool qB) (Value.slice qxO qxL qxC) (Value.slice qyO qyL qyC) := by rw [hw0, hpq]; exact ⟨by go_simp, by go_simp, by go_simp, by go_simp, by go_simp, by go_simp⟩
  have HP : Hid (w.heap.size ≤ pg ∧ pg < pq) := Lib.hid (by omega)
  replace h := h.below hbf
  have HW := Lib.hid hw0; clear hw0
  go_enter Tryz.func12, Tryz.ntmps12
  go_upto_region 1 with fail
  rw [← HW.out, ← hpq, ← hpg]
  clear hpg hpq HW
  have haqb := hqb.abs
  have hnI := hu.lt
  have hvq := fval_qb hE hF hnI
  have hIl : finf E F < fsgn E F := finf_lt E F
  have hSl := fsgn_lt hE hF
  have hn63 : n + 1 < 18446744073709551616 := by omega
  have eg0 := hbg.c0
  have eg1 := hbg.c1
  go_wp2_with fail
  refine (valid_yes E F _ hE2 hE hF1 hF).mono ?_
  rintro e w1 ⟨rfl, hb⟩
  clear eg0 eg1
  replace hbg := hbg.kept hb
  replace hbq := hbq.kept hb
  replace h := h.below hb
  replace hbf := hbf.trans (hb.mono hbf.size)
  clear hb
  obtain ⟨g9, hg9⟩ : ∃ s, decide (r < 0) = s := ⟨_, rfl⟩
  have HG := Lib.hid hg9
  clear hg9
  have hnI2 : n - 1 < finf E F := by omega
  have hpq := fval_qb hE hF hnI2
  have hde := haqb.sub hvq
  have hpos := hu.lt
  have HW1 : Hid (IntKind.u64.wrap ((n : Int) + 1) = ((n + 1 : Nat) : Int)) := Lib.hid (IntWalk.u64_in _ (by omega))
  have hmx9 : max (n : Int) 1 - 1 = ((n - 1 : Nat) : Int) := by omega
  have HMW : Hid (IntKind.u64.wrap ((n - 1 : Nat) : Int) = ((n - 1 : Nat) : Int)) := Lib.hid (IntWalk.u64_in _ (by omega))
  have eg0 := hbg.c0
  have eg1 := hbg.c1
  have eq0 := hbq.c0
  have eq1 := hbq.c1
  have eq2 := hbq.c2
  go_wp2_with fail
  clear eg0 eg1 eq0 eq1 eq2
  refine wp_region_seqQ (S := fun w' => Box2 w' pg (Value.int .i64 (E : Int)) (Value.int .i64 (F : Int)) ∧ Box3 w' pq (Value.bool qB) (Value.slice qxO qxL qxC) (Value.slice qyO qyL qyC)) [(0, 4, some 14), (0, 8, some 15), (2, 32768, some 16), (5, 81920, some 17), (15, 131072, some 5)] [(true, 0), (true, 1), (false, 2), (false, 3), (true, 4)] (by kernel_rfl) (by kernel_rfl) (by kernel_rfl) (by kernel_rfl) (by kernel_rfl) (by kernel_rfl) (fun d _ _ _ _ h => by cases d <;> exact h) ⟨hbg.drew, hbq.drew⟩ (fun _ => ?_)
  simp only [pickOps, List.append_eq, List.cons_append, List.nil_append, List.getElem?_toArray, List.getElem?_cons_succ, List.getElem?_cons_zero]
  have hb : Below w1.heap.size w1 w1.drew := (Below.refl _ _).drew
  generalize w1.drew = w2 at hb ⊢
  replace hbg := hbg.kept hb
  replace hbq := hbq.kept hb
  replace h := h.below hb
  replace hbf := hbf.trans (hb.mono hbf.size)
  clear hb
  repeat (first | (refine seq_take (v := ?_) (by rfl) ?_ ?_; rotate_left; (· intro w hSw; (try dsimp only at hSw); obtain ⟨⟨eg0, eg1, _, _⟩, ⟨eq0, eq1, eq2, _, _, _⟩⟩ := hSw; go_simp; all_goals with_reducible rfl); (try simp only [Act.put, List.setIfInBounds_toArray, List.set_cons_zero, List.set_cons_succ])) | (refine seq_leave (by rfl) ?_; (try simp only [Act.put, List.setIfInBounds_toArray, List.set_cons_zero, List.set_cons_succ])))
  refine seq_step (by rfl) (fun K hK => ?_)
  go_simp
  go_at_call 30
  (with_reducible refine (fsize_any _ r k _ h hqb hk).mono ?_)
  rintro e w3 hq9
  obtain ⟨aB, axO, axL, axC, ayO, ayL, ayC, rfl, hS, hax, hay, ha, hb⟩ := hq9.out
  have HaS := Lib.hid hS; clear hS
  replace hbg := hbg.kept hb
  replace hbq := hbq.kept hb
  replace h := h.below hb
  replace hbf := hbf.trans (hb.mono hbf.size)
  clear hb
  first | refine hK.out _ _ ⟨hbg, hbq⟩ (fun _ => ?_) | (go_wp2_with fail; refine hK.out _ _ ⟨hbg, hbq⟩ (fun _ => ?_))
  clear hK K
  (try simp only [Act.put, List.setIfInBounds_toArray, List.set_cons_zero, List.set_cons_succ])
  refine seq_step (by rfl) (fun K hK => ?_)
  go_simp
  go_at_call 29
  (with_reducible refine (under_any E F n k _ (qabs r) _ hE2 hE hF1 hF ha haqb hk (qabs_nonneg r) hu).mono ?_)
  rintro e w4 ⟨rfl, hb⟩
  replace hbg := hbg.kept hb
  replace hbq := hbq.kept hb
  replace h := h.below hb
  replace hax := hax.below hb
  replace hay := hay.below hb
  replace ha := ha.below hb
  replace hbf := hbf.trans (hb.mono hbf.size)
  clear hb
  first | refine hK.out _ _ ⟨hbg, hbq⟩ (fun _ => ?_) | (go_wp2_with fail; refine hK.out _ _ ⟨hbg, hbq⟩ (fun _ => ?_))
  clear hK K
  (try simp only [Act.put, List.setIfInBounds_toArray, List.set_cons_zero, List.set_cons_succ])
  repeat (first | (refine seq_take (v := ?_) (by rfl) ?_ ?_; rotate_left; (· intro w hSw; (try dsimp only at hSw); obtain ⟨⟨eg0, eg1, _, _⟩, ⟨eq0, eq1, eq2, _, _, _⟩⟩ := hSw; go_simp; all_goals with_reducible rfl); (try simp only [Act.put, List.setIfInBounds_toArray, List.set_cons_zero, List.set_cons_succ])) | (refine seq_leave (by rfl) ?_; (try simp only [Act.put, List.setIfInBounds_toArray, List.set_cons_zero, List.set_cons_succ])))
  refine seq_end ?_
  have eg0 := hbg.c0
  have eg1 := hbg.c1
  have eq0 := hbq.c0
  have eq1 := hbq.c1
  have eq2 := hbq.c2
  go_wp2_with fail
  clear eg0 eg1 eq0 eq1 eq2
  refine wp_region_seqF (S := fun w' => Box2 w' pg (Value.int .i64 (E : Int)) (Value.int .i64 (F : Int)) ∧ Box3 w' pq (Value.bool qB) (Value.slice qxO qxL qxC) (Value.slice qyO qyL qyC)) [⟨6, 6, .cells #[.bool false, .slice none 0 0, .slice none 0 0] 30⟩] [(true, 0), (true, 2), (true, 3), (false, 1), (false, 4), (false, 5)] [(false, 7)] (by kernel_rfl) (by kernel_rfl) (by kernel_rfl) (by kernel_rfl) (by kernel_rfl) (by kernel_rfl) (by decide) (by decide) (by kernel_rfl) (by rfl) ?_ (fun w8 o8 h8 => ?_) (fun d _ _ _ _ h => by cases d <;> exact h) ⟨hbg.drew, hbq.drew⟩ ?_
  · intro f hf; simp only [List.mem_cons, List.not_mem_nil, or_false] at hf; rcases hf with rfl <;> exact FlOk.alloc rfl rfl rfl (fun f w => by go_simp)
  · obtain ⟨h0, h1⟩ := h8; exact ⟨Box2.kept h0 ((Below.refl _ _).alloc (Nat.le_refl _) _), Box3.kept h1 ((Below.refl _ _).alloc (Nat.le_refl _) _)⟩
  obtain ⟨B9, hB9⟩ : ∃ B, B = w4.heap.size := ⟨_, rfl⟩
  rw [← hB9]
  simp only [pickOps, List.append_eq, List.cons_append, List.nil_append, List.getElem?_toArray, List.getElem?_cons_succ, List.getElem?_cons_zero]
  have HB9 : Hid (w.heap.size ≤ B9 ∧ pq < B9) := Lib.hid (by have h1 := hbf.size; have h2q := hbq.lt; rw [hB9]; omega)
  clear hB9
  have hb : Below w4.heap.size w4 w4.drew := (Below.refl _ _).drew
  generalize w4.drew = w5 at hb ⊢
  replace hbg := hbg.kept hb
  replace hbq := hbq.kept hb
  replace h := h.below hb
  replace hax := hax.below hb
  replace hay := hay.below hb
  replace ha := ha.below hb
  replace hbf := hbf.trans (hb.mono hbf.size)
  clear hb
  repeat (refine seqF_take (v := ?_) (fun t => by rfl) ?_ ?_; rotate_left; (· intro a9 h9 w hSw; (try dsimp only at hSw); obtain ⟨x6, rfl⟩ : ∃ x, a9 = Act.put _ (some 6) x := ⟨_, h9.one⟩; clear h9; obtain ⟨⟨eg0, eg1, _, _⟩, ⟨eq0, eq1, eq2, _, _, _⟩⟩ := hSw; (try simp only [Act.put, List.setIfInBounds_toArray, List.set_cons_zero, List.set_cons_succ]); go_simp; all_goals with_reducible rfl); (try simp only [Act.put, List.setIfInBounds_toArray, List.set_cons_zero, List.set_cons_succ]))
  refine seqF_step (fun t => by rfl) (fun a9 w6 h9 hb hS9 K hK => ?_)
  obtain ⟨x6, rfl⟩ : ∃ x, a9 = Act.put _ (some 6) x := ⟨_, h9.one⟩
  clear h9 hS9
  (try simp only [Act.put, List.setIfInBounds_toArray, List.set_cons_zero, List.set_cons_succ] at hK); (try simp only [Act.put, List.setIfInBounds_toArray, List.set_cons_zero, List.set_cons_succ])
  replace hbg := hbg.kept hb
  replace hbq := hbq.kept hb
  replace h := h.below hb
  replace hax := hax.below hb
  replace hay := hay.below hb
  replace ha := ha.below hb
  replace hbf := hbf.trans (hb.mono hbf.size)
  clear hb
  go_simp
  go_at_call 30
  (with_reducible refine (fsize_any _ r k _ h hqb hk).mono ?_)
  rintro e w7 hq9
  obtain ⟨zB, zxO, zxL, zxC, zyO, zyL, zyC, rfl, hS, hzx, hzy, hz, hb⟩ := hq9.out
  have HzS := Lib.hid hS; clear hS
  replace hbg := hbg.kept hb
  replace hbq := hbq.kept hb
  replace h := h.below hb
  replace hax := hax.below hb
  replace hay := hay.below hb
  replace ha := ha.below hb
  replace hbf := hbf.trans (hb.mono hbf.size)
  have hbK := hb; clear hb
  first | refine hK.out _ _ ⟨hbg, hbq⟩ hbK ?_ | (go_wp2_with fail; refine hK.out _ _ ⟨hbg, hbq⟩ hbK ?_)
  clear hK K hbK
  (try simp only [Act.put, List.setIfInBounds_toArray, List.set_cons_zero, List.set_cons_succ])
  refine seqF_step (fun t => by rfl) (fun a9 w8 h9 hb hS9 K hK => ?_)
  obtain ⟨x6, rfl⟩ : ∃ x, a9 = Act.put _ (some 6) x := ⟨_, h9.one⟩
  clear h9 hS9
  (try simp only [Act.put, List.setIfInBounds_toArray, List.set_cons_zero, List.set_cons_succ] at hK); (try simp only [Act.put, List.setIfInBounds_toArray, List.set_cons_zero, List.set_cons_succ])
  replace hbg := hbg.kept hb
  replace hbq := hbq.kept hb
  replace h := h.below hb
  replace hax := hax.below hb
  replace hay := hay.below hb
  replace ha := ha.below hb
  replace hzx := hzx.below hb
  replace hzy := hzy.below hb
  replace hz := hz.below hb
  replace hbf := hbf.trans (hb.mono hbf.size)
  clear hb
  go_simp
  go_at_call 32
  (with_reducible refine (value_any E F n _ hE2 hE hF1 hF hnI).mono ?_)
  rintro e w9 hq9
  obtain ⟨xB, xxO, xxL, xxC, xyO, xyL, xyC, rfl, hS, hxx, hxy, hx, hb⟩ := hq9.out
  have HxS := Lib.hid hS; clear hS
  replace hbg := hbg.kept hb
  replace hbq := hbq.kept hb
  replace h := h.below hb
  replace hax := hax.below hb
  replace hay := hay.below hb
  replace ha := ha.below hb
  replace hzx := hzx.below hb
  replace hzy := hzy.below hb
  replace hz := hz.below hb
  replace hbf := hbf.trans (hb.mono hbf.size)
  have hbK := hb; clear hb
  first | refine hK.out _ _ ⟨hbg, hbq⟩ hbK ?_ | (go_wp2_with fail; refine hK.out _ _ ⟨hbg, hbq⟩ hbK ?_)
  clear hK K hbK
  (try simp only [Act.put, List.setIfInBounds_toArray, List.set_cons_zero, List.set_cons_succ])
  refine seqF_step (fun t => by rfl) (fun a9 w10 h9 hb hS9 K hK => ?_)
  obtain ⟨x6, rfl⟩ : ∃ x, a9 = Act.put _ (some 6) x := ⟨_, h9.one⟩
  clear h9 hS9
  (try simp only [Act.put, List.setIfInBounds_toArray, List.set_cons_zero, List.set_cons_succ] at hK); (try simp only [Act.put, List.setIfInBounds_toArray, List.set_cons_zero, List.set_cons_succ])
  replace hbg := hbg.kept hb
  replace hbq := hbq.kept hb
  replace h := h.below hb
  replace hax := hax.below hb
  replace hay := hay.below hb
  replace ha := ha.below hb
  replace hzx := hzx.below hb
  replace hzy := hzy.below hb
  replace hz := hz.below hb
  replace hxx := hxx.below hb
  replace hxy := hxy.below hb
  replace hx := hx.below hb
  replace hbf := hbf.trans (hb.mono hbf.size)
  clear hb
  go_simp
  go_at_call 38
  (with_reducible refine (qsub_any _ _ (qabs r) (fval E F n) k 66 _ hz hx haqb hvq (by omega)).mono ?_)
  rintro e w11 hq9
  obtain ⟨dB, dxO, dxL, dxC, dyO, dyL, dyC, rfl, hS, hdx, hdy, hd, hb⟩ := hq9.out
  have HdS := Lib.hid hS; clear hS
  replace hbg := hbg.kept hb
  replace hbq := hbq.kept hb
  replace h := h.below hb
  replace hax := hax.below hb
  replace hay := hay.below hb
  replace ha := ha.below hb
  replace hzx := hzx.below hb
  replace hzy := hzy.below hb
  replace hz := hz.below hb
  replace hxx := hxx.below hb
  replace hxy := hxy.below hb
  replace hx := hx.below hb
  replace hbf := hbf.trans (hb.mono hbf.size)
  have hbK := hb; clear hb
  first | refine hK.out _ _ ⟨hbg, hbq⟩ hbK ?_ | (go_wp2_with fail; refine hK.out _ _ ⟨hbg, hbq⟩ hbK ?_)
  clear hK K hbK
  (try simp only [Act.put, List.setIfInBounds_toArray, List.set_cons_zero, List.set_cons_succ])
  refine seqF_end (fun a9 w12 h9 hb hS9 hAt hNe => ?_)
  obtain ⟨x6, rfl⟩ : ∃ x, a9 = Act.put _ (some 6) x := ⟨_, h9.one⟩
  clear h9 hS9
  (try simp only [Act.put, List.setIfInBounds_toArray, List.set_cons_zero, List.set_cons_succ])
  (try simp only [Act.put, List.setIfInBounds_toArray, List.set_cons_zero, List.set_cons_succ] at hAt hNe)
  replace hbg := hbg.kept hb
  replace hbq := hbq.kept hb
  replace h := h.below hb
  replace hax := hax.below hb
  replace hay := hay.below hb
  replace ha := ha.below hb
  replace hzx := hzx.below hb
  replace hzy := hzy.below hb
  replace hz := hz.below hb
  replace hxx := hxx.below hb
  replace hxy := hxy.below hb
  replace hx := hx.below hb
  replace hdx := hdx.below hb
  replace hdy := hdy.below hb
  replace hd := hd.below hb
  replace hbf := hbf.trans (hb.mono hbf.size)
  clear hb
  obtain ⟨pu, hxu, hgu, hhu⟩ := (hAt ⟨6, 6, .cells #[.bool false, .slice none 0 0, .slice none 0 0] 30⟩ (by simp)).slot rfl
  have hbu := box3_heap hhu; clear hhu
  replace hxu : x6 = _ := hxu
  clear hAt hNe
  subst hxu
  replace HP : Hid (w.heap.size ≤ pg ∧ pg < pq ∧ pq < pu) := Lib.hid (by have h1 := HP.out; have h2 := HB9.out; omega)
  clear HB9 hgu
  simp only [pickOps, List.append_eq, List.cons_append, List.nil_append, List.getElem?_toArray, List.getElem?_cons_succ, List.getElem?_cons_zero]
  refine seq_step (by rfl) (fun K hK => ?_)
  have eu0 := hbu.c0
  have fu0 := hbu.f0
  have eu1 := hbu.c1
  have fu1 := hbu.f1
  have eu2 := hbu.c2
  have fu2 := hbu.f2
  go_simp
  clear eu0 fu0 eu1 fu1 eu2 fu2
  obtain ⟨w13, hwE⟩ : ∃ W, W = ((w12.setCell ⟨pu, 0, none⟩ (Value.bool dB)).setCell ⟨pu, 1, none⟩ (Value.slice dxO dxL dxC)).setCell ⟨pu, 2, none⟩ (Value.slice dyO dyL dyC) := ⟨_, rfl⟩
  rw [← hwE]
  replace h := h.set3 (u0 := (Value.bool dB)) (u1 := (Value.slice dxO dxL dxC)) (u2 := (Value.slice dyO dyL dyC)) hbu; rw [← hwE] at h
  replace hax := hax.set3 (u0 := (Value.bool dB)) (u1 := (Value.slice dxO dxL dxC)) (u2 := (Value.slice dyO dyL dyC)) hbu; rw [← hwE] at hax
  replace hay := hay.set3 (u0 := (Value.bool dB)) (u1 := (Value.slice dxO dxL dxC)) (u2 := (Value.slice dyO dyL dyC)) hbu; rw [← hwE] at hay
  replace ha := ha.set3 (u0 := (Value.bool dB)) (u1 := (Value.slice dxO dxL dxC)) (u2 := (Value.slice dyO dyL dyC)) hbu; rw [← hwE] at ha
  replace hzx := hzx.set3 (u0 := (Value.bool dB)) (u1 := (Value.slice dxO dxL dxC)) (u2 := (Value.slice dyO dyL dyC)) hbu; rw [← hwE] at hzx
  replace hzy := hzy.set3 (u0 := (Value.bool dB)) (u1 := (Value.slice dxO dxL dxC)) (u2 := (Value.slice dyO dyL dyC)) hbu; rw [← hwE] at hzy
  replace hz := hz.set3 (u0 := (Value.bool dB)) (u1 := (Value.slice dxO dxL dxC)) (u2 := (Value.slice dyO dyL dyC)) hbu; rw [← hwE] at hz
  replace hxx := hxx.set3 (u0 := (Value.bool dB)) (u1 := (Value.slice dxO dxL dxC)) (u2 := (Value.slice dyO dyL dyC)) hbu; rw [← hwE] at hxx
  replace hxy := hxy.set3 (u0 := (Value.bool dB)) (u1 := (Value.slice dxO dxL dxC)) (u2 := (Value.slice dyO dyL dyC)) hbu; rw [← hwE] at hxy
  replace hx := hx.set3 (u0 := (Value.bool dB)) (u1 := (Value.slice dxO dxL dxC)) (u2 := (Value.slice dyO dyL dyC)) hbu; rw [← hwE] at hx
  replace hdx := hdx.set3 (u0 := (Value.bool dB)) (u1 := (Value.slice dxO dxL dxC)) (u2 := (Value.slice dyO dyL dyC)) hbu; rw [← hwE] at hdx
  replace hdy := hdy.set3 (u0 := (Value.bool dB)) (u1 := (Value.slice dxO dxL dxC)) (u2 := (Value.slice dyO dyL dyC)) hbu; rw [← hwE] at hdy
  replace hd := hd.set3 (u0 := (Value.bool dB)) (u1 := (Value.slice dxO dxL dxC)) (u2 := (Value.slice dyO dyL dyC)) hbu; rw [← hwE] at hd
  replace hbg := hbg.set3f (u0 := (Value.bool dB)) (u1 := (Value.slice dxO dxL dxC)) (u2 := (Value.slice dyO dyL dyC)) (show pg ≠ pu by have := HP.out; omega); rw [← hwE] at hbg
  replace hbq := hbq.set3o (u0 := (Value.bool dB)) (u1 := (Value.slice dxO dxL dxC)) (u2 := (Value.slice dyO dyL dyC)) (show pq ≠ pu by have := HP.out; omega); rw [← hwE] at hbq
  replace hbf := below_set3 (u0 := (Value.bool dB)) (u1 := (Value.slice dxO dxL dxC)) (u2 := (Value.slice dyO dyL dyC)) hbf (show w.heap.size ≤ pu by have := HP.out; omega); rw [← hwE] at hbf
  replace hbu := hbu.set3 (u0 := (Value.bool dB)) (u1 := (Value.slice dxO dxL dxC)) (u2 := (Value.slice dyO dyL dyC)); rw [← hwE] at hbu; clear hwE
  first | refine hK.out _ _ ⟨hbg, hbq⟩ (fun _ => ?_) | (go_wp2_with fail; refine hK.out _ _ ⟨hbg, hbq⟩ (fun _ => ?_))
  clear hK K
  (try simp only [Act.put, List.setIfInBounds_toArray, List.set_cons_zero, List.set_cons_succ])
  refine seq_end ?_
  have eg0 := hbg.c0
  have eg1 := hbg.c1
  go_wp2_with fail
  clear eg0 eg1
  refine wp_region_seqF (S := fun w' => Box2 w' pg (Value.int .i64 (E : Int)) (Value.int .i64 (F : Int))) [⟨9, 7, .cells #[.bool false, .slice none 0 0, .slice none 0 0] 30⟩] [(true, 0), (true, 1), (true, 3), (true, 4), (true, 5), (true, 6), (false, 2), (false, 7), (false, 8)] [(false, 10)] (by kernel_rfl) (by kernel_rfl) (by kernel_rfl) (by kernel_rfl) (by kernel_rfl) (by kernel_rfl) (by decide) (by decide) (by kernel_rfl) (by rfl) ?_ (fun w8 o8 h8 => ?_) (fun d _ _ _ _ h => by cases d <;> exact h) hbg.drew ?_
  · intro f hf; simp only [List.mem_cons, List.not_mem_nil, or_false] at hf; rcases hf with rfl <;> exact FlOk.alloc rfl rfl rfl (fun f w => by go_simp)
  · exact Box2.kept h8 ((Below.refl _ _).alloc (Nat.le_refl _) _)
  obtain ⟨B9, hB9⟩ : ∃ B, B = w13.heap.size := ⟨_, rfl⟩
  rw [← hB9]
  simp only [pickOps, List.append_eq, List.cons_append, List.nil_append, List.getElem?_toArray, List.getElem?_cons_succ, List.getElem?_cons_zero]
  have HB9 : Hid (w.heap.size ≤ B9 ∧ pu < B9) := Lib.hid (by have h1 := hbf.size; have h2u := hbu.lt; rw [hB9]; omega)
  clear hB9
  have hb : Below w13.heap.size w13 w13.drew := (Below.refl _ _).drew
  generalize w13.drew = w14 at hb ⊢
  replace hbg := hbg.kept hb
  replace hbq := hbq.kept hb
  replace hbu := hbu.kept hb
  replace h := h.below hb
  replace hax := hax.below hb
  replace hay := hay.below hb
  replace ha := ha.below hb
  replace hzx := hzx.below hb
  replace hzy := hzy.below hb
  replace hz := hz.below hb
  replace hxx := hxx.below hb
  replace hxy := hxy.below hb
  replace hx := hx.below hb
  replace hdx := hdx.below hb
  replace hdy := hdy.below hb
  replace hd := hd.below hb
  replace hbf := hbf.trans (hb.mono hbf.size)
  clear hb
  repeat (refine seqF_take (v := ?_) (fun t => by rfl) ?_ ?_; rotate_left; (· intro a9 h9 w hSw; (try dsimp only at hSw); obtain ⟨x7, rfl⟩ : ∃ x, a9 = Act.put _ (some 7) x := ⟨_, h9.one⟩; clear h9; obtain ⟨eg0, eg1, _, _⟩ := hSw; (try simp only [Act.put, List.setIfInBounds_toArray, List.set_cons_zero, List.set_cons_succ]); go_simp; all_goals with_reducible rfl); (try simp only [Act.put, List.setIfInBounds_toArray, List.set_cons_zero, List.set_cons_succ]))
  refine seqF_step (fun t => by rfl) (fun a9 w15 h9 hb hS9 K hK => ?_)
  obtain ⟨x7, rfl⟩ : ∃ x, a9 = Act.put _ (some 7) x := ⟨_, h9.one⟩
  clear h9 hS9
  (try simp only [Act.put, List.setIfInBounds_toArray, List.set_cons_zero, List.set_cons_succ] at hK); (try simp only [Act.put, List.setIfInBounds_toArray, List.set_cons_zero, List.set_cons_succ])
  replace hbg := hbg.kept hb
  replace hbq := hbq.kept hb
  replace hbu := hbu.kept hb
  replace h := h.below hb
  replace hax := hax.below hb
  replace hay := hay.below hb
  replace ha := ha.below hb
  replace hzx := hzx.below hb
  replace hzy := hzy.below hb
  replace hz := hz.below hb
  replace hxx := hxx.below hb
  replace hxy := hxy.below hb
  replace hx := hx.below hb
  replace hdx := hdx.below hb
  replace hdy := hdy.below hb
  replace hd := hd.below hb
  replace hbf := hbf.trans (hb.mono hbf.size)
  clear hb
  go_simp
  go_at_call 32
  (with_reducible refine (value_any E F n _ hE2 hE hF1 hF hnI).mono ?_)
  rintro e w16 hq9
  obtain ⟨yB, yxO, yxL, yxC, yyO, yyL, yyC, rfl, hS, hyx, hyy, hy, hb⟩ := hq9.out
  have HyS := Lib.hid hS; clear hS
  replace hbg := hbg.kept hb
  replace hbq := hbq.kept hb
  replace hbu := hbu.kept hb
  replace h := h.below hb
  replace hax := hax.below hb
  replace hay := hay.below hb
  replace ha := ha.below hb
  replace hzx := hzx.below hb
  replace hzy := hzy.below hb
  replace hz := hz.below hb
  replace hxx := hxx.below hb
  replace hxy := hxy.below hb
  replace hx := hx.below hb
  replace hdx := hdx.below hb
  replace hdy := hdy.below hb
  replace hd := hd.below hb
  replace hbf := hbf.trans (hb.mono hbf.size)
  have hbK := hb; clear hb
  first | refine hK.out _ _ hbg hbK ?_ | (go_wp2_with fail; refine hK.out _ _ hbg hbK ?_)
  clear hK K hbK
  (try simp only [Act.put, List.setIfInBounds_toArray, List.set_cons_zero, List.set_cons_succ])
  refine seqF_step (fun t => by rfl) (fun a9 w17 h9 hb hS9 K hK => ?_)
  obtain ⟨x7, rfl⟩ : ∃ x, a9 = Act.put _ (some 7) x := ⟨_, h9.one⟩
  clear h9 hS9
  (try simp only [Act.put, List.setIfInBounds_toArray, List.set_cons_zero, List.set_cons_succ] at hK); (try simp only [Act.put, List.setIfInBounds_toArray, List.set_cons_zero, List.set_cons_succ])
  replace hbg := hbg.kept hb
  replace hbq := hbq.kept hb
  replace hbu := hbu.kept hb
  replace h := h.below hb
  replace hax := hax.below hb
  replace hay := hay.below hb
  replace ha := ha.below hb
  replace hzx := hzx.below hb
  replace hzy := hzy.below hb
  replace hz := hz.below hb
  replace hxx := hxx.below hb
  replace hxy := hxy.below hb
  replace hx := hx.below hb
  replace hdx := hdx.below hb
  replace hdy := hdy.below hb
  replace hd := hd.below hb
  replace hyx := hyx.below hb
  replace hyy := hyy.below hb
  replace hy := hy.below hb
  replace hbf := hbf.trans (hb.mono hbf.size)
  clear hb
  go_simp
  go_at_call 32
  (with_reducible refine (value_x E F (n - 1) _ _ HMW.out hE2 hE hF1 hF hnI2).mono ?_)
  rintro e w18 hq9
  obtain ⟨oB, oxO, oxL, oxC, oyO, oyL, oyC, rfl, hS, hox, hoy, ho, hb⟩ := hq9.out
  have HoS := Lib.hid hS; clear hS
  replace hbg := hbg.kept hb
  replace hbq := hbq.kept hb
  replace hbu := hbu.kept hb
  replace h := h.below hb
  replace hax := hax.below hb
  replace hay := hay.below hb
  replace ha := ha.below hb
  replace hzx := hzx.below hb
  replace hzy := hzy.below hb
  replace hz := hz.below hb
  replace hxx := hxx.below hb
  replace hxy := hxy.below hb
  replace hx := hx.below hb
  replace hdx := hdx.below hb
  replace hdy := hdy.below hb
  replace hd := hd.below hb
  replace hyx := hyx.below hb
  replace hyy := hyy.below hb
  replace hy := hy.below hb
  replace hbf := hbf.trans (hb.mono hbf.size)
  have hbK := hb; clear hb
  first | refine hK.out _ _ hbg hbK ?_ | (go_wp2_with fail; refine hK.out _ _ hbg hbK ?_)
  clear hK K hbK
  (try simp only [Act.put, List.setIfInBounds_toArray, List.set_cons_zero, List.set_cons_succ])
  refine seqF_step (fun t => by rfl) (fun a9 w19 h9 hb hS9 K hK => ?_)
  obtain ⟨x7, rfl⟩ : ∃ x, a9 = Act.put _ (some 7) x := ⟨_, h9.one⟩
  clear h9 hS9
  (try simp only [Act.put, List.setIfInBounds_toArray, List.set_cons_zero, List.set_cons_succ] at hK); (try simp only [Act.put, List.setIfInBounds_toArray, List.set_cons_zero, List.set_cons_succ])
  replace hbg := hbg.kept hb
  replace hbq := hbq.kept hb
  replace hbu := hbu.kept hb
  replace h := h.below hb
  replace hax := hax.below hb
  replace hay := hay.below hb
  replace ha := ha.below hb
  replace hzx := hzx.below hb
  replace hzy := hzy.below hb
  replace hz := hz.below hb
  replace hxx := hxx.below hb
  replace hxy := hxy.below hb
  replace hx := hx.below hb
  replace hdx := hdx.below hb
  replace hdy := hdy.below hb
  replace hd := hd.below hb
  replace hyx := hyx.below hb
  replace hyy := hyy.below hb
  replace hy := hy.below hb
  replace hox := hox.below hb
  replace hoy := hoy.below hb
  replace ho := ho.below hb
  replace hbf := hbf.trans (hb.mono hbf.size)
  clear hb
  go_simp
  go_at_call 38
  (with_reducible refine (qsub_any _ _ (fval E F n) (fval E F (n - 1)) 66 66 _ hy ho hvq hpq (by decide)).mono ?_)
  rintro e w20 hq9
  obtain ⟨lB, lxO, lxL, lxC, lyO, lyL, lyC, rfl, hS, hlx, hly, hl, hb⟩ := hq9.out
  have HlS := Lib.hid hS; clear hS
  replace hbg := hbg.kept hb
  replace hbq := hbq.kept hb
  replace hbu := hbu.kept hb
  replace h := h.below hb
  replace hax := hax.below hb
  replace hay := hay.below hb
  replace ha := ha.below hb
  replace hzx := hzx.below hb
  replace hzy := hzy.below hb
  replace hz := hz.below hb
  replace hxx := hxx.below hb
  replace hxy := hxy.below hb
  replace hx := hx.below hb
  replace hdx := hdx.below hb
  replace hdy := hdy.below hb
  replace hd := hd.below hb
  replace hyx := hyx.below hb
  replace hyy := hyy.below hb
  replace hy := hy.below hb
  replace hox := hox.below hb
  replace hoy := hoy.below hb
  replace ho := ho.below hb
  replace hbf := hbf.trans (hb.mono hbf.size)
  have hbK := hb; clear hb
  first | refine hK.out _ _ hbg hbK ?_ | (go_wp2_with fail; refine hK.out _ _ hbg hbK ?_)
  clear hK K hbK
  (try simp only [Act.put, List.setIfInBounds_toArray, List.set_cons_zero, List.set_cons_succ])
  refine seqF_end (fun a9 w21 h9 hb hS9 hAt hNe => ?_)
  obtain ⟨x7, rfl⟩ : ∃ x, a9 = Act.put _ (some 7) x := ⟨_, h9.one⟩
  clear h9 hS9
  (try simp only [Act.put, List.setIfInBounds_toArray, List.set_cons_zero, List.set_cons_succ])
  (try simp only [Act.put, List.setIfInBounds_toArray, List.set_cons_zero, List.set_cons_succ] at hAt hNe)
  replace hbg := hbg.kept hb
  replace hbq := hbq.kept hb
  replace hbu := hbu.kept hb
  replace h := h.below hb
  replace hax := hax.below hb
  replace hay := hay.below hb
  replace ha := ha.below hb
  replace hzx := hzx.below hb
  replace hzy := hzy.below hb
  replace hz := hz.below hb
  replace hxx := hxx.below hb
  replace hxy := hxy.below hb
  replace hx := hx.below hb
  replace hdx := hdx.below hb
  replace hdy := hdy.below hb
  replace hd := hd.below hb
  replace hyx := hyx.below hb
  replace hyy := hyy.below hb
  replace hy := hy.below hb
  replace hox := hox.below hb
  replace hoy := hoy.below hb
  replace ho := ho.below hb
  replace hlx := hlx.below hb
  replace hly := hly.below hb
  replace hl := hl.below hb
  replace hbf := hbf.trans (hb.mono hbf.size)
  clear hb
  obtain ⟨pv, hxv, hgv, hhv⟩ := (hAt ⟨9, 7, .cells #[.bool false, .slice none 0 0, .slice none 0 0] 30⟩ (by simp)).slot rfl
  have hbv := box3_heap hhv; clear hhv
  replace hxv : x7 = _ := hxv
  clear hAt hNe
  subst hxv
  replace HP : Hid (w.heap.size ≤ pg ∧ pg < pq ∧ pq < pu ∧ pu < pv) := Lib.hid (by have h1 := HP.out; have h2 := HB9.out; omega)
  clear HB9 hgv
  simp only [pickOps, List.append_eq, List.cons_append, List.nil_append, List.getElem?_toArray, List.getElem?_cons_succ, List.getElem?_cons_zero]
  refine seq_step (by rfl) (fun K hK => ?_)
  have ev0 := hbv.c0
  have fv0 := hbv.f0
  have ev1 := hbv.c1
  have fv1 := hbv.f1
  have ev2 := hbv.c2
  have fv2 := hbv.f2
  go_simp
  clear ev0 fv0 ev1 fv1 ev2 fv2
  obtain ⟨w22, hwE⟩ : ∃ W, W = ((w21.setCell ⟨pv, 0, none⟩ (Value.bool lB)).setCell ⟨pv, 1, none⟩ (Value.slice lxO lxL lxC)).setCell ⟨pv, 2, none⟩ (Value.slice lyO lyL lyC) := ⟨_, rfl⟩
  rw [← hwE]
  replace h := h.set3 (u0 := (Value.bool lB)) (u1 := (Value.slice lxO lxL lxC)) (u2 := (Value.slice lyO lyL lyC)) hbv; rw [← hwE] at h
  replace hax := hax.set3 (u0 := (Value.bool lB)) (u1 := (Value.slice lxO lxL lxC)) (u2 := (Value.slice lyO lyL lyC)) hbv; rw [← hwE] at hax
  replace hay := hay.set3 (u0 := (Value.bool lB)) (u1 := (Value.slice lxO lxL lxC)) (u2 := (Value.slice lyO lyL lyC)) hbv; rw [← hwE] at hay
  replace ha := ha.set3 (u0 := (Value.bool lB)) (u1 := (Value.slice lxO lxL lxC)) (u2 := (Value.slice lyO lyL lyC)) hbv; rw [← hwE] at ha
  replace hzx := hzx.set3 (u0 := (Value.bool lB)) (u1 := (Value.slice lxO lxL lxC)) (u2 := (Value.slice lyO lyL lyC)) hbv; rw [← hwE] at hzx
  replace hzy := hzy.set3 (u0 := (Value.bool lB)) (u1 := (Value.slice lxO lxL lxC)) (u2 := (Value.slice lyO lyL lyC)) hbv; rw [← hwE] at hzy
  replace hz := hz.set3 (u0 := (Value.bool lB)) (u1 := (Value.slice lxO lxL lxC)) (u2 := (Value.slice lyO lyL lyC)) hbv; rw [← hwE] at hz
  replace hxx := hxx.set3 (u0 := (Value.bool lB)) (u1 := (Value.slice lxO lxL lxC)) (u2 := (Value.slice lyO lyL lyC)) hbv; rw [← hwE] at hxx
  replace hxy := hxy.set3 (u0 := (Value.bool lB)) (u1 := (Value.slice lxO lxL lxC)) (u2 := (Value.slice lyO lyL lyC)) hbv; rw [← hwE] at hxy
  replace hx := hx.set3 (u0 := (Value.bool lB)) (u1 := (Value.slice lxO lxL lxC)) (u2 := (Value.slice lyO lyL lyC)) hbv; rw [← hwE] at hx
  replace hdx := hdx.set3 (u0 := (Value.bool lB)) (u1 := (Value.slice lxO lxL lxC)) (u2 := (Value.slice lyO lyL lyC)) hbv; rw [← hwE] at hdx
  replace hdy := hdy.set3 (u0 := (Value.bool lB)) (u1 := (Value.slice lxO lxL lxC)) (u2 := (Value.slice lyO lyL lyC)) hbv; rw [← hwE] at hdy
  replace hd := hd.set3 (u0 := (Value.bool lB)) (u1 := (Value.slice lxO lxL lxC)) (u2 := (Value.slice lyO lyL lyC)) hbv; rw [← hwE] at hd
  replace hyx := hyx.set3 (u0 := (Value.bool lB)) (u1 := (Value.slice lxO lxL lxC)) (u2 := (Value.slice lyO lyL lyC)) hbv; rw [← hwE] at hyx
  replace hyy := hyy.set3 (u0 := (Value.bool lB)) (u1 := (Value.slice lxO lxL lxC)) (u2 := (Value.slice lyO lyL lyC)) hbv; rw [← hwE] at hyy
  replace hy := hy.set3 (u0 := (Value.bool lB)) (u1 := (Value.slice lxO lxL lxC)) (u2 := (Value.slice lyO lyL lyC)) hbv; rw [← hwE] at hy
  replace hox := hox.set3 (u0 := (Value.bool lB)) (u1 := (Value.slice lxO lxL lxC)) (u2 := (Value.slice lyO lyL lyC)) hbv; rw [← hwE] at hox
  replace hoy := hoy.set3 (u0 := (Value.bool lB)) (u1 := (Value.slice lxO lxL lxC)) (u2 := (Value.slice lyO lyL lyC)) hbv; rw [← hwE] at hoy
  replace ho := ho.set3 (u0 := (Value.bool lB)) (u1 := (Value.slice lxO lxL lxC)) (u2 := (Value.slice lyO lyL lyC)) hbv; rw [← hwE] at ho
  replace hlx := hlx.set3 (u0 := (Value.bool lB)) (u1 := (Value.slice lxO lxL lxC)) (u2 := (Value.slice lyO lyL lyC)) hbv; rw [← hwE] at hlx
  replace hly := hly.set3 (u0 := (Value.bool lB)) (u1 := (Value.slice lxO lxL lxC)) (u2 := (Value.slice lyO lyL lyC)) hbv; rw [← hwE] at hly
  replace hl := hl.set3 (u0 := (Value.bool lB)) (u1 := (Value.slice lxO lxL lxC)) (u2 := (Value.slice lyO lyL lyC)) hbv; rw [← hwE] at hl
  replace hbg := hbg.set3f (u0 := (Value.bool lB)) (u1 := (Value.slice lxO lxL lxC)) (u2 := (Value.slice lyO lyL lyC)) (show pg ≠ pv by have := HP.out; omega); rw [← hwE] at hbg
  replace hbq := hbq.set3o (u0 := (Value.bool lB)) (u1 := (Value.slice lxO lxL lxC)) (u2 := (Value.slice lyO lyL lyC)) (show pq ≠ pv by have := HP.out; omega); rw [← hwE] at hbq
  replace hbu := hbu.set3o (u0 := (Value.bool lB)) (u1 := (Value.slice lxO lxL lxC)) (u2 := (Value.slice lyO lyL lyC)) (show pu ≠ pv by have := HP.out; omega); rw [← hwE] at hbu
  replace hbf := below_set3 (u0 := (Value.bool lB)) (u1 := (Value.slice lxO lxL lxC)) (u2 := (Value.slice lyO lyL lyC)) hbf (show w.heap.size ≤ pv by have := HP.out; omega); rw [← hwE] at hbf
  replace hbv := hbv.set3 (u0 := (Value.bool lB)) (u1 := (Value.slice lxO lxL lxC)) (u2 := (Value.slice lyO lyL lyC)); rw [← hwE] at hbv; clear hwE
  first | refine hK.out _ _ hbg (fun _ => ?_) | (go_wp2_with fail; refine hK.out _ _ hbg (fun _ => ?_))
  clear hK K
  (try simp only [Act.put, List.setIfInBounds_toArray, List.set_cons_zero, List.set_cons_succ])
  refine seq_end ?_
  obtain ⟨c9, hc9⟩ : ∃ c, qcmp (qabs r - fval E F n) (fstep E F n / 2) = c := ⟨_, rfl⟩
  have hmo : fmore E F r n = decide (c9 = 1 ∨ c9 = 0 ∧ n % 2 = 1) := by unfold fmore; rw [hc9]
  have H3 := Lib.hid (show c9 = -1 ∨ c9 = 0 ∨ c9 = 1 by rw [← hc9]; exact qcmp_three _ _)
  have HC9 := Lib.hid hc9
  have HMO := Lib.hid hmo
  clear hc9 hmo hmx9
  have eg0 := hbg.c0
  have eg1 := hbg.c1
  go_wp2_with fail
  refine (infinity_any E F _ hE hF).mono ?_
  rintro e w23 ⟨rfl, hb⟩
  clear eg0 eg1
  replace hbg := hbg.kept hb
  replace hbq := hbq.kept hb
  replace hbu := hbu.kept hb
  replace hbv := hbv.kept hb
  replace h := h.below hb
  replace hax := hax.below hb
  replace hay := hay.below hb
  replace ha := ha.below hb
  replace hzx := hzx.below hb
  replace hzy := hzy.below hb
  replace hz := hz.below hb
  replace hxx := hxx.below hb
  replace hxy := hxy.below hb
  replace hx := hx.below hb
  replace hdx := hdx.below hb
  replace hdy := hdy.below hb
  replace hd := hd.below hb
  replace hyx := hyx.below hb
  replace hyy := hyy.below hb
  replace hy := hy.below hb
  replace hox := hox.below hb
  replace hoy := hoy.below hb
  replace ho := ho.below hb
  replace hlx := hlx.below hb
  replace hly := hly.below hb
  replace hl := hl.below hb
  replace hbf := hbf.trans (hb.mono hbf.size)
  clear hb
  by_cases hm : n + 1 < finf E F
  case pos =>
    have hc : decide (((n + 1 : Nat) : Int) < ((finf E F : Nat) : Int)) = true := decide_eq_true (by omega)
    have HST : Hid (fstep E F n = fval E F (n + 1) - fval E F n) := Lib.hid (by unfold fstep; rw [if_pos hm])
    have huq := fval_qb hE hF hm
    have eg0 := hbg.c0
    have eg1 := hbg.c1
    go_wp2_with fail
    clear eg0 eg1
    refine wp_region_seqQ (S := fun w' => Box2 w' pg (Value.int .i64 (E : Int)) (Value.int .i64 (F : Int))) [(0, 4, some 38), (0, 32, some 39), (2, 549755813888, some 40), (5, 1374389534720, some 41), (0, 4, some 42), (0, 32, some 43), (56, 13194139533312, some 44), (72, 19791209299968, some 45), (255, 35184372088960, none)] [(true, 0), (true, 1), (true, 2), (true, 4), (true, 5), (false, 3), (false, 6), (false, 7), (false, 8)] (by kernel_rfl) (by kernel_rfl) (by kernel_rfl) (by kernel_rfl) (by kernel_rfl) (by kernel_rfl) (fun d _ _ _ _ h => by cases d <;> exact h) hbg.drew (fun _ => ?_)
    simp only [pickOps, List.append_eq, List.cons_append, List.nil_append, List.getElem?_toArray, List.getElem?_cons_succ, List.getElem?_cons_zero]
    have hb : Below w23.heap.size w23 w23.drew := (Below.refl _ _).drew
    generalize w23.drew = w24 at hb ⊢
    replace hbg := hbg.kept hb
    replace hbq := hbq.kept hb
    replace hbu := hbu.kept hb
    replace hbv := hbv.kept hb
    replace h := h.below hb
    replace hax := hax.below hb
    replace hay := hay.below hb
    replace ha := ha.below hb
    replace hzx := hzx.below hb
    replace hzy := hzy.below hb
    replace hz := hz.below hb
    replace hxx := hxx.below hb
    replace hxy := hxy.below hb
    replace hx := hx.below hb
    replace hdx := hdx.below hb
    replace hdy := hdy.below hb
    replace hd := hd.below hb
    replace hyx := hyx.below hb
    replace hyy := hyy.below hb
    replace hy := hy.below hb
    replace hox := hox.below hb
    replace hoy := hoy.below hb
    replace ho := ho.below hb
    replace hlx := hlx.below hb
    replace hly := hly.below hb
    replace hl := hl.below hb
    replace hbf := hbf.trans (hb.mono hbf.size)
    clear hb
    repeat (first | (refine seq_take (v := ?_) (by rfl) ?_ ?_; rotate_left; (· intro w hSw; (try dsimp only at hSw); obtain ⟨eg0, eg1, _, _⟩ := hSw; go_simp; all_goals with_reducible rfl); (try simp only [Act.put, List.setIfInBounds_toArray, List.set_cons_zero, List.set_cons_succ])) | (refine seq_leave (by rfl) ?_; (try simp only [Act.put, List.setIfInBounds_toArray, List.set_cons_zero, List.set_cons_succ])))
    refine seq_step (by rfl) (fun K hK => ?_)
    go_simp
    go_at_call 32
    (with_reducible refine (value_x E F (n + 1) _ _ HW1.out hE2 hE hF1 hF hm).mono ?_)
    rintro e w25 hq9
    obtain ⟨iB, ixO, ixL, ixC, iyO, iyL, iyC, rfl, hS, hix, hiy, hi, hb⟩ := hq9.out
    have HiS := Lib.hid hS; clear hS
    replace hbg := hbg.kept hb
    replace hbq := hbq.kept hb
    replace hbu := hbu.kept hb
    replace hbv := hbv.kept hb
    replace h := h.below hb
    replace hax := hax.below hb
    replace hay := hay.below hb
    replace ha := ha.below hb
    replace hzx := hzx.below hb
    replace hzy := hzy.below hb
    replace hz := hz.below hb
    replace hxx := hxx.below hb
    replace hxy := hxy.below hb
    replace hx := hx.below hb
    replace hdx := hdx.below hb
    replace hdy := hdy.below hb
    replace hd := hd.below hb
    replace hyx := hyx.below hb
    replace hyy := hyy.below hb
    replace hy := hy.below hb
    replace hox := hox.below hb
    replace hoy := hoy.below hb
    replace ho := ho.below hb
    replace hlx := hlx.below hb
    replace hly := hly.below hb
    replace hl := hl.below hb
    replace hbf := hbf.trans (hb.mono hbf.size)
    clear hb
    first | refine hK.out _ _ hbg (fun _ => ?_) | (go_wp2_with fail; refine hK.out _ _ hbg (fun _ => ?_))
    clear hK K
    (try simp only [Act.put, List.setIfInBounds_toArray, List.set_cons_zero, List.set_cons_succ])
    refine seq_step (by rfl) (fun K hK => ?_)
    go_simp
    go_at_call 32
    (with_reducible refine (value_any E F n _ hE2 hE hF1 hF hnI).mono ?_)
    rintro e w26 hq9
    obtain ⟨jB, jxO, jxL, jxC, jyO, jyL, jyC, rfl, hS, hjx, hjy, hj, hb⟩ := hq9.out
    have HjS := Lib.hid hS; clear hS
    replace hbg := hbg.kept hb
    replace hbq := hbq.kept hb
    replace hbu := hbu.kept hb
    replace hbv := hbv.kept hb
    replace h := h.below hb
    replace hax := hax.below hb
    replace hay := hay.below hb
    replace ha := ha.below hb
    replace hzx := hzx.below hb
    replace hzy := hzy.below hb
    replace hz := hz.below hb
    replace hxx := hxx.below hb
    replace hxy := hxy.below hb
    replace hx := hx.below hb
    replace hdx := hdx.below hb
    replace hdy := hdy.below hb
    replace hd := hd.below hb
    replace hyx := hyx.below hb
    replace hyy := hyy.below hb
    replace hy := hy.below hb
    replace hox := hox.below hb
    replace hoy := hoy.below hb
    replace ho := ho.below hb
    replace hlx := hlx.below hb
    replace hly := hly.below hb
    replace hl := hl.below hb
    replace hix := hix.below hb
    replace hiy := hiy.below hb
    replace hi := hi.below hb
    replace hbf := hbf.trans (hb.mono hbf.size)
    clear hb
    first | refine hK.out _ _ hbg (fun _ => ?_) | (go_wp2_with fail; refine hK.out _ _ hbg (fun _ => ?_))
    clear hK K
    (try simp only [Act.put, List.setIfInBounds_toArray, List.set_cons_zero, List.set_cons_succ])
    refine seq_step (by rfl) (fun K hK => ?_)
    go_simp
    go_at_call 38
    (with_reducible refine (qsub_any _ _ (fval E F (n + 1)) (fval E F n) 66 66 _ hi hj huq hvq (by decide)).mono ?_)
    rintro e w27 hq9
    obtain ⟨sB, sxO, sxL, sxC, syO, syL, syC, rfl, hS, hsx, hsy, hs, hb⟩ := hq9.out
    have HsS := Lib.hid hS; clear hS
    replace hbg := hbg.kept hb
    replace hbq := hbq.kept hb
    replace hbu := hbu.kept hb
    replace hbv := hbv.kept hb
    replace h := h.below hb
    replace hax := hax.below hb
    replace hay := hay.below hb
    replace ha := ha.below hb
    replace hzx := hzx.below hb
    replace hzy := hzy.below hb
    replace hz := hz.below hb
    replace hxx := hxx.below hb
    replace hxy := hxy.below hb
    replace hx := hx.below hb
    replace hdx := hdx.below hb
    replace hdy := hdy.below hb
    replace hd := hd.below hb
    replace hyx := hyx.below hb
    replace hyy := hyy.below hb
    replace hy := hy.below hb
    replace hox := hox.below hb
    replace hoy := hoy.below hb
    replace ho := ho.below hb
    replace hlx := hlx.below hb
    replace hly := hly.below hb
    replace hl := hl.below hb
    replace hix := hix.below hb
    replace hiy := hiy.below hb
    replace hi := hi.below hb
    replace hjx := hjx.below hb
    replace hjy := hjy.below hb
    replace hj := hj.below hb
    replace hbf := hbf.trans (hb.mono hbf.size)
    clear hb
    first | refine hK.out _ _ hbg (fun _ => ?_) | (go_wp2_with fail; refine hK.out _ _ hbg (fun _ => ?_))
    clear hK K
    (try simp only [Act.put, List.setIfInBounds_toArray, List.set_cons_zero, List.set_cons_succ])
    refine seq_step (by rfl) (fun K hK => ?_)
    have ev0 := hbv.c0
    have fv0 := hbv.f0
    have ev1 := hbv.c1
    have fv1 := hbv.f1
    have ev2 := hbv.c2
    have fv2 := hbv.f2
    go_simp
    clear ev0 fv0 ev1 fv1 ev2 fv2
    obtain ⟨w28, hwE⟩ : ∃ W, W = ((w27.setCell ⟨pv, 0, none⟩ (Value.bool sB)).setCell ⟨pv, 1, none⟩ (Value.slice sxO sxL sxC)).setCell ⟨pv, 2, none⟩ (Value.slice syO syL syC) := ⟨_, rfl⟩
    rw [← hwE]
    replace h := h.set3 (u0 := (Value.bool sB)) (u1 := (Value.slice sxO sxL sxC)) (u2 := (Value.slice syO syL syC)) hbv; rw [← hwE] at h
    replace hax := hax.set3 (u0 := (Value.bool sB)) (u1 := (Value.slice sxO sxL sxC)) (u2 := (Value.slice syO syL syC)) hbv; rw [← hwE] at hax
    replace hay := hay.set3 (u0 := (Value.bool sB)) (u1 := (Value.slice sxO sxL sxC)) (u2 := (Value.slice syO syL syC)) hbv; rw [← hwE] at hay
    replace ha := ha.set3 (u0 := (Value.bool sB)) (u1 := (Value.slice sxO sxL sxC)) (u2 := (Value.slice syO syL syC)) hbv; rw [← hwE] at ha
    replace hzx := hzx.set3 (u0 := (Value.bool sB)) (u1 := (Value.slice sxO sxL sxC)) (u2 := (Value.slice syO syL syC)) hbv; rw [← hwE] at hzx
    replace hzy := hzy.set3 (u0 := (Value.bool sB)) (u1 := (Value.slice sxO sxL sxC)) (u2 := (Value.slice syO syL syC)) hbv; rw [← hwE] at hzy
    replace hz := hz.set3 (u0 := (Value.bool sB)) (u1 := (Value.slice sxO sxL sxC)) (u2 := (Value.slice syO syL syC)) hbv; rw [← hwE] at hz
    replace hxx := hxx.set3 (u0 := (Value.bool sB)) (u1 := (Value.slice sxO sxL sxC)) (u2 := (Value.slice syO syL syC)) hbv; rw [← hwE] at hxx
    replace hxy := hxy.set3 (u0 := (Value.bool sB)) (u1 := (Value.slice sxO sxL sxC)) (u2 := (Value.slice syO syL syC)) hbv; rw [← hwE] at hxy
    replace hx := hx.set3 (u0 := (Value.bool sB)) (u1 := (Value.slice sxO sxL sxC)) (u2 := (Value.slice syO syL syC)) hbv; rw [← hwE] at hx
    replace hdx := hdx.set3 (u0 := (Value.bool sB)) (u1 := (Value.slice sxO sxL sxC)) (u2 := (Value.slice syO syL syC)) hbv; rw [← hwE] at hdx
    replace hdy := hdy.set3 (u0 := (Value.bool sB)) (u1 := (Value.slice sxO sxL sxC)) (u2 := (Value.slice syO syL syC)) hbv; rw [← hwE] at hdy
    replace hd := hd.set3 (u0 := (Value.bool sB)) (u1 := (Value.slice sxO sxL sxC)) (u2 := (Value.slice syO syL syC)) hbv; rw [← hwE] at hd
    replace hyx := hyx.set3 (u0 := (Value.bool sB)) (u1 := (Value.slice sxO sxL sxC)) (u2 := (Value.slice syO syL syC)) hbv; rw [← hwE] at hyx
    replace hyy := hyy.set3 (u0 := (Value.bool sB)) (u1 := (Value.slice sxO sxL sxC)) (u2 := (Value.slice syO syL syC)) hbv; rw [← hwE] at hyy
    replace hy := hy.set3 (u0 := (Value.bool sB)) (u1 := (Value.slice sxO sxL sxC)) (u2 := (Value.slice syO syL syC)) hbv; rw [← hwE] at hy
    replace hox := hox.set3 (u0 := (Value.bool sB)) (u1 := (Value.slice sxO sxL sxC)) (u2 := (Value.slice syO syL syC)) hbv; rw [← hwE] at hox
    replace hoy := hoy.set3 (u0 := (Value.bool sB)) (u1 := (Value.slice sxO sxL sxC)) (u2 := (Value.slice syO syL syC)) hbv; rw [← hwE] at hoy
    replace ho := ho.set3 (u0 := (Value.bool sB)) (u1 := (Value.slice sxO sxL sxC)) (u2 := (Value.slice syO syL syC)) hbv; rw [← hwE] at ho
    replace hlx := hlx.set3 (u0 := (Value.bool sB)) (u1 := (Value.slice sxO sxL sxC)) (u2 := (Value.slice syO syL syC)) hbv; rw [← hwE] at hlx
    replace hly := hly.set3 (u0 := (Value.bool sB)) (u1 := (Value.slice sxO sxL sxC)) (u2 := (Value.slice syO syL syC)) hbv; rw [← hwE] at hly
    replace hl := hl.set3 (u0 := (Value.bool sB)) (u1 := (Value.slice sxO sxL sxC)) (u2 := (Value.slice syO syL syC)) hbv; rw [← hwE] at hl
    replace hix := hix.set3 (u0 := (Value.bool sB)) (u1 := (Value.slice sxO sxL sxC)) (u2 := (Value.slice syO syL syC)) hbv; rw [← hwE] at hix
    replace hiy := hiy.set3 (u0 := (Value.bool sB)) (u1 := (Value.slice sxO sxL sxC)) (u2 := (Value.slice syO syL syC)) hbv; rw [← hwE] at hiy
    replace hi := hi.set3 (u0 := (Value.bool sB)) (u1 := (Value.slice sxO sxL sxC)) (u2 := (Value.slice syO syL syC)) hbv; rw [← hwE] at hi
    replace hjx := hjx.set3 (u0 := (Value.bool sB)) (u1 := (Value.slice sxO sxL sxC)) (u2 := (Value.slice syO syL syC)) hbv; rw [← hwE] at hjx
    replace hjy := hjy.set3 (u0 := (Value.bool sB)) (u1 := (Value.slice sxO sxL sxC)) (u2 := (Value.slice syO syL syC)) hbv; rw [← hwE] at hjy
    replace hj := hj.set3 (u0 := (Value.bool sB)) (u1 := (Value.slice sxO sxL sxC)) (u2 := (Value.slice syO syL syC)) hbv; rw [← hwE] at hj
    replace hsx := hsx.set3 (u0 := (Value.bool sB)) (u1 := (Value.slice sxO sxL sxC)) (u2 := (Value.slice syO syL syC)) hbv; rw [← hwE] at hsx
    replace hsy := hsy.set3 (u0 := (Value.bool sB)) (u1 := (Value.slice sxO sxL sxC)) (u2 := (Value.slice syO syL syC)) hbv; rw [← hwE] at hsy
    replace hs := hs.set3 (u0 := (Value.bool sB)) (u1 := (Value.slice sxO sxL sxC)) (u2 := (Value.slice syO syL syC)) hbv; rw [← hwE] at hs
    replace hbg := hbg.set3f (u0 := (Value.bool sB)) (u1 := (Value.slice sxO sxL sxC)) (u2 := (Value.slice syO syL syC)) (show pg ≠ pv by have := HP.out; omega); rw [← hwE] at hbg
    replace hbq := hbq.set3o (u0 := (Value.bool sB)) (u1 := (Value.slice sxO sxL sxC)) (u2 := (Value.slice syO syL syC)) (show pq ≠ pv by have := HP.out; omega); rw [← hwE] at hbq
    replace hbu := hbu.set3o (u0 := (Value.bool sB)) (u1 := (Value.slice sxO sxL sxC)) (u2 := (Value.slice syO syL syC)) (show pu ≠ pv by have := HP.out; omega); rw [← hwE] at hbu
    replace hbf := below_set3 (u0 := (Value.bool sB)) (u1 := (Value.slice sxO sxL sxC)) (u2 := (Value.slice syO syL syC)) hbf (show w.heap.size ≤ pv by have := HP.out; omega); rw [← hwE] at hbf
    replace hbv := hbv.set3 (u0 := (Value.bool sB)) (u1 := (Value.slice sxO sxL sxC)) (u2 := (Value.slice syO syL syC)); rw [← hwE] at hbv; clear hwE
    first | refine hK.out _ _ hbg (fun _ => ?_) | (go_wp2_with fail; refine hK.out _ _ hbg (fun _ => ?_))
    clear hK K
    (try simp only [Act.put, List.setIfInBounds_toArray, List.set_cons_zero, List.set_cons_succ])
    refine seq_end ?_
    have hsv := hs
    rw [← HST.out] at hsv
    have hsq : QB (fstep E F n) 133 := by rw [HST.out]; exact huq.sub hvq
    have h2q : QB ((2 : Int) : Rat) 2 := by rw [q_two]; exact q_two_b
    have hhq := hsq.div h2q (by decide)
    have ev0 := hbv.c0
    have ev1 := hbv.c1
    have ev2 := hbv.c2
    go_wp2_with fail
    clear ev0 ev1 ev2
    refine wp_region_seqF (S := fun w' => Box3 w' pv (Value.bool sB) (Value.slice sxO sxL sxC) (Value.slice syO syL syC)) [⟨6, 8, .cells #[.bool false, .slice none 0 0, .slice none 0 0] 30⟩] [(true, 0), (false, 1), (false, 2), (true, 3), (true, 4), (true, 5)] [(false, 7), (true, 8)] (by kernel_rfl) (by kernel_rfl) (by kernel_rfl) (by kernel_rfl) (by kernel_rfl) (by kernel_rfl) (by decide) (by decide) (by kernel_rfl) (by rfl) ?_ (fun w8 o8 h8 => ?_) (fun d _ _ _ _ h => by cases d <;> exact h) hbv.drew ?_
    · intro f hf; simp only [List.mem_cons, List.not_mem_nil, or_false] at hf; rcases hf with rfl <;> exact FlOk.alloc rfl rfl rfl (fun f w => by go_simp)
    · exact Box3.kept h8 ((Below.refl _ _).alloc (Nat.le_refl _) _)
    obtain ⟨B9, hB9⟩ : ∃ B, B = w28.heap.size := ⟨_, rfl⟩
    rw [← hB9]
    simp only [pickOps, List.append_eq, List.cons_append, List.nil_append, List.getElem?_toArray, List.getElem?_cons_succ, List.getElem?_cons_zero]
    have HB9 : Hid (w.heap.size ≤ B9 ∧ pv < B9) := Lib.hid (by have h1 := hbf.size; have h2v := hbv.lt; rw [hB9]; omega)
    clear hB9
    have hb : Below w28.heap.size w28 w28.drew := (Below.refl _ _).drew
    generalize w28.drew = w29 at hb ⊢
    replace hbg := hbg.kept hb
    replace hbq := hbq.kept hb
    replace hbu := hbu.kept hb
    replace hbv := hbv.kept hb
    replace h := h.below hb
    replace hax := hax.below hb
    replace hay := hay.below hb
    replace ha := ha.below hb
    replace hzx := hzx.below hb
    replace hzy := hzy.below hb
    replace hz := hz.below hb
    replace hxx := hxx.below hb
    replace hxy := hxy.below hb
    replace hx := hx.below hb
    replace hdx := hdx.below hb
    replace hdy := hdy.below hb
    replace hd := hd.below hb
    replace hyx := hyx.below hb
    replace hyy := hyy.below hb
    replace hy := hy.below hb
    replace hox := hox.below hb
    replace hoy := hoy.below hb
    replace ho := ho.below hb
    replace hlx := hlx.below hb
    replace hly := hly.below hb
    replace hl := hl.below hb
    replace hix := hix.below hb
    replace hiy := hiy.below hb
    replace hi := hi.below hb
    replace hjx := hjx.below hb
    replace hjy := hjy.below hb
    replace hj := hj.below hb
    replace hsx := hsx.below hb
    replace hsy := hsy.below hb
    replace hs := hs.below hb
    replace hsv := hsv.below hb
    replace hbf := hbf.trans (hb.mono hbf.size)
    clear hb
    repeat (refine seqF_take (v := ?_) (fun t => by rfl) ?_ ?_; rotate_left; (· intro a9 h9 w hSw; (try dsimp only at hSw); obtain ⟨x8, rfl⟩ : ∃ x, a9 = Act.put _ (some 8) x := ⟨_, h9.one⟩; clear h9; obtain ⟨ev0, ev1, ev2, _, _, _⟩ := hSw; (try simp only [Act.put, List.setIfInBounds_toArray, List.set_cons_zero, List.set_cons_succ]); go_simp; all_goals with_reducible rfl); (try simp only [Act.put, List.setIfInBounds_toArray, List.set_cons_zero, List.set_cons_succ]))
    refine seqF_step (fun t => by rfl) (fun a9 w30 h9 hb hS9 K hK => ?_)
    obtain ⟨x8, rfl⟩ : ∃ x, a9 = Act.put _ (some 8) x := ⟨_, h9.one⟩
    clear h9 hS9
    (try simp only [Act.put, List.setIfInBounds_toArray, List.set_cons_zero, List.set_cons_succ] at hK); (try simp only [Act.put, List.setIfInBounds_toArray, List.set_cons_zero, List.set_cons_succ])
    replace hbg := hbg.kept hb
    replace hbq := hbq.kept hb
    replace hbu := hbu.kept hb
    replace hbv := hbv.kept hb
    replace h := h.below hb
    replace hax := hax.below hb
    replace hay := hay.below hb
    replace ha := ha.below hb
    replace hzx := hzx.below hb
    replace hzy := hzy.below hb
    replace hz := hz.below hb
    replace hxx := hxx.below hb
    replace hxy := hxy.below hb
    replace hx := hx.below hb
    replace hdx := hdx.below hb
    replace hdy := hdy.below hb
    replace hd := hd.below hb
    replace hyx := hyx.below hb
    replace hyy := hyy.below hb
    replace hy := hy.below hb
    replace hox := hox.below hb
    replace hoy := hoy.below hb
    replace ho := ho.below hb
    replace hlx := hlx.below hb
    replace hly := hly.below hb
    replace hl := hl.below hb
    replace hix := hix.below hb
    replace hiy := hiy.below hb
    replace hi := hi.below hb
    replace hjx := hjx.below hb
    replace hjy := hjy.below hb
    replace hj := hj.below hb
    replace hsx := hsx.below hb
    replace hsy := hsy.below hb
    replace hs := hs.below hb
    replace hsv := hsv.below hb
    replace hbf := hbf.trans (hb.mono hbf.size)
    clear hb
    go_simp
    go_at_call 40
    (with_reducible refine (of_q 2 _ (by decide) (by decide)).mono ?_)
    rintro e w31 hq9
    obtain ⟨mB, mxO, mxL, mxC, myO, myL, myC, rfl, hS, hmx, hmy, hm, hb⟩ := hq9.out
    have HmS := Lib.hid hS; clear hS
    replace hbg := hbg.kept hb
    replace hbq := hbq.kept hb
    replace hbu := hbu.kept hb
    replace hbv := hbv.kept hb
    replace h := h.below hb
    replace hax := hax.below hb
    replace hay := hay.below hb
    replace ha := ha.below hb
    replace hzx := hzx.below hb
    replace hzy := hzy.below hb
    replace hz := hz.below hb
    replace hxx := hxx.below hb
    replace hxy := hxy.below hb
    replace hx := hx.below hb
    replace hdx := hdx.below hb
    replace hdy := hdy.below hb
    replace hd := hd.below hb
    replace hyx := hyx.below hb
    replace hyy := hyy.below hb
    replace hy := hy.below hb
    replace hox := hox.below hb
    replace hoy := hoy.below hb
    replace ho := ho.below hb
    replace hlx := hlx.below hb
    replace hly := hly.below hb
    replace hl := hl.below hb
    replace hix := hix.below hb
    replace hiy := hiy.below hb
    replace hi := hi.below hb
    replace hjx := hjx.below hb
    replace hjy := hjy.below hb
    replace hj := hj.below hb
    replace hsx := hsx.below hb
    replace hsy := hsy.below hb
    replace hs := hs.below hb
    replace hsv := hsv.below hb
    replace hbf := hbf.trans (hb.mono hbf.size)
    have hbK := hb; clear hb
    first | refine hK.out _ _ hbv hbK ?_ | (go_wp2_with fail; refine hK.out _ _ hbv hbK ?_)
    clear hK K hbK
    (try simp only [Act.put, List.setIfInBounds_toArray, List.set_cons_zero, List.set_cons_succ])
    refine seqF_step (fun t => by rfl) (fun a9 w32 h9 hb hS9 K hK => ?_)
    obtain ⟨x8, rfl⟩ : ∃ x, a9 = Act.put _ (some 8) x := ⟨_, h9.one⟩
    clear h9 hS9
    (try simp only [Act.put, List.setIfInBounds_toArray, List.set_cons_zero, List.set_cons_succ] at hK); (try simp only [Act.put, List.setIfInBounds_toArray, List.set_cons_zero, List.set_cons_succ])
    replace hbg := hbg.kept hb
    replace hbq := hbq.kept hb
    replace hbu := hbu.kept hb
    replace hbv := hbv.kept hb
    replace h := h.below hb
    replace hax := hax.below hb
    replace hay := hay.below hb
    replace ha := ha.below hb
    replace hzx := hzx.below hb
    replace hzy := hzy.below hb
    replace hz := hz.below hb
    replace hxx := hxx.below hb
    replace hxy := hxy.below hb
    replace hx := hx.below hb
    replace hdx := hdx.below hb
    replace hdy := hdy.below hb
    replace hd := hd.below hb
    replace hyx := hyx.below hb
    replace hyy := hyy.below hb
    replace hy := hy.below hb
    replace hox := hox.below hb
    replace hoy := hoy.below hb
    replace ho := ho.below hb
    replace hlx := hlx.below hb
    replace hly := hly.below hb
    replace hl := hl.below hb
    replace hix := hix.below hb
    replace hiy := hiy.below hb
    replace hi := hi.below hb
    replace hjx := hjx.below hb
    replace hjy := hjy.below hb
    replace hj := hj.below hb
    replace hsx := hsx.below hb
    replace hsy := hsy.below hb
    replace hs := hs.below hb
    replace hsv := hsv.below hb
    replace hmx := hmx.below hb
    replace hmy := hmy.below hb
    replace hm := hm.below hb
    replace hbf := hbf.trans (hb.mono hbf.size)
    clear hb
    go_simp
    go_at_call 39
    (with_reducible refine (qdiv_ok _ _ (fstep E F n) ((2 : Int) : Rat) 133 2 _ hsv hm hsq h2q (by decide) (by decide)).mono ?_)
    rintro e w33 hq9
    obtain ⟨pB, pxO, pxL, pxC, pyO, pyL, pyC, rfl, hS, hpx, hpy, hp, hb⟩ := hq9.out
    have HpS := Lib.hid hS; clear hS
    replace hbg := hbg.kept hb
    replace hbq := hbq.kept hb
    replace hbu := hbu.kept hb
    replace hbv := hbv.kept hb
    replace h := h.below hb
    replace hax := hax.below hb
    replace hay := hay.below hb
    replace ha := ha.below hb
    replace hzx := hzx.below hb
    replace hzy := hzy.below hb
    replace hz := hz.below hb
    replace hxx := hxx.below hb
    replace hxy := hxy.below hb
    replace hx := hx.below hb
    replace hdx := hdx.below hb
    replace hdy := hdy.below hb
    replace hd := hd.below hb
    replace hyx := hyx.below hb
    replace hyy := hyy.below hb
    replace hy := hy.below hb
    replace hox := hox.below hb
    replace hoy := hoy.below hb
    replace ho := ho.below hb
    replace hlx := hlx.below hb
    replace hly := hly.below hb
    replace hl := hl.below hb
    replace hix := hix.below hb
    replace hiy := hiy.below hb
    replace hi := hi.below hb
    replace hjx := hjx.below hb
    replace hjy := hjy.below hb
    replace hj := hj.below hb
    replace hsx := hsx.below hb
    replace hsy := hsy.below hb
    replace hs := hs.below hb
    replace hsv := hsv.below hb
    replace hmx := hmx.below hb
    replace hmy := hmy.below hb
    replace hm := hm.below hb
    replace hbf := hbf.trans (hb.mono hbf.size)
    have hbK := hb; clear hb
    first | refine hK.out _ _ hbv hbK ?_ | (go_wp2_with fail; refine hK.out _ _ hbv hbK ?_)
    clear hK K hbK
    (try simp only [Act.put, List.setIfInBounds_toArray, List.set_cons_zero, List.set_cons_succ])
    repeat (refine seqF_take (v := ?_) (fun t => by rfl) ?_ ?_; rotate_left; (· intro a9 h9 w hSw; (try dsimp only at hSw); obtain ⟨x8, rfl⟩ : ∃ x, a9 = Act.put _ (some 8) x := ⟨_, h9.one⟩; clear h9; obtain ⟨ev0, ev1, ev2, _, _, _⟩ := hSw; (try simp only [Act.put, List.setIfInBounds_toArray, List.set_cons_zero, List.set_cons_succ]); go_simp; all_goals with_reducible rfl); (try simp only [Act.put, List.setIfInBounds_toArray, List.set_cons_zero, List.set_cons_succ]))
    refine seqF_end (fun a9 w34 h9 hb hS9 hAt hNe => ?_)
    obtain ⟨x8, rfl⟩ : ∃ x, a9 = Act.put _ (some 8) x := ⟨_, h9.one⟩
    clear h9 hS9
    (try simp only [Act.put, List.setIfInBounds_toArray, List.set_cons_zero, List.set_cons_succ])
    (try simp only [Act.put, List.setIfInBounds_toArray, List.set_cons_zero, List.set_cons_succ] at hAt hNe)
    replace hbg := hbg.kept hb
    replace hbq := hbq.kept hb
    replace hbu := hbu.kept hb
    replace hbv := hbv.kept hb
    replace h := h.below hb
    replace hax := hax.below hb
    replace hay := hay.below hb
    replace ha := ha.below hb
    replace hzx := hzx.below hb
    replace hzy := hzy.below hb
    replace hz := hz.below hb
    replace hxx := hxx.below hb
    replace hxy := hxy.below hb
    replace hx := hx.below hb
    replace hdx := hdx.below hb
    replace hdy := hdy.below hb
    replace hd := hd.below hb
    replace hyx := hyx.below hb
    replace hyy := hyy.below hb
    replace hy := hy.below hb
    replace hox := hox.below hb
    replace hoy := hoy.below hb
    replace ho := ho.below hb
    replace hlx := hlx.below hb
    replace hly := hly.below hb
    replace hl := hl.below hb
    replace hix := hix.below hb
    replace hiy := hiy.below hb
    replace hi := hi.below hb
    replace hjx := hjx.below hb
    replace hjy := hjy.below hb
    replace hj := hj.below hb
    replace hsx := hsx.below hb
    replace hsy := hsy.below hb
    replace hs := hs.below hb
    replace hsv := hsv.below hb
    replace hmx := hmx.below hb
    replace hmy := hmy.below hb
    replace hm := hm.below hb
    replace hpx := hpx.below hb
    replace hpy := hpy.below hb
    replace hp := hp.below hb
    replace hbf := hbf.trans (hb.mono hbf.size)
    clear hb
    obtain ⟨px, hxx, hgx, hhx⟩ := (hAt ⟨6, 8, .cells #[.bool false, .slice none 0 0, .slice none 0 0] 30⟩ (by simp)).slot rfl
    have hbx := box3_heap hhx; clear hhx
    replace hxx : x8 = _ := hxx
    clear hAt hNe
    subst hxx
    replace HP : Hid (w.heap.size ≤ pg ∧ pg < pq ∧ pq < pu ∧ pu < pv ∧ pv < px) := Lib.hid (by have h1 := HP.out; have h2 := HB9.out; omega)
    clear HB9 hgx
    simp only [pickOps, List.append_eq, List.cons_append, List.nil_append, List.getElem?_toArray, List.getElem?_cons_succ, List.getElem?_cons_zero]
    refine seq_step (by rfl) (fun K hK => ?_)
    have ex0 := hbx.c0
    have fx0 := hbx.f0
    have ex1 := hbx.c1
    have fx1 := hbx.f1
    have ex2 := hbx.c2
    have fx2 := hbx.f2
    go_simp
    clear ex0 fx0 ex1 fx1 ex2 fx2
    obtain ⟨w35, hwE⟩ : ∃ W, W = ((w34.setCell ⟨px, 0, none⟩ (Value.bool pB)).setCell ⟨px, 1, none⟩ (Value.slice pxO pxL pxC)).setCell ⟨px, 2, none⟩ (Value.slice pyO pyL pyC) := ⟨_, rfl⟩
    rw [← hwE]
    replace h := h.set3 (u0 := (Value.bool pB)) (u1 := (Value.slice pxO pxL pxC)) (u2 := (Value.slice pyO pyL pyC)) hbx; rw [← hwE] at h
    replace hax := hax.set3 (u0 := (Value.bool pB)) (u1 := (Value.slice pxO pxL pxC)) (u2 := (Value.slice pyO pyL pyC)) hbx; rw [← hwE] at hax
    replace hay := hay.set3 (u0 := (Value.bool pB)) (u1 := (Value.slice pxO pxL pxC)) (u2 := (Value.slice pyO pyL pyC)) hbx; rw [← hwE] at hay
    replace ha := ha.set3 (u0 := (Value.bool pB)) (u1 := (Value.slice pxO pxL pxC)) (u2 := (Value.slice pyO pyL pyC)) hbx; rw [← hwE] at ha
    replace hzx := hzx.set3 (u0 := (Value.bool pB)) (u1 := (Value.slice pxO pxL pxC)) (u2 := (Value.slice pyO pyL pyC)) hbx; rw [← hwE] at hzx
    replace hzy := hzy.set3 (u0 := (Value.bool pB)) (u1 := (Value.slice pxO pxL pxC)) (u2 := (Value.slice pyO pyL pyC)) hbx; rw [← hwE] at hzy
    replace hz := hz.set3 (u0 := (Value.bool pB)) (u1 := (Value.slice pxO pxL pxC)) (u2 := (Value.slice pyO pyL pyC)) hbx; rw [← hwE] at hz
    replace hxx := hxx.set3 (u0 := (Value.bool pB)) (u1 := (Value.slice pxO pxL pxC)) (u2 := (Value.slice pyO pyL pyC)) hbx; rw [← hwE] at hxx
    replace hxy := hxy.set3 (u0 := (Value.bool pB)) (u1 := (Value.slice pxO pxL pxC)) (u2 := (Value.slice pyO pyL pyC)) hbx; rw [← hwE] at hxy
    replace hx := hx.set3 (u0 := (Value.bool pB)) (u1 := (Value.slice pxO pxL pxC)) (u2 := (Value.slice pyO pyL pyC)) hbx; rw [← hwE] at hx
    replace hdx := hdx.set3 (u0 := (Value.bool pB)) (u1 := (Value.slice pxO pxL pxC)) (u2 := (Value.slice pyO pyL pyC)) hbx; rw [← hwE] at hdx
    replace hdy := hdy.set3 (u0 := (Value.bool pB)) (u1 := (Value.slice pxO pxL pxC)) (u2 := (Value.slice pyO pyL pyC)) hbx; rw [← hwE] at hdy
    replace hd := hd.set3 (u0 := (Value.bool pB)) (u1 := (Value.slice pxO pxL pxC)) (u2 := (Value.slice pyO pyL pyC)) hbx; rw [← hwE] at hd
    replace hyx := hyx.set3 (u0 := (Value.bool pB)) (u1 := (Value.slice pxO pxL pxC)) (u2 := (Value.slice pyO pyL pyC)) hbx; rw [← hwE] at hyx
    replace hyy := hyy.set3 (u0 := (Value.bool pB)) (u1 := (Value.slice pxO pxL pxC)) (u2 := (Value.slice pyO pyL pyC)) hbx; rw [← hwE] at hyy
    replace hy := hy.set3 (u0 := (Value.bool pB)) (u1 := (Value.slice pxO pxL pxC)) (u2 := (Value.slice pyO pyL pyC)) hbx; rw [← hwE] at hy
    replace hox := hox.set3 (u0 := (Value.bool pB)) (u1 := (Value.slice pxO pxL pxC)) (u2 := (Value.slice pyO pyL pyC)) hbx; rw [← hwE] at hox
    replace hoy := hoy.set3 (u0 := (Value.bool pB)) (u1 := (Value.slice pxO pxL pxC)) (u2 := (Value.slice pyO pyL pyC)) hbx; rw [← hwE] at hoy
    replace ho := ho.set3 (u0 := (Value.bool pB)) (u1 := (Value.slice pxO pxL pxC)) (u2 := (Value.slice pyO pyL pyC)) hbx; rw [← hwE] at ho
    replace hlx := hlx.set3 (u0 := (Value.bool pB)) (u1 := (Value.slice pxO pxL pxC)) (u2 := (Value.slice pyO pyL pyC)) hbx; rw [← hwE] at hlx
    replace hly := hly.set3 (u0 := (Value.bool pB)) (u1 := (Value.slice pxO pxL pxC)) (u2 := (Value.slice pyO pyL pyC)) hbx; rw [← hwE] at hly
    replace hl := hl.set3 (u0 := (Value.bool pB)) (u1 := (Value.slice pxO pxL pxC)) (u2 := (Value.slice pyO pyL pyC)) hbx; rw [← hwE] at hl
    replace hix := hix.set3 (u0 := (Value.bool pB)) (u1 := (Value.slice pxO pxL pxC)) (u2 := (Value.slice pyO pyL pyC)) hbx; rw [← hwE] at hix
    replace hiy := hiy.set3 (u0 := (Value.bool pB)) (u1 := (Value.slice pxO pxL pxC)) (u2 := (Value.slice pyO pyL pyC)) hbx; rw [← hwE] at hiy
    replace hi := hi.set3 (u0 := (Value.bool pB)) (u1 := (Value.slice pxO pxL pxC)) (u2 := (Value.slice pyO pyL pyC)) hbx; rw [← hwE] at hi
    replace hjx := hjx.set3 (u0 := (Value.bool pB)) (u1 := (Value.slice pxO pxL pxC)) (u2 := (Value.slice pyO pyL pyC)) hbx; rw [← hwE] at hjx
    replace hjy := hjy.set3 (u0 := (Value.bool pB)) (u1 := (Value.slice pxO pxL pxC)) (u2 := (Value.slice pyO pyL pyC)) hbx; rw [← hwE] at hjy
    replace hj := hj.set3 (u0 := (Value.bool pB)) (u1 := (Value.slice pxO pxL pxC)) (u2 := (Value.slice pyO pyL pyC)) hbx; rw [← hwE] at hj
    replace hsx := hsx.set3 (u0 := (Value.bool pB)) (u1 := (Value.slice pxO pxL pxC)) (u2 := (Value.slice pyO pyL pyC)) hbx; rw [← hwE] at hsx
    replace hsy := hsy.set3 (u0 := (Value.bool pB)) (u1 := (Value.slice pxO pxL pxC)) (u2 := (Value.slice pyO pyL pyC)) hbx; rw [← hwE] at hsy
    replace hs := hs.set3 (u0 := (Value.bool pB)) (u1 := (Value.slice pxO pxL pxC)) (u2 := (Value.slice pyO pyL pyC)) hbx; rw [← hwE] at hs
    replace hsv := hsv.set3 (u0 := (Value.bool pB)) (u1 := (Value.slice pxO pxL pxC)) (u2 := (Value.slice pyO pyL pyC)) hbx; rw [← hwE] at hsv
    replace hmx := hmx.set3 (u0 := (Value.bool pB)) (u1 := (Value.slice pxO pxL pxC)) (u2 := (Value.slice pyO pyL pyC)) hbx; rw [← hwE] at hmx
    replace hmy := hmy.set3 (u0 := (Value.bool pB)) (u1 := (Value.slice pxO pxL pxC)) (u2 := (Value.slice pyO pyL pyC)) hbx; rw [← hwE] at hmy
    replace hm := hm.set3 (u0 := (Value.bool pB)) (u1 := (Value.slice pxO pxL pxC)) (u2 := (Value.slice pyO pyL pyC)) hbx; rw [← hwE] at hm
    replace hpx := hpx.set3 (u0 := (Value.bool pB)) (u1 := (Value.slice pxO pxL pxC)) (u2 := (Value.slice pyO pyL pyC)) hbx; rw [← hwE] at hpx
    replace hpy := hpy.set3 (u0 := (Value.bool pB)) (u1 := (Value.slice pxO pxL pxC)) (u2 := (Value.slice pyO pyL pyC)) hbx; rw [← hwE] at hpy
    replace hp := hp.set3 (u0 := (Value.bool pB)) (u1 := (Value.slice pxO pxL pxC)) (u2 := (Value.slice pyO pyL pyC)) hbx; rw [← hwE] at hp
    replace hbg := hbg.set3f (u0 := (Value.bool pB)) (u1 := (Value.slice pxO pxL pxC)) (u2 := (Value.slice pyO pyL pyC)) (show pg ≠ px by have := HP.out; omega); rw [← hwE] at hbg
    replace hbq := hbq.set3o (u0 := (Value.bool pB)) (u1 := (Value.slice pxO pxL pxC)) (u2 := (Value.slice pyO pyL pyC)) (show pq ≠ px by have := HP.out; omega); rw [← hwE] at hbq
    replace hbu := hbu.set3o (u0 := (Value.bool pB)) (u1 := (Value.slice pxO pxL pxC)) (u2 := (Value.slice pyO pyL pyC)) (show pu ≠ px by have := HP.out; omega); rw [← hwE] at hbu
    replace hbv := hbv.set3o (u0 := (Value.bool pB)) (u1 := (Value.slice pxO pxL pxC)) (u2 := (Value.slice pyO pyL pyC)) (show pv ≠ px by have := HP.out; omega); rw [← hwE] at hbv
    replace hbf := below_set3 (u0 := (Value.bool pB)) (u1 := (Value.slice pxO pxL pxC)) (u2 := (Value.slice pyO pyL pyC)) hbf (show w.heap.size ≤ px by have := HP.out; omega); rw [← hwE] at hbf
    replace hbx := hbx.set3 (u0 := (Value.bool pB)) (u1 := (Value.slice pxO pxL pxC)) (u2 := (Value.slice pyO pyL pyC)); rw [← hwE] at hbx; clear hwE
    first | refine hK.out _ _ hbv (fun _ => ?_) | (go_wp2_with fail; refine hK.out _ _ hbv (fun _ => ?_))
    clear hK K
    (try simp only [Act.put, List.setIfInBounds_toArray, List.set_cons_zero, List.set_cons_succ])
    repeat (first | (refine seq_take (v := ?_) (by rfl) ?_ ?_; rotate_left; (· intro w hSw; (try dsimp only at hSw); obtain ⟨ev0, ev1, ev2, _, _, _⟩ := hSw; go_simp; all_goals with_reducible rfl); (try simp only [Act.put, List.setIfInBounds_toArray, List.set_cons_zero, List.set_cons_succ])) | (refine seq_leave (by rfl) ?_; (try simp only [Act.put, List.setIfInBounds_toArray, List.set_cons_zero, List.set_cons_succ])))
    refine seq_end ?_
    rw [q_two] at hp hhq
    have eu0 := hbu.c0
    have eu1 := hbu.c1
    have eu2 := hbu.c2
    have ex0 := hbx.c0
    have ex1 := hbx.c1
    have ex2 := hbx.c2
    go_wp2_with fail
    refine (qcmp_c _ _ (qabs r - fval E F n) (fstep E F n / 2) c9 (k + 66 + 1) (133 + 2) _ hd hp hde hhq (by omega) HC9).mono ?_
    rintro e w36 ⟨rfl, hb⟩
    clear eu0 eu1 eu2 ex0 ex1 ex2
    replace hbg := hbg.kept hb
    replace hbq := hbq.kept hb
    replace hbu := hbu.kept hb
    replace hbv := hbv.kept hb
    replace hbx := hbx.kept hb
    replace h := h.below hb
    replace hax := hax.below hb
    replace hay := hay.below hb
    replace ha := ha.below hb
    replace hzx := hzx.below hb
    replace hzy := hzy.below hb
    replace hz := hz.below hb
    replace hxx := hxx.below hb
    replace hxy := hxy.below hb
    replace hx := hx.below hb
    replace hdx := hdx.below hb
    replace hdy := hdy.below hb
    replace hd := hd.below hb
    replace hyx := hyx.below hb
    replace hyy := hyy.below hb
    replace hy := hy.below hb
    replace hox := hox.below hb
    replace hoy := hoy.below hb
    replace ho := ho.below hb
    replace hlx := hlx.below hb
    replace hly := hly.below hb
    replace hl := hl.below hb
    replace hix := hix.below hb
    replace hiy := hiy.below hb
    replace hi := hi.below hb
    replace hjx := hjx.below hb
    replace hjy := hjy.below hb
    replace hj := hj.below hb
    replace hsx := hsx.below hb
    replace hsy := hsy.below hb
    replace hs := hs.below hb
    replace hsv := hsv.below hb
    replace hmx := hmx.below hb
    replace hmy := hmy.below hb
    replace hm := hm.below hb
    replace hpx := hpx.below hb
    replace hpy := hpy.below hb
    replace hp := hp.below hb
    replace hbf := hbf.trans (hb.mono hbf.size)
    clear hb
    rcases H3.out with rfl | rfl | rfl
    · skip
      obtain rfl : m9 = dsign E F g9 (n) := by rw [HM.out]; unfold fnear; rw [HMO.out, HG.out, decide_eq_false (by omega)]; rfl
      have eg0 := hbg.c0
      have eg1 := hbg.c1
      have eq0 := hbq.c0
      have eq1 := hbq.c1
      have eq2 := hbq.c2
      go_wp2_with fail
      clear eg0 eg1 eq0 eq1 eq2
      refine wp_region_seqQ (S := fun w' => Box2 w' pg (Value.int .i64 (E : Int)) (Value.int .i64 (F : Int)) ∧ Box3 w' pq (Value.bool qB) (Value.slice qxO qxL qxC) (Value.slice qyO qyL qyC)) [(0, 4, some 69), (0, 8, some 70), (2, 1180591620717411303424, some 71), (0, 32, some 72), (13, 7673845534663173472256, some 73), (31, 9444732965739290427392, some 4)] [(true, 0), (true, 1), (true, 3), (false, 2), (false, 4), (true, 5)] (by kernel_rfl) (by kernel_rfl) (by kernel_rfl) (by kernel_rfl) (by kernel_rfl) (by kernel_rfl) (fun d _ _ _ _ h => by cases d <;> exact h) ⟨hbg.drew, hbq.drew⟩ (fun _ => ?_)
      simp only [pickOps, List.append_eq, List.cons_append, List.nil_append, List.getElem?_toArray, List.getElem?_cons_succ, List.getElem?_cons_zero]
      have hb : Below w36.heap.size w36 w36.drew := (Below.refl _ _).drew
      generalize w36.drew = w37 at hb ⊢
      replace hbg := hbg.kept hb
      replace hbq := hbq.kept hb
      replace hbu := hbu.kept hb
      replace hbv := hbv.kept hb
      replace hbx := hbx.kept hb
      replace h := h.below hb
      replace hax := hax.below hb
      replace hay := hay.below hb
      replace ha := ha.below hb
      replace hzx := hzx.below hb
      replace hzy := hzy.below hb
      replace hz := hz.below hb
      replace hxx := hxx.below hb
      replace hxy := hxy.below hb
      replace hx := hx.below hb
      replace hdx := hdx.below hb
      replace hdy := hdy.below hb
      replace hd := hd.below hb
      replace hyx := hyx.below hb
      replace hyy := hyy.below hb
      replace hy := hy.below hb
      replace hox := hox.below hb
      replace hoy := hoy.below hb
      replace ho := ho.below hb
      replace hlx := hlx.below hb
      replace hly := hly.below hb
      replace hl := hl.below hb
      replace hix := hix.below hb
      replace hiy := hiy.below hb
      replace hi := hi.below hb
      replace hjx := hjx.below hb
      replace hjy := hjy.below hb
      replace hj := hj.below hb
      replace hsx := hsx.below hb
      replace hsy := hsy.below hb
      replace hs := hs.below hb
      replace hsv := hsv.below hb
      replace hmx := hmx.below hb
      replace hmy := hmy.below hb
      replace hm := hm.below hb
      replace hpx := hpx.below hb
      replace hpy := hpy.below hb
      replace hp := hp.below hb
      replace hbf := hbf.trans (hb.mono hbf.size)
      clear hb
      repeat (first | (refine seq_take (v := ?_) (by rfl) ?_ ?_; rotate_left; (· intro w hSw; (try dsimp only at hSw); obtain ⟨⟨eg0, eg1, _, _⟩, ⟨eq0, eq1, eq2, _, _, _⟩⟩ := hSw; go_simp; all_goals with_reducible rfl); (try simp only [Act.put, List.setIfInBounds_toArray, List.set_cons_zero, List.set_cons_succ])) | (refine seq_leave (by rfl) ?_; (try simp only [Act.put, List.setIfInBounds_toArray, List.set_cons_zero, List.set_cons_succ])))
      refine seq_step (by rfl) (fun K hK => ?_)
      go_simp
      go_at_call 34
      (with_reducible refine (neg_s _ r g9 _ h HG).mono ?_)
      rintro e w38 ⟨rfl, hb⟩
      replace hbg := hbg.kept hb
      replace hbq := hbq.kept hb
      replace hbu := hbu.kept hb
      replace hbv := hbv.kept hb
      replace hbx := hbx.kept hb
      replace h := h.below hb
      replace hax := hax.below hb
      replace hay := hay.below hb
      replace ha := ha.below hb
      replace hzx := hzx.below hb
      replace hzy := hzy.below hb
      replace hz := hz.below hb
      replace hxx := hxx.below hb
      replace hxy := hxy.below hb
      replace hx := hx.below hb
      replace hdx := hdx.below hb
      replace hdy := hdy.below hb
      replace hd := hd.below hb
      replace hyx := hyx.below hb
      replace hyy := hyy.below hb
      replace hy := hy.below hb
      replace hox := hox.below hb
      replace hoy := hoy.below hb
      replace ho := ho.below hb
      replace hlx := hlx.below hb
      replace hly := hly.below hb
      replace hl := hl.below hb
      replace hix := hix.below hb
      replace hiy := hiy.below hb
      replace hi := hi.below hb
      replace hjx := hjx.below hb
      replace hjy := hjy.below hb
      replace hj := hj.below hb
      replace hsx := hsx.below hb
      replace hsy := hsy.below hb
      replace hs := hs.below hb
      replace hsv := hsv.below hb
      replace hmx := hmx.below hb
      replace hmy := hmy.below hb
      replace hm := hm.below hb
      replace hpx := hpx.below hb
      replace hpy := hpy.below hb
      replace hp := hp.below hb
      replace hbf := hbf.trans (hb.mono hbf.size)
      clear hb
      first | refine hK.out _ _ ⟨hbg, hbq⟩ (fun _ => ?_) | (go_wp2_with fail; refine hK.out _ _ ⟨hbg, hbq⟩ (fun _ => ?_))
      clear hK K
      (try simp only [Act.put, List.setIfInBounds_toArray, List.set_cons_zero, List.set_cons_succ])
      refine seq_step (by rfl) (fun K hK => ?_)
      go_simp
      go_at_call 33
      (with_reducible refine (signed_x E F (n) g9 _ _ rfl hE hF (by omega)).mono ?_)
      rintro e w39 ⟨rfl, hb⟩
      replace hbg := hbg.kept hb
      replace hbq := hbq.kept hb
      replace hbu := hbu.kept hb
      replace hbv := hbv.kept hb
      replace hbx := hbx.kept hb
      replace h := h.below hb
      replace hax := hax.below hb
      replace hay := hay.below hb
      replace ha := ha.below hb
      replace hzx := hzx.below hb
      replace hzy := hzy.below hb
      replace hz := hz.below hb
      replace hxx := hxx.below hb
      replace hxy := hxy.below hb
      replace hx := hx.below hb
      replace hdx := hdx.below hb
      replace hdy := hdy.below hb
      replace hd := hd.below hb
      replace hyx := hyx.below hb
      replace hyy := hyy.below hb
      replace hy := hy.below hb
      replace hox := hox.below hb
      replace hoy := hoy.below hb
      replace ho := ho.below hb
      replace hlx := hlx.below hb
      replace hly := hly.below hb
      replace hl := hl.below hb
      replace hix := hix.below hb
      replace hiy := hiy.below hb
      replace hi := hi.below hb
      replace hjx := hjx.below hb
      replace hjy := hjy.below hb
      replace hj := hj.below hb
      replace hsx := hsx.below hb
      replace hsy := hsy.below hb
      replace hs := hs.below hb
      replace hsv := hsv.below hb
      replace hmx := hmx.below hb
      replace hmy := hmy.below hb
      replace hm := hm.below hb
      replace hpx := hpx.below hb
      replace hpy := hpy.below hb
      replace hp := hp.below hb
      replace hbf := hbf.trans (hb.mono hbf.size)
      clear hb
      first | refine hK.out _ _ ⟨hbg, hbq⟩ (fun _ => ?_) | (go_wp2_with fail; refine hK.out _ _ ⟨hbg, hbq⟩ (fun _ => ?_))
      clear hK K
      (try simp only [Act.put, List.setIfInBounds_toArray, List.set_cons_zero, List.set_cons_succ])
      repeat (first | (refine seq_take (v := ?_) (by rfl) ?_ ?_; rotate_left; (· intro w hSw; (try dsimp only at hSw); obtain ⟨⟨eg0, eg1, _, _⟩, ⟨eq0, eq1, eq2, _, _, _⟩⟩ := hSw; go_simp; all_goals with_reducible rfl); (try simp only [Act.put, List.setIfInBounds_toArray, List.set_cons_zero, List.set_cons_succ])) | (refine seq_leave (by rfl) ?_; (try simp only [Act.put, List.setIfInBounds_toArray, List.set_cons_zero, List.set_cons_succ])))
      refine seq_end ?_
      go_wp2_with fail
      go_ret
      exact ⟨rfl, hbf⟩
    · skip
      by_cases hpar : n % 2 = 1
      case pos =>
        have hand : bits .and .u64 (n : Int) 1 = 1 := by rw [and_one]; omega
        obtain rfl : m9 = dsign E F g9 (n + 1) := by rw [HM.out]; unfold fnear; rw [HMO.out, HG.out, decide_eq_true (.inr ⟨rfl, hpar⟩)]; rfl
        have eg0 := hbg.c0
        have eg1 := hbg.c1
        have eq0 := hbq.c0
        have eq1 := hbq.c1
        have eq2 := hbq.c2
        go_wp2_with fail
        clear eg0 eg1 eq0 eq1 eq2
        refine wp_region_seqQ (S := fun w' => Box2 w' pg (Value.int .i64 (E : Int)) (Value.int .i64 (F : Int)) ∧ Box3 w' pq (Value.bool qB) (Value.slice qxO qxL qxC) (Value.slice qyO qyL qyC)) [(0, 4, some 69), (0, 8, some 70), (2, 1180591620717411303424, some 71), (0, 32, some 72), (13, 7673845534663173472256, some 73), (31, 9444732965739290427392, some 4)] [(true, 0), (true, 1), (true, 3), (false, 2), (false, 4), (true, 5)] (by kernel_rfl) (by kernel_rfl) (by kernel_rfl) (by kernel_rfl) (by kernel_rfl) (by kernel_rfl) (fun d _ _ _ _ h => by cases d <;> exact h) ⟨hbg.drew, hbq.drew⟩ (fun _ => ?_)
        simp only [pickOps, List.append_eq, List.cons_append, List.nil_append, List.getElem?_toArray, List.getElem?_cons_succ, List.getElem?_cons_zero]
        have hb : Below w36.heap.size w36 w36.drew := (Below.refl _ _).drew
        generalize w36.drew = w37 at hb ⊢
        replace hbg := hbg.kept hb
        replace hbq := hbq.kept hb
        replace hbu := hbu.kept hb
        replace hbv := hbv.kept hb
        replace hbx := hbx.kept hb
        replace h := h.below hb
        replace hax := hax.below hb
        replace hay := hay.below hb
        replace ha := ha.below hb
        replace hzx := hzx.below hb
        replace hzy := hzy.below hb
        replace hz := hz.below hb
        replace hxx := hxx.below hb
        replace hxy := hxy.below hb
        replace hx := hx.below hb
        replace hdx := hdx.below hb
        replace hdy := hdy.below hb
        replace hd := hd.below hb
        replace hyx := hyx.below hb
        replace hyy := hyy.below hb
        replace hy := hy.below hb
        replace hox := hox.below hb
        replace hoy := hoy.below hb
        replace ho := ho.below hb
        replace hlx := hlx.below hb
        replace hly := hly.below hb
        replace hl := hl.below hb
        replace hix := hix.below hb
        replace hiy := hiy.below hb
        replace hi := hi.below hb
        replace hjx := hjx.below hb
        replace hjy := hjy.below hb
        replace hj := hj.below hb
        replace hsx := hsx.below hb
        replace hsy := hsy.below hb
        replace hs := hs.below hb
        replace hsv := hsv.below hb
        replace hmx := hmx.below hb
        replace hmy := hmy.below hb
        replace hm := hm.below hb
        replace hpx := hpx.below hb
        replace hpy := hpy.below hb
        replace hp := hp.below hb
        replace hbf := hbf.trans (hb.mono hbf.size)
        clear hb
        repeat (first | (refine seq_take (v := ?_) (by rfl) ?_ ?_; rotate_left; (· intro w hSw; (try dsimp only at hSw); obtain ⟨⟨eg0, eg1, _, _⟩, ⟨eq0, eq1, eq2, _, _, _⟩⟩ := hSw; go_simp; all_goals with_reducible rfl); (try simp only [Act.put, List.setIfInBounds_toArray, List.set_cons_zero, List.set_cons_succ])) | (refine seq_leave (by rfl) ?_; (try simp only [Act.put, List.setIfInBounds_toArray, List.set_cons_zero, List.set_cons_succ])))
        refine seq_step (by rfl) (fun K hK => ?_)
        go_simp
        go_at_call 34
        (with_reducible refine (neg_s _ r g9 _ h HG).mono ?_)
        rintro e w38 ⟨rfl, hb⟩
        replace hbg := hbg.kept hb
        replace hbq := hbq.kept hb
        replace hbu := hbu.kept hb
        replace hbv := hbv.kept hb
        replace hbx := hbx.kept hb
        replace h := h.below hb
        replace hax := hax.below hb
        replace hay := hay.below hb
        replace ha := ha.below hb
        replace hzx := hzx.below hb
        replace hzy := hzy.below hb
        replace hz := hz.below hb
        replace hxx := hxx.below hb
        replace hxy := hxy.below hb
        replace hx := hx.below hb
        replace hdx := hdx.below hb
        replace hdy := hdy.below hb
        replace hd := hd.below hb
        replace hyx := hyx.below hb
        replace hyy := hyy.below hb
        replace hy := hy.below hb
        replace hox := hox.below hb
        replace hoy := hoy.below hb
        replace ho := ho.below hb
        replace hlx := hlx.below hb
        replace hly := hly.below hb
        replace hl := hl.below hb
        replace hix := hix.below hb
        replace hiy := hiy.below hb
        replace hi := hi.below hb
        replace hjx := hjx.below hb
        replace hjy := hjy.below hb
        replace hj := hj.below hb
        replace hsx := hsx.below hb
        replace hsy := hsy.below hb
        replace hs := hs.below hb
        replace hsv := hsv.below hb
        replace hmx := hmx.below hb
        replace hmy := hmy.below hb
        replace hm := hm.below hb
        replace hpx := hpx.below hb
        replace hpy := hpy.below hb
        replace hp := hp.below hb
        replace hbf := hbf.trans (hb.mono hbf.size)
        clear hb
        first | refine hK.out _ _ ⟨hbg, hbq⟩ (fun _ => ?_) | (go_wp2_with fail; refine hK.out _ _ ⟨hbg, hbq⟩ (fun _ => ?_))
        clear hK K
        (try simp only [Act.put, List.setIfInBounds_toArray, List.set_cons_zero, List.set_cons_succ])
        refine seq_step (by rfl) (fun K hK => ?_)
        go_simp
        go_at_call 33
        (with_reducible refine (signed_x E F (n + 1) g9 _ _ (up_one n) hE hF (by omega)).mono ?_)
        rintro e w39 ⟨rfl, hb⟩
        replace hbg := hbg.kept hb
        replace hbq := hbq.kept hb
        replace hbu := hbu.kept hb
        replace hbv := hbv.kept hb
        replace hbx := hbx.kept hb
        replace h := h.below hb
        replace hax := hax.below hb
        replace hay := hay.below hb
        replace ha := ha.below hb
        replace hzx := hzx.below hb
        replace hzy := hzy.below hb
        replace hz := hz.below hb
        replace hxx := hxx.below hb
        replace hxy := hxy.below hb
        replace hx := hx.below hb
        replace hdx := hdx.below hb
        replace hdy := hdy.below hb
        replace hd := hd.below hb
        replace hyx := hyx.below hb
        replace hyy := hyy.below hb
        replace hy := hy.below hb
        replace hox := hox.below hb
        replace hoy := hoy.below hb
        replace ho := ho.below hb
        replace hlx := hlx.below hb
        replace hly := hly.below hb
        replace hl := hl.below hb
        replace hix := hix.below hb
        replace hiy := hiy.below hb
        replace hi := hi.below hb
        replace hjx := hjx.below hb
        replace hjy := hjy.below hb
        replace hj := hj.below hb
        replace hsx := hsx.below hb
        replace hsy := hsy.below hb
        replace hs := hs.below hb
        replace hsv := hsv.below hb
        replace hmx := hmx.below hb
        replace hmy := hmy.below hb
        replace hm := hm.below hb
        replace hpx := hpx.below hb
        replace hpy := hpy.below hb
        replace hp := hp.below hb
        replace hbf := hbf.trans (hb.mono hbf.size)
        clear hb
        first | refine hK.out _ _ ⟨hbg, hbq⟩ (fun _ => ?_) | (go_wp2_with fail; refine hK.out _ _ ⟨hbg, hbq⟩ (fun _ => ?_))
        clear hK K
        (try simp only [Act.put, List.setIfInBounds_toArray, List.set_cons_zero, List.set_cons_succ])
        repeat (first | (refine seq_take (v := ?_) (by rfl) ?_ ?_; rotate_left; (· intro w hSw; (try dsimp only at hSw); obtain ⟨⟨eg0, eg1, _, _⟩, ⟨eq0, eq1, eq2, _, _, _⟩⟩ := hSw; go_simp; all_goals with_reducible rfl); (try simp only [Act.put, List.setIfInBounds_toArray, List.set_cons_zero, List.set_cons_succ])) | (refine seq_leave (by rfl) ?_; (try simp only [Act.put, List.setIfInBounds_toArray, List.set_cons_zero, List.set_cons_succ])))
        refine seq_end ?_
        go_wp2_with fail
        go_ret
        exact ⟨rfl, hbf⟩
      case neg =>
        have hand : bits .and .u64 (n : Int) 1 = 0 := by rw [and_one]; omega
        obtain rfl : m9 = dsign E F g9 (n) := by rw [HM.out]; unfold fnear; rw [HMO.out, HG.out, decide_eq_false (by omega)]; rfl
        have eg0 := hbg.c0
        have eg1 := hbg.c1
        have eq0 := hbq.c0
        have eq1 := hbq.c1
        have eq2 := hbq.c2
        go_wp2_with fail
        clear eg0 eg1 eq0 eq1 eq2
        refine wp_region_seqQ (S := fun w' => Box2 w' pg (Value.int .i64 (E : Int)) (Value.int .i64 (F : Int)) ∧ Box3 w' pq (Value.bool qB) (Value.slice qxO qxL qxC) (Value.slice qyO qyL qyC)) [(0, 4, some 69), (0, 8, some 70), (2, 1180591620717411303424, some 71), (0, 32, some 72), (13, 7673845534663173472256, some 73), (31, 9444732965739290427392, some 4)] [(true, 0), (true, 1), (true, 3), (false, 2), (false, 4), (true, 5)] (by kernel_rfl) (by kernel_rfl) (by kernel_rfl) (by kernel_rfl) (by kernel_rfl) (by kernel_rfl) (fun d _ _ _ _ h => by cases d <;> exact h) ⟨hbg.drew, hbq.drew⟩ (fun _ => ?_)
        simp only [pickOps, List.append_eq, List.cons_append, List.nil_append, List.getElem?_toArray, List.getElem?_cons_succ, List.getElem?_cons_zero]
        have hb : Below w36.heap.size w36 w36.drew := (Below.refl _ _).drew
        generalize w36.drew = w37 at hb ⊢
        replace hbg := hbg.kept hb
        replace hbq := hbq.kept hb
        replace hbu := hbu.kept hb
        replace hbv := hbv.kept hb
        replace hbx := hbx.kept hb
        replace h := h.below hb
        replace hax := hax.below hb
        replace hay := hay.below hb
        replace ha := ha.below hb
        replace hzx := hzx.below hb
        replace hzy := hzy.below hb
        replace hz := hz.below hb
        replace hxx := hxx.below hb
        replace hxy := hxy.below hb
        replace hx := hx.below hb
        replace hdx := hdx.below hb
        replace hdy := hdy.below hb
        replace hd := hd.below hb
        replace hyx := hyx.below hb
        replace hyy := hyy.below hb
        replace hy := hy.below hb
        replace hox := hox.below hb
        replace hoy := hoy.below hb
        replace ho := ho.below hb
        replace hlx := hlx.below hb
        replace hly := hly.below hb
        replace hl := hl.below hb
        replace hix := hix.below hb
        replace hiy := hiy.below hb
        replace hi := hi.below hb
        replace hjx := hjx.below hb
        replace hjy := hjy.below hb
        replace hj := hj.below hb
        replace hsx := hsx.below hb
        replace hsy := hsy.below hb
        replace hs := hs.below hb
        replace hsv := hsv.below hb
        replace hmx := hmx.below hb
        replace hmy := hmy.below hb
        replace hm := hm.below hb
        replace hpx := hpx.below hb
        replace hpy := hpy.below hb
        replace hp := hp.below hb
        replace hbf := hbf.trans (hb.mono hbf.size)
        clear hb
        repeat (first | (refine seq_take (v := ?_) (by rfl) ?_ ?_; rotate_left; (· intro w hSw; (try dsimp only at hSw); obtain ⟨⟨eg0, eg1, _, _⟩, ⟨eq0, eq1, eq2, _, _, _⟩⟩ := hSw; go_simp; all_goals with_reducible rfl); (try simp only [Act.put, List.setIfInBounds_toArray, List.set_cons_zero, List.set_cons_succ])) | (refine seq_leave (by rfl) ?_; (try simp only [Act.put, List.setIfInBounds_toArray, List.set_cons_zero, List.set_cons_succ])))
        refine seq_step (by rfl) (fun K hK => ?_)
        go_simp
        go_at_call 34
        (with_reducible refine (neg_s _ r g9 _ h HG).mono ?_)
        rintro e w38 ⟨rfl, hb⟩
        replace hbg := hbg.kept hb
        replace hbq := hbq.kept hb
        replace hbu := hbu.kept hb
        replace hbv := hbv.kept hb
        replace hbx := hbx.kept hb
        replace h := h.below hb
        replace hax := hax.below hb
        replace hay := hay.below hb
        replace ha := ha.below hb
        replace hzx := hzx.below hb
        replace hzy := hzy.below hb
        replace hz := hz.below hb
        replace hxx := hxx.below hb
        replace hxy := hxy.below hb
        replace hx := hx.below hb
        replace hdx := hdx.below hb
        replace hdy := hdy.below hb
        replace hd := hd.below hb
        replace hyx := hyx.below hb
        replace hyy := hyy.below hb
        replace hy := hy.below hb
        replace hox := hox.below hb
        replace hoy := hoy.below hb
        replace ho := ho.below hb
        replace hlx := hlx.below hb
        replace hly := hly.below hb
        replace hl := hl.below hb
        replace hix := hix.below hb
        replace hiy := hiy.below hb
        replace hi := hi.below hb
        replace hjx := hjx.below hb
        replace hjy := hjy.below hb
        replace hj := hj.below hb
        replace hsx := hsx.below hb
        replace hsy := hsy.below hb
        replace hs := hs.below hb
        replace hsv := hsv.below hb
        replace hmx := hmx.below hb
        replace hmy := hmy.below hb
        replace hm := hm.below hb
        replace hpx := hpx.below hb
        replace hpy := hpy.below hb
        replace hp := hp.below hb
        replace hbf := hbf.trans (hb.mono hbf.size)
        clear hb
        first | refine hK.out _ _ ⟨hbg, hbq⟩ (fun _ => ?_) | (go_wp2_with fail; refine hK.out _ _ ⟨hbg, hbq⟩ (fun _ => ?_))
        clear hK K
        (try simp only [Act.put, List.setIfInBounds_toArray, List.set_cons_zero, List.set_cons_succ])
        refine seq_step (by rfl) (fun K hK => ?_)
        go_simp
        go_at_call 33
        (with_reducible refine (signed_x E F (n) g9 _ _ rfl hE hF (by omega)).mono ?_)
        rintro e w39 ⟨rfl, hb⟩
        replace hbg := hbg.kept hb
        replace hbq := hbq.kept hb
        replace hbu := hbu.kept hb
        replace hbv := hbv.kept hb
        replace hbx := hbx.kept hb
        replace h := h.below hb
        replace hax := hax.below hb
        replace hay := hay.below hb
        replace ha := ha.below hb
        replace hzx := hzx.below hb
        replace hzy := hzy.below hb
        replace hz := hz.below hb
        replace hxx := hxx.below hb
        replace hxy := hxy.below hb
        replace hx := hx.below hb
        replace hdx := hdx.below hb
        replace hdy := hdy.below hb
        replace hd := hd.below hb
        replace hyx := hyx.below hb
        replace hyy := hyy.below hb
        replace hy := hy.below hb
        replace hox := hox.below hb
        replace hoy := hoy.below hb
        replace ho := ho.below hb
        replace hlx := hlx.below hb
        replace hly := hly.below hb
        replace hl := hl.below hb
        replace hix := hix.below hb
        replace hiy := hiy.below hb
        replace hi := hi.below hb
        replace hjx := hjx.below hb
        replace hjy := hjy.below hb
        replace hj := hj.below hb
        replace hsx := hsx.below hb
        replace hsy := hsy.below hb
        replace hs := hs.below hb
        replace hsv := hsv.below hb
        replace hmx := hmx.below hb
        replace hmy := hmy.below hb
        replace hm := hm.below hb
        replace hpx := hpx.below hb
        replace hpy := hpy.below hb
        replace hp := hp.below hb
        replace hbf := hbf.trans (hb.mono hbf.size)
        clear hb
        first | refine hK.out _ _ ⟨hbg, hbq⟩ (fun _ => ?_) | (go_wp2_with fail; refine hK.out _ _ ⟨hbg, hbq⟩ (fun _ => ?_))
        clear hK K
        (try simp only [Act.put, List.setIfInBounds_toArray, List.set_cons_zero, List.set_cons_succ])
        repeat (first | (refine seq_take (v := ?_) (by rfl) ?_ ?_; rotate_left; (· intro w hSw; (try dsimp only at hSw); obtain ⟨⟨eg0, eg1, _, _⟩, ⟨eq0, eq1, eq2, _, _, _⟩⟩ := hSw; go_simp; all_goals with_reducible rfl); (try simp only [Act.put, List.setIfInBounds_toArray, List.set_cons_zero, List.set_cons_succ])) | (refine seq_leave (by rfl) ?_; (try simp only [Act.put, List.setIfInBounds_toArray, List.set_cons_zero, List.set_cons_succ])))
        refine seq_end ?_
        go_wp2_with fail
        go_ret
        exact ⟨rfl, hbf⟩
    · skip
      obtain rfl : m9 = dsign E F g9 (n + 1) := by rw [HM.out]; unfold fnear; rw [HMO.out, HG.out, decide_eq_true (.inl rfl)]; rfl
      have eg0 := hbg.c0
      have eg1 := hbg.c1
      have eq0 := hbq.c0
      have eq1 := hbq.c1
      have eq2 := hbq.c2
      go_wp2_with fail
      clear eg0 eg1 eq0 eq1 eq2
      refine wp_region_seqQ (S := fun w' => Box2 w' pg (Value.int .i64 (E : Int)) (Value.int .i64 (F : Int)) ∧ Box3 w' pq (Value.bool qB) (Value.slice qxO qxL qxC) (Value.slice qyO qyL qyC)) [(0, 4, some 69), (0, 8, some 70), (2, 1180591620717411303424, some 71), (0, 32, some 72), (13, 7673845534663173472256, some 73), (31, 9444732965739290427392, some 4)] [(true, 0), (true, 1), (true, 3), (false, 2), (false, 4), (true, 5)] (by kernel_rfl) (by kernel_rfl) (by kernel_rfl) (by kernel_rfl) (by kernel_rfl) (by kernel_rfl) (fun d _ _ _ _ h => by cases d <;> exact h) ⟨hbg.drew, hbq.drew⟩ (fun _ => ?_)
      simp only [pickOps, List.append_eq, List.cons_append, List.nil_append, List.getElem?_toArray, List.getElem?_cons_succ, List.getElem?_cons_zero]
      have hb : Below w36.heap.size w36 w36.drew := (Below.refl _ _).drew
      generalize w36.drew = w37 at hb ⊢
      replace hbg := hbg.kept hb
      replace hbq := hbq.kept hb
      replace hbu := hbu.kept hb
      replace hbv := hbv.kept hb
      replace hbx := hbx.kept hb
      replace h := h.below hb
      replace hax := hax.below hb
      replace hay := hay.below hb
      replace ha := ha.below hb
      replace hzx := hzx.below hb
      replace hzy := hzy.below hb
      replace hz := hz.below hb
      replace hxx := hxx.below hb
      replace hxy := hxy.below hb
      replace hx := hx.below hb
      replace hdx := hdx.below hb
      replace hdy := hdy.below hb
      replace hd := hd.below hb
      replace hyx := hyx.below hb
      replace hyy := hyy.below hb
      replace hy := hy.below hb
      replace hox := hox.below hb
      replace hoy := hoy.below hb
      replace ho := ho.below hb
      replace hlx := hlx.below hb
      replace hly := hly.below hb
      replace hl := hl.below hb
      replace hix := hix.below hb
      replace hiy := hiy.below hb
      replace hi := hi.below hb
      replace hjx := hjx.below hb
      replace hjy := hjy.below hb
      replace hj := hj.below hb
      replace hsx := hsx.below hb
      replace hsy := hsy.below hb
      replace hs := hs.below hb
      replace hsv := hsv.below hb
      replace hmx := hmx.below hb
      replace hmy := hmy.below hb
      replace hm := hm.below hb
      replace hpx := hpx.below hb
      replace hpy := hpy.below hb
      replace hp := hp.below hb
      replace hbf := hbf.trans (hb.mono hbf.size)
      clear hb
      repeat (first | (refine seq_take (v := ?_) (by rfl) ?_ ?_; rotate_left; (· intro w hSw; (try dsimp only at hSw); obtain ⟨⟨eg0, eg1, _, _⟩, ⟨eq0, eq1, eq2, _, _, _⟩⟩ := hSw; go_simp; all_goals with_reducible rfl); (try simp only [Act.put, List.setIfInBounds_toArray, List.set_cons_zero, List.set_cons_succ])) | (refine seq_leave (by rfl) ?_; (try simp only [Act.put, List.setIfInBounds_toArray, List.set_cons_zero, List.set_cons_succ])))
      refine seq_step (by rfl) (fun K hK => ?_)
      go_simp
      go_at_call 34
      (with_reducible refine (neg_s _ r g9 _ h HG).mono ?_)
      rintro e w38 ⟨rfl, hb⟩
      replace hbg := hbg.kept hb
      replace hbq := hbq.kept hb
      replace hbu := hbu.kept hb
      replace hbv := hbv.kept hb
      replace hbx := hbx.kept hb
      replace h := h.below hb
      replace hax := hax.below hb
      replace hay := hay.below hb
      replace ha := ha.below hb
      replace hzx := hzx.below hb
      replace hzy := hzy.below hb
      replace hz := hz.below hb
      replace hxx := hxx.below hb
      replace hxy := hxy.below hb
      replace hx := hx.below hb
      replace hdx := hdx.below hb
      replace hdy := hdy.below hb
      replace hd := hd.below hb
      replace hyx := hyx.below hb
      replace hyy := hyy.below hb
      replace hy := hy.below hb
      replace hox := hox.below hb
      replace hoy := hoy.below hb
      replace ho := ho.below hb
      replace hlx := hlx.below hb
      replace hly := hly.below hb
      replace hl := hl.below hb
      replace hix := hix.below hb
      replace hiy := hiy.below hb
      replace hi := hi.below hb
      replace hjx := hjx.below hb
      replace hjy := hjy.below hb
      replace hj := hj.below hb
      replace hsx := hsx.below hb
      replace hsy := hsy.below hb
      replace hs := hs.below hb
      replace hsv := hsv.below hb
      replace hmx := hmx.below hb
      replace hmy := hmy.below hb
      replace hm := hm.below hb
      replace hpx := hpx.below hb
      replace hpy := hpy.below hb
      replace hp := hp.below hb
      replace hbf := hbf.trans (hb.mono hbf.size)
      clear hb
      first | refine hK.out _ _ ⟨hbg, hbq⟩ (fun _ => ?_) | (go_wp2_with fail; refine hK.out _ _ ⟨hbg, hbq⟩ (fun _ => ?_))
      clear hK K
      (try simp only [Act.put, List.setIfInBounds_toArray, List.set_cons_zero, List.set_cons_succ])
      refine seq_step (by rfl) (fun K hK => ?_)
      go_simp
      go_at_call 33
      (with_reducible refine (signed_x E F (n + 1) g9 _ _ (up_one n) hE hF (by omega)).mono ?_)
      rintro e w39 ⟨rfl, hb⟩
      replace hbg := hbg.kept hb
      replace hbq := hbq.kept hb
      replace hbu := hbu.kept hb
      replace hbv := hbv.kept hb
      replace hbx := hbx.kept hb
      replace h := h.below hb
      replace hax := hax.below hb
      replace hay := hay.below hb
      replace ha := ha.below hb
      replace hzx := hzx.below hb
      replace hzy := hzy.below hb
      replace hz := hz.below hb
      replace hxx := hxx.below hb
      replace hxy := hxy.below hb
      replace hx := hx.below hb
      replace hdx := hdx.below hb
      replace hdy := hdy.below hb
      replace hd := hd.below hb
      replace hyx := hyx.below hb
      replace hyy := hyy.below hb
      replace hy := hy.below hb
      replace hox := hox.below hb
      replace hoy := hoy.below hb
      replace ho := ho.below hb
      replace hlx := hlx.below hb
      replace hly := hly.below hb
      replace hl := hl.below hb
      replace hix := hix.below hb
      replace hiy := hiy.below hb
      replace hi := hi.below hb
      replace hjx := hjx.below hb
      replace hjy := hjy.below hb
      replace hj := hj.below hb
      replace hsx := hsx.below hb
      replace hsy := hsy.below hb
      replace hs := hs.below hb
      replace hsv := hsv.below hb
      replace hmx := hmx.below hb
      replace hmy := hmy.below hb
      replace hm := hm.below hb
      replace hpx := hpx.below hb
      replace hpy := hpy.below hb
      replace hp := hp.below hb
      replace hbf := hbf.trans (hb.mono hbf.size)
      clear hb
      first | refine hK.out _ _ ⟨hbg, hbq⟩ (fun _ => ?_) | (go_wp2_with fail; refine hK.out _ _ ⟨hbg, hbq⟩ (fun _ => ?_))
      clear hK K
      (try simp only [Act.put, List.setIfInBounds_toArray, List.set_cons_zero, List.set_cons_succ])
      repeat (first | (refine seq_take (v := ?_) (by rfl) ?_ ?_; rotate_left; (· intro w hSw; (try dsimp only at hSw); obtain ⟨⟨eg0, eg1, _, _⟩, ⟨eq0, eq1, eq2, _, _, _⟩⟩ := hSw; go_simp; all_goals with_reducible rfl); (try simp only [Act.put, List.setIfInBounds_toArray, List.set_cons_zero, List.set_cons_succ])) | (refine seq_leave (by rfl) ?_; (try simp only [Act.put, List.setIfInBounds_toArray, List.set_cons_zero, List.set_cons_succ])))
      refine seq_end ?_
      go_wp2_with fail
      go_ret
      exact ⟨rfl, hbf⟩
  case neg =>
    have hc : decide (((n + 1 : Nat) : Int) < ((finf E F : Nat) : Int)) = false := decide_eq_false (by omega)
    have HST : Hid (fstep E F n = fval E F n - fval E F (n - 1)) := Lib.hid (by unfold fstep; rw [if_neg hm])
    have hsv := hl
    rw [← HST.out] at hsv
    have hsq : QB (fstep E F n) 133 := by rw [HST.out]; exact hvq.sub hpq
    have h2q : QB ((2 : Int) : Rat) 2 := by rw [q_two]; exact q_two_b
    have hhq := hsq.div h2q (by decide)
    have ev0 := hbv.c0
    have ev1 := hbv.c1
    have ev2 := hbv.c2
    go_wp2_with fail
    clear ev0 ev1 ev2
    refine wp_region_seqF (S := fun w' => Box3 w' pv (Value.bool lB) (Value.slice lxO lxL lxC) (Value.slice lyO lyL lyC)) [⟨6, 8, .cells #[.bool false, .slice none 0 0, .slice none 0 0] 30⟩] [(true, 0), (false, 1), (false, 2), (true, 3), (true, 4), (true, 5)] [(false, 7), (true, 8)] (by kernel_rfl) (by kernel_rfl) (by kernel_rfl) (by kernel_rfl) (by kernel_rfl) (by kernel_rfl) (by decide) (by decide) (by kernel_rfl) (by rfl) ?_ (fun w8 o8 h8 => ?_) (fun d _ _ _ _ h => by cases d <;> exact h) hbv.drew ?_
    · intro f hf; simp only [List.mem_cons, List.not_mem_nil, or_false] at hf; rcases hf with rfl <;> exact FlOk.alloc rfl rfl rfl (fun f w => by go_simp)
    · exact Box3.kept h8 ((Below.refl _ _).alloc (Nat.le_refl _) _)
    obtain ⟨B9, hB9⟩ : ∃ B, B = w23.heap.size := ⟨_, rfl⟩
    rw [← hB9]
    simp only [pickOps, List.append_eq, List.cons_append, List.nil_append, List.getElem?_toArray, List.getElem?_cons_succ, List.getElem?_cons_zero]
    have HB9 : Hid (w.heap.size ≤ B9 ∧ pv < B9) := Lib.hid (by have h1 := hbf.size; have h2v := hbv.lt; rw [hB9]; omega)
    clear hB9
    have hb : Below w23.heap.size w23 w23.drew := (Below.refl _ _).drew
    generalize w23.drew = w24 at hb ⊢
    replace hbg := hbg.kept hb
    replace hbq := hbq.kept hb
    replace hbu := hbu.kept hb
    replace hbv := hbv.kept hb
    replace h := h.below hb
    replace hax := hax.below hb
    replace hay := hay.below hb
    replace ha := ha.below hb
    replace hzx := hzx.below hb
    replace hzy := hzy.below hb
    replace hz := hz.below hb
    replace hxx := hxx.below hb
    replace hxy := hxy.below hb
    replace hx := hx.below hb
    replace hdx := hdx.below hb
    replace hdy := hdy.below hb
    replace hd := hd.below hb
    replace hyx := hyx.below hb
    replace hyy := hyy.below hb
    replace hy := hy.below hb
    replace hox := hox.below hb
    replace hoy := hoy.below hb
    replace ho := ho.below hb
    replace hlx := hlx.below hb
    replace hly := hly.below hb
    replace hl := hl.below hb
    replace hsv := hsv.below hb
    replace hbf := hbf.trans (hb.mono hbf.size)
    clear hb
    repeat (refine seqF_take (v := ?_) (fun t => by rfl) ?_ ?_; rotate_left; (· intro a9 h9 w hSw; (try dsimp only at hSw); obtain ⟨x8, rfl⟩ : ∃ x, a9 = Act.put _ (some 8) x := ⟨_, h9.one⟩; clear h9; obtain ⟨ev0, ev1, ev2, _, _, _⟩ := hSw; (try simp only [Act.put, List.setIfInBounds_toArray, List.set_cons_zero, List.set_cons_succ]); go_simp; all_goals with_reducible rfl); (try simp only [Act.put, List.setIfInBounds_toArray, List.set_cons_zero, List.set_cons_succ]))
    refine seqF_step (fun t => by rfl) (fun a9 w25 h9 hb hS9 K hK => ?_)
    obtain ⟨x8, rfl⟩ : ∃ x, a9 = Act.put _ (some 8) x := ⟨_, h9.one⟩
    clear h9 hS9
    (try simp only [Act.put, List.setIfInBounds_toArray, List.set_cons_zero, List.set_cons_succ] at hK); (try simp only [Act.put, List.setIfInBounds_toArray, List.set_cons_zero, List.set_cons_succ])
    replace hbg := hbg.kept hb
    replace hbq := hbq.kept hb
    replace hbu := hbu.kept hb
    replace hbv := hbv.kept hb
    replace h := h.below hb
    replace hax := hax.below hb
    replace hay := hay.below hb
    replace ha := ha.below hb
    replace hzx := hzx.below hb
    replace hzy := hzy.below hb
    replace hz := hz.below hb
    replace hxx := hxx.below hb
    replace hxy := hxy.below hb
    replace hx := hx.below hb
    replace hdx := hdx.below hb
    replace hdy := hdy.below hb
    replace hd := hd.below hb
    replace hyx := hyx.below hb
    replace hyy := hyy.below hb
    replace hy := hy.below hb
    replace hox := hox.below hb
    replace hoy := hoy.below hb
    replace ho := ho.below hb
    replace hlx := hlx.below hb
    replace hly := hly.below hb
    replace hl := hl.below hb
    replace hsv := hsv.below hb
    replace hbf := hbf.trans (hb.mono hbf.size)
    clear hb
    go_simp
    go_at_call 40
    (with_reducible refine (of_q 2 _ (by decide) (by decide)).mono ?_)
    rintro e w26 hq9
    obtain ⟨mB, mxO, mxL, mxC, myO, myL, myC, rfl, hS, hmx, hmy, hm, hb⟩ := hq9.out
    have HmS := Lib.hid hS; clear hS
    replace hbg := hbg.kept hb
    replace hbq := hbq.kept hb
    replace hbu := hbu.kept hb
    replace hbv := hbv.kept hb
    replace h := h.below hb
    replace hax := hax.below hb
    replace hay := hay.below hb
    replace ha := ha.below hb
    replace hzx := hzx.below hb
    replace hzy := hzy.below hb
    replace hz := hz.below hb
    replace hxx := hxx.below hb
    replace hxy := hxy.below hb
    replace hx := hx.below hb
    replace hdx := hdx.below hb
    replace hdy := hdy.below hb
    replace hd := hd.below hb
    replace hyx := hyx.below hb
    replace hyy := hyy.below hb
    replace hy := hy.below hb
    replace hox := hox.below hb
    replace hoy := hoy.below hb
    replace ho := ho.below hb
    replace hlx := hlx.below hb
    replace hly := hly.below hb
    replace hl := hl.below hb
    replace hsv := hsv.below hb
    replace hbf := hbf.trans (hb.mono hbf.size)
    have hbK := hb; clear hb
    first | refine hK.out _ _ hbv hbK ?_ | (go_wp2_with fail; refine hK.out _ _ hbv hbK ?_)
    clear hK K hbK
    (try simp only [Act.put, List.setIfInBounds_toArray, List.set_cons_zero, List.set_cons_succ])
    refine seqF_step (fun t => by rfl) (fun a9 w27 h9 hb hS9 K hK => ?_)
    obtain ⟨x8, rfl⟩ : ∃ x, a9 = Act.put _ (some 8) x := ⟨_, h9.one⟩
    clear h9 hS9
    (try simp only [Act.put, List.setIfInBounds_toArray, List.set_cons_zero, List.set_cons_succ] at hK); (try simp only [Act.put, List.setIfInBounds_toArray, List.set_cons_zero, List.set_cons_succ])
    replace hbg := hbg.kept hb
    replace hbq := hbq.kept hb
    replace hbu := hbu.kept hb
    replace hbv := hbv.kept hb
    replace h := h.below hb
    replace hax := hax.below hb
    replace hay := hay.below hb
    replace ha := ha.below hb
    replace hzx := hzx.below hb
    replace hzy := hzy.below hb
    replace hz := hz.below hb
    replace hxx := hxx.below hb
    replace hxy := hxy.below hb
    replace hx := hx.below hb
    replace hdx := hdx.below hb
    replace hdy := hdy.below hb
    replace hd := hd.below hb
    replace hyx := hyx.below hb
    replace hyy := hyy.below hb
    replace hy := hy.below hb
    replace hox := hox.below hb
    replace hoy := hoy.below hb
    replace ho := ho.below hb
    replace hlx := hlx.below hb
    replace hly := hly.below hb
    replace hl := hl.below hb
    replace hsv := hsv.below hb
    replace hmx := hmx.below hb
    replace hmy := hmy.below hb
    replace hm := hm.below hb
    replace hbf := hbf.trans (hb.mono hbf.size)
    clear hb
    go_simp
    go_at_call 39
    (with_reducible refine (qdiv_ok _ _ (fstep E F n) ((2 : Int) : Rat) 133 2 _ hsv hm hsq h2q (by decide) (by decide)).mono ?_)
    rintro e w28 hq9
    obtain ⟨pB, pxO, pxL, pxC, pyO, pyL, pyC, rfl, hS, hpx, hpy, hp, hb⟩ := hq9.out
    have HpS := Lib.hid hS; clear hS
    replace hbg := hbg.kept hb
    replace hbq := hbq.kept hb
    replace hbu := hbu.kept hb
    replace hbv := hbv.kept hb
    replace h := h.below hb
    replace hax := hax.below hb
    replace hay := hay.below hb
    replace ha := ha.below hb
    replace hzx := hzx.below hb
    replace hzy := hzy.below hb
    replace hz := hz.below hb
    replace hxx := hxx.below hb
    replace hxy := hxy.below hb
    replace hx := hx.below hb
    replace hdx := hdx.below hb
    replace hdy := hdy.below hb
    replace hd := hd.below hb
    replace hyx := hyx.below hb
    replace hyy := hyy.below hb
    replace hy := hy.below hb
    replace hox := hox.below hb
    replace hoy := hoy.below hb
    replace ho := ho.below hb
    replace hlx := hlx.below hb
    replace hly := hly.below hb
    replace hl := hl.below hb
    replace hsv := hsv.below hb
    replace hmx := hmx.below hb
    replace hmy := hmy.below hb
    replace hm := hm.below hb
    replace hbf := hbf.trans (hb.mono hbf.size)
    have hbK := hb; clear hb
    first | refine hK.out _ _ hbv hbK ?_ | (go_wp2_with fail; refine hK.out _ _ hbv hbK ?_)
    clear hK K hbK
    (try simp only [Act.put, List.setIfInBounds_toArray, List.set_cons_zero, List.set_cons_succ])
    repeat (refine seqF_take (v := ?_) (fun t => by rfl) ?_ ?_; rotate_left; (· intro a9 h9 w hSw; (try dsimp only at hSw); obtain ⟨x8, rfl⟩ : ∃ x, a9 = Act.put _ (some 8) x := ⟨_, h9.one⟩; clear h9; obtain ⟨ev0, ev1, ev2, _, _, _⟩ := hSw; (try simp only [Act.put, List.setIfInBounds_toArray, List.set_cons_zero, List.set_cons_succ]); go_simp; all_goals with_reducible rfl); (try simp only [Act.put, List.setIfInBounds_toArray, List.set_cons_zero, List.set_cons_succ]))
    refine seqF_end (fun a9 w29 h9 hb hS9 hAt hNe => ?_)
    obtain ⟨x8, rfl⟩ : ∃ x, a9 = Act.put _ (some 8) x := ⟨_, h9.one⟩
    clear h9 hS9
    (try simp only [Act.put, List.setIfInBounds_toArray, List.set_cons_zero, List.set_cons_succ])
    (try simp only [Act.put, List.setIfInBounds_toArray, List.set_cons_zero, List.set_cons_succ] at hAt hNe)
    replace hbg := hbg.kept hb
    replace hbq := hbq.kept hb
    replace hbu := hbu.kept hb
    replace hbv := hbv.kept hb
    replace h := h.below hb
    replace hax := hax.below hb
    replace hay := hay.below hb
    replace ha := ha.below hb
    replace hzx := hzx.below hb
    replace hzy := hzy.below hb
    replace hz := hz.below hb
    replace hxx := hxx.below hb
    replace hxy := hxy.below hb
    replace hx := hx.below hb
    replace hdx := hdx.below hb
    replace hdy := hdy.below hb
    replace hd := hd.below hb
    replace hyx := hyx.below hb
    replace hyy := hyy.below hb
    replace hy := hy.below hb
    replace hox := hox.below hb
    replace hoy := hoy.below hb
    replace ho := ho.below hb
    replace hlx := hlx.below hb
    replace hly := hly.below hb
    replace hl := hl.below hb
    replace hsv := hsv.below hb
    replace hmx := hmx.below hb
    replace hmy := hmy.below hb
    replace hm := hm.below hb
    replace hpx := hpx.below hb
    replace hpy := hpy.below hb
    replace hp := hp.below hb
    replace hbf := hbf.trans (hb.mono hbf.size)
    clear hb
    obtain ⟨px, hxx, hgx, hhx⟩ := (hAt ⟨6, 8, .cells #[.bool false, .slice none 0 0, .slice none 0 0] 30⟩ (by simp)).slot rfl
    have hbx := box3_heap hhx; clear hhx
    replace hxx : x8 = _ := hxx
    clear hAt hNe
    subst hxx
    replace HP : Hid (w.heap.size ≤ pg ∧ pg < pq ∧ pq < pu ∧ pu < pv ∧ pv < px) := Lib.hid (by have h1 := HP.out; have h2 := HB9.out; omega)
    clear HB9 hgx
    simp only [pickOps, List.append_eq, List.cons_append, List.nil_append, List.getElem?_toArray, List.getElem?_cons_succ, List.getElem?_cons_zero]
    refine seq_step (by rfl) (fun K hK => ?_)
    have ex0 := hbx.c0
    have fx0 := hbx.f0
    have ex1 := hbx.c1
    have fx1 := hbx.f1
    have ex2 := hbx.c2
    have fx2 := hbx.f2
    go_simp
    clear ex0 fx0 ex1 fx1 ex2 fx2
    obtain ⟨w30, hwE⟩ : ∃ W, W = ((w29.setCell ⟨px, 0, none⟩ (Value.bool pB)).setCell ⟨px, 1, none⟩ (Value.slice pxO pxL pxC)).setCell ⟨px, 2, none⟩ (Value.slice pyO pyL pyC) := ⟨_, rfl⟩
    rw [← hwE]
    replace h := h.set3 (u0 := (Value.bool pB)) (u1 := (Value.slice pxO pxL pxC)) (u2 := (Value.slice pyO pyL pyC)) hbx; rw [← hwE] at h
    replace hax := hax.set3 (u0 := (Value.bool pB)) (u1 := (Value.slice pxO pxL pxC)) (u2 := (Value.slice pyO pyL pyC)) hbx; rw [← hwE] at hax
    replace hay := hay.set3 (u0 := (Value.bool pB)) (u1 := (Value.slice pxO pxL pxC)) (u2 := (Value.slice pyO pyL pyC)) hbx; rw [← hwE] at hay
    replace ha := ha.set3 (u0 := (Value.bool pB)) (u1 := (Value.slice pxO pxL pxC)) (u2 := (Value.slice pyO pyL pyC)) hbx; rw [← hwE] at ha
    replace hzx := hzx.set3 (u0 := (Value.bool pB)) (u1 := (Value.slice pxO pxL pxC)) (u2 := (Value.slice pyO pyL pyC)) hbx; rw [← hwE] at hzx
    replace hzy := hzy.set3 (u0 := (Value.bool pB)) (u1 := (Value.slice pxO pxL pxC)) (u2 := (Value.slice pyO pyL pyC)) hbx; rw [← hwE] at hzy
    replace hz := hz.set3 (u0 := (Value.bool pB)) (u1 := (Value.slice pxO pxL pxC)) (u2 := (Value.slice pyO pyL pyC)) hbx; rw [← hwE] at hz
    replace hxx := hxx.set3 (u0 := (Value.bool pB)) (u1 := (Value.slice pxO pxL pxC)) (u2 := (Value.slice pyO pyL pyC)) hbx; rw [← hwE] at hxx
    replace hxy := hxy.set3 (u0 := (Value.bool pB)) (u1 := (Value.slice pxO pxL pxC)) (u2 := (Value.slice pyO pyL pyC)) hbx; rw [← hwE] at hxy
    replace hx := hx.set3 (u0 := (Value.bool pB)) (u1 := (Value.slice pxO pxL pxC)) (u2 := (Value.slice pyO pyL pyC)) hbx; rw [← hwE] at hx
    replace hdx := hdx.set3 (u0 := (Value.bool pB)) (u1 := (Value.slice pxO pxL pxC)) (u2 := (Value.slice pyO pyL pyC)) hbx; rw [← hwE] at hdx
    replace hdy := hdy.set3 (u0 := (Value.bool pB)) (u1 := (Value.slice pxO pxL pxC)) (u2 := (Value.slice pyO pyL pyC)) hbx; rw [← hwE] at hdy
    replace hd := hd.set3 (u0 := (Value.bool pB)) (u1 := (Value.slice pxO pxL pxC)) (u2 := (Value.slice pyO pyL pyC)) hbx; rw [← hwE] at hd
    replace hyx := hyx.set3 (u0 := (Value.bool pB)) (u1 := (Value.slice pxO pxL pxC)) (u2 := (Value.slice pyO pyL pyC)) hbx; rw [← hwE] at hyx
    replace hyy := hyy.set3 (u0 := (Value.bool pB)) (u1 := (Value.slice pxO pxL pxC)) (u2 := (Value.slice pyO pyL pyC)) hbx; rw [← hwE] at hyy
    replace hy := hy.set3 (u0 := (Value.bool pB)) (u1 := (Value.slice pxO pxL pxC)) (u2 := (Value.slice pyO pyL pyC)) hbx; rw [← hwE] at hy
    replace hox := hox.set3 (u0 := (Value.bool pB)) (u1 := (Value.slice pxO pxL pxC)) (u2 := (Value.slice pyO pyL pyC)) hbx; rw [← hwE] at hox
    replace hoy := hoy.set3 (u0 := (Value.bool pB)) (u1 := (Value.slice pxO pxL pxC)) (u2 := (Value.slice pyO pyL pyC)) hbx; rw [← hwE] at hoy
    replace ho := ho.set3 (u0 := (Value.bool pB)) (u1 := (Value.slice pxO pxL pxC)) (u2 := (Value.slice pyO pyL pyC)) hbx; rw [← hwE] at ho
    replace hlx := hlx.set3 (u0 := (Value.bool pB)) (u1 := (Value.slice pxO pxL pxC)) (u2 := (Value.slice pyO pyL pyC)) hbx; rw [← hwE] at hlx
    replace hly := hly.set3 (u0 := (Value.bool pB)) (u1 := (Value.slice pxO pxL pxC)) (u2 := (Value.slice pyO pyL pyC)) hbx; rw [← hwE] at hly
    replace hl := hl.set3 (u0 := (Value.bool pB)) (u1 := (Value.slice pxO pxL pxC)) (u2 := (Value.slice pyO pyL pyC)) hbx; rw [← hwE] at hl
    replace hsv := hsv.set3 (u0 := (Value.bool pB)) (u1 := (Value.slice pxO pxL pxC)) (u2 := (Value.slice pyO pyL pyC)) hbx; rw [← hwE] at hsv
    replace hmx := hmx.set3 (u0 := (Value.bool pB)) (u1 := (Value.slice pxO pxL pxC)) (u2 := (Value.slice pyO pyL pyC)) hbx; rw [← hwE] at hmx
    replace hmy := hmy.set3 (u0 := (Value.bool pB)) (u1 := (Value.slice pxO pxL pxC)) (u2 := (Value.slice pyO pyL pyC)) hbx; rw [← hwE] at hmy
    replace hm := hm.set3 (u0 := (Value.bool pB)) (u1 := (Value.slice pxO pxL pxC)) (u2 := (Value.slice pyO pyL pyC)) hbx; rw [← hwE] at hm
    replace hpx := hpx.set3 (u0 := (Value.bool pB)) (u1 := (Value.slice pxO pxL pxC)) (u2 := (Value.slice pyO pyL pyC)) hbx; rw [← hwE] at hpx
    replace hpy := hpy.set3 (u0 := (Value.bool pB)) (u1 := (Value.slice pxO pxL pxC)) (u2 := (Value.slice pyO pyL pyC)) hbx; rw [← hwE] at hpy
    replace hp := hp.set3 (u0 := (Value.bool pB)) (u1 := (Value.slice pxO pxL pxC)) (u2 := (Value.slice pyO pyL pyC)) hbx; rw [← hwE] at hp
    replace hbg := hbg.set3f (u0 := (Value.bool pB)) (u1 := (Value.slice pxO pxL pxC)) (u2 := (Value.slice pyO pyL pyC)) (show pg ≠ px by have := HP.out; omega); rw [← hwE] at hbg
    replace hbq := hbq.set3o (u0 := (Value.bool pB)) (u1 := (Value.slice pxO pxL pxC)) (u2 := (Value.slice pyO pyL pyC)) (show pq ≠ px by have := HP.out; omega); rw [← hwE] at hbq
    replace hbu := hbu.set3o (u0 := (Value.bool pB)) (u1 := (Value.slice pxO pxL pxC)) (u2 := (Value.slice pyO pyL pyC)) (show pu ≠ px by have := HP.out; omega); rw [← hwE] at hbu
    replace hbv := hbv.set3o (u0 := (Value.bool pB)) (u1 := (Value.slice pxO pxL pxC)) (u2 := (Value.slice pyO pyL pyC)) (show pv ≠ px by have := HP.out; omega); rw [← hwE] at hbv
    replace hbf := below_set3 (u0 := (Value.bool pB)) (u1 := (Value.slice pxO pxL pxC)) (u2 := (Value.slice pyO pyL pyC)) hbf (show w.heap.size ≤ px by have := HP.out; omega); rw [← hwE] at hbf
    replace hbx := hbx.set3 (u0 := (Value.bool pB)) (u1 := (Value.slice pxO pxL pxC)) (u2 := (Value.slice pyO pyL pyC)); rw [← hwE] at hbx; clear hwE
    first | refine hK.out _ _ hbv (fun _ => ?_) | (go_wp2_with fail; refine hK.out _ _ hbv (fun _ => ?_))
    clear hK K
    (try simp only [Act.put, List.setIfInBounds_toArray, List.set_cons_zero, List.set_cons_succ])
    repeat (first | (refine seq_take (v := ?_) (by rfl) ?_ ?_; rotate_left; (· intro w hSw; (try dsimp only at hSw); obtain ⟨ev0, ev1, ev2, _, _, _⟩ := hSw; go_simp; all_goals with_reducible rfl); (try simp only [Act.put, List.setIfInBounds_toArray, List.set_cons_zero, List.set_cons_succ])) | (refine seq_leave (by rfl) ?_; (try simp only [Act.put, List.setIfInBounds_toArray, List.set_cons_zero, List.set_cons_succ])))
    refine seq_end ?_
    rw [q_two] at hp hhq
    have eu0 := hbu.c0
    have eu1 := hbu.c1
    have eu2 := hbu.c2
    have ex0 := hbx.c0
    have ex1 := hbx.c1
    have ex2 := hbx.c2
    go_wp2_with fail
    refine (qcmp_c _ _ (qabs r - fval E F n) (fstep E F n / 2) c9 (k + 66 + 1) (133 + 2) _ hd hp hde hhq (by omega) HC9).mono ?_
    rintro e w31 ⟨rfl, hb⟩
    clear eu0 eu1 eu2 ex0 ex1 ex2
    replace hbg := hbg.kept hb
    replace hbq := hbq.kept hb
    replace hbu := hbu.kept hb
    replace hbv := hbv.kept hb
    replace hbx := hbx.kept hb
    replace h := h.below hb
    replace hax := hax.below hb
    replace hay := hay.below hb
    replace ha := ha.below hb
    replace hzx := hzx.below hb
    replace hzy := hzy.below hb
    replace hz := hz.below hb
    replace hxx := hxx.below hb
    replace hxy := hxy.below hb
    replace hx := hx.below hb
    replace hdx := hdx.below hb
    replace hdy := hdy.below hb
    replace hd := hd.below hb
    replace hyx := hyx.below hb
    replace hyy := hyy.below hb
    replace hy := hy.below hb
    replace hox := hox.below hb
    replace hoy := hoy.below hb
    replace ho := ho.below hb
    replace hlx := hlx.below hb
    replace hly := hly.below hb
    replace hl := hl.below hb
    replace hsv := hsv.below hb
    replace hmx := hmx.below hb
    replace hmy := hmy.below hb
    replace hm := hm.below hb
    replace hpx := hpx.below hb
    replace hpy := hpy.below hb
    replace hp := hp.below hb
    replace hbf := hbf.trans (hb.mono hbf.size)
    clear hb
    rcases H3.out with rfl | rfl | rfl
    · skip
      obtain rfl : m9 = dsign E F g9 (n) := by rw [HM.out]; unfold fnear; rw [HMO.out, HG.out, decide_eq_false (by omega)]; rfl
      have eg0 := hbg.c0
      have eg1 := hbg.c1
      have eq0 := hbq.c0
      have eq1 := hbq.c1
      have eq2 := hbq.c2
      go_wp2_with fail
      clear eg0 eg1 eq0 eq1 eq2
      refine wp_region_seqQ (S := fun w' => Box2 w' pg (Value.int .i64 (E : Int)) (Value.int .i64 (F : Int)) ∧ Box3 w' pq (Value.bool qB) (Value.slice qxO qxL qxC) (Value.slice qyO qyL qyC)) [(0, 4, some 69), (0, 8, some 70), (2, 1180591620717411303424, some 71), (0, 32, some 72), (13, 7673845534663173472256, some 73), (31, 9444732965739290427392, some 4)] [(true, 0), (true, 1), (true, 3), (false, 2), (false, 4), (true, 5)] (by kernel_rfl) (by kernel_rfl) (by kernel_rfl) (by kernel_rfl) (by kernel_rfl) (by kernel_rfl) (fun d _ _ _ _ h => by cases d <;> exact h) ⟨hbg.drew, hbq.drew⟩ (fun _ => ?_)
      simp only [pickOps, List.append_eq, List.cons_append, List.nil_append, List.getElem?_toArray, List.getElem?_cons_succ, List.getElem?_cons_zero]
      have hb : Below w31.heap.size w31 w31.drew := (Below.refl _ _).drew
      generalize w31.drew = w32 at hb ⊢
      replace hbg := hbg.kept hb
      replace hbq := hbq.kept hb
      replace hbu := hbu.kept hb
      replace hbv := hbv.kept hb
      replace hbx := hbx.kept hb
      replace h := h.below hb
      replace hax := hax.below hb
      replace hay := hay.below hb
      replace ha := ha.below hb
      replace hzx := hzx.below hb
      replace hzy := hzy.below hb
      replace hz := hz.below hb
      replace hxx := hxx.below hb
      replace hxy := hxy.below hb
      replace hx := hx.below hb
      replace hdx := hdx.below hb
      replace hdy := hdy.below hb
      replace hd := hd.below hb
      replace hyx := hyx.below hb
      replace hyy := hyy.below hb
      replace hy := hy.below hb
      replace hox := hox.below hb
      replace hoy := hoy.below hb
      replace ho := ho.below hb
      replace hlx := hlx.below hb
      replace hly := hly.below hb
      replace hl := hl.below hb
      replace hsv := hsv.below hb
      replace hmx := hmx.below hb
      replace hmy := hmy.below hb
      replace hm := hm.below hb
      replace hpx := hpx.below hb
      replace hpy := hpy.below hb
      replace hp := hp.below hb
      replace hbf := hbf.trans (hb.mono hbf.size)
      clear hb
      repeat (first | (refine seq_take (v := ?_) (by rfl) ?_ ?_; rotate_left; (· intro w hSw; (try dsimp only at hSw); obtain ⟨⟨eg0, eg1, _, _⟩, ⟨eq0, eq1, eq2, _, _, _⟩⟩ := hSw; go_simp; all_goals with_reducible rfl); (try simp only [Act.put, List.setIfInBounds_toArray, List.set_cons_zero, List.set_cons_succ])) | (refine seq_leave (by rfl) ?_; (try simp only [Act.put, List.setIfInBounds_toArray, List.set_cons_zero, List.set_cons_succ])))
      refine seq_step (by rfl) (fun K hK => ?_)
      go_simp
      go_at_call 34
      (with_reducible refine (neg_s _ r g9 _ h HG).mono ?_)
      rintro e w33 ⟨rfl, hb⟩
      replace hbg := hbg.kept hb
      replace hbq := hbq.kept hb
      replace hbu := hbu.kept hb
      replace hbv := hbv.kept hb
      replace hbx := hbx.kept hb
      replace h := h.below hb
      replace hax := hax.below hb
      replace hay := hay.below hb
      replace ha := ha.below hb
      replace hzx := hzx.below hb
      replace hzy := hzy.below hb
      replace hz := hz.below hb
      replace hxx := hxx.below hb
      replace hxy := hxy.below hb
      replace hx := hx.below hb
      replace hdx := hdx.below hb
      replace hdy := hdy.below hb
      replace hd := hd.below hb
      replace hyx := hyx.below hb
      replace hyy := hyy.below hb
      replace hy := hy.below hb
      replace hox := hox.below hb
      replace hoy := hoy.below hb
      replace ho := ho.below hb
      replace hlx := hlx.below hb
      replace hly := hly.below hb
      replace hl := hl.below hb
      replace hsv := hsv.below hb
      replace hmx := hmx.below hb
      replace hmy := hmy.below hb
      replace hm := hm.below hb
      replace hpx := hpx.below hb
      replace hpy := hpy.below hb
      replace hp := hp.below hb
      replace hbf := hbf.trans (hb.mono hbf.size)
      clear hb
      first | refine hK.out _ _ ⟨hbg, hbq⟩ (fun _ => ?_) | (go_wp2_with fail; refine hK.out _ _ ⟨hbg, hbq⟩ (fun _ => ?_))
      clear hK K
      (try simp only [Act.put, List.setIfInBounds_toArray, List.set_cons_zero, List.set_cons_succ])
      refine seq_step (by rfl) (fun K hK => ?_)
      go_simp
      go_at_call 33
      (with_reducible refine (signed_x E F (n) g9 _ _ rfl hE hF (by omega)).mono ?_)
      rintro e w34 ⟨rfl, hb⟩
      replace hbg := hbg.kept hb
      replace hbq := hbq.kept hb
      replace hbu := hbu.kept hb
      replace hbv := hbv.kept hb
      replace hbx := hbx.kept hb
      replace h := h.below hb
      replace hax := hax.below hb
      replace hay := hay.below hb
      replace ha := ha.below hb
      replace hzx := hzx.below hb
      replace hzy := hzy.below hb
      replace hz := hz.below hb
      replace hxx := hxx.below hb
      replace hxy := hxy.below hb
      replace hx := hx.below hb
      replace hdx := hdx.below hb
      replace hdy := hdy.below hb
      replace hd := hd.below hb
      replace hyx := hyx.below hb
      replace hyy := hyy.below hb
      replace hy := hy.below hb
      replace hox := hox.below hb
      replace hoy := hoy.below hb
      replace ho := ho.below hb
      replace hlx := hlx.below hb
      replace hly := hly.below hb
      replace hl := hl.below hb
      replace hsv := hsv.below hb
      replace hmx := hmx.below hb
      replace hmy := hmy.below hb
      replace hm := hm.below hb
      replace hpx := hpx.below hb
      replace hpy := hpy.below hb
      replace hp := hp.below hb
      replace hbf := hbf.trans (hb.mono hbf.size)
      clear hb
      first | refine hK.out _ _ ⟨hbg, hbq⟩ (fun _ => ?_) | (go_wp2_with fail; refine hK.out _ _ ⟨hbg, hbq⟩ (fun _ => ?_))
      clear hK K
      (try simp only [Act.put, List.setIfInBounds_toArray, List.set_cons_zero, List.set_cons_succ])
      repeat (first | (refine seq_take (v := ?_) (by rfl) ?_ ?_; rotate_left; (· intro w hSw; (try dsimp only at hSw); obtain ⟨⟨eg0, eg1, _, _⟩, ⟨eq0, eq1, eq2, _, _, _⟩⟩ := hSw; go_simp; all_goals with_reducible rfl); (try simp only [Act.put, List.setIfInBounds_toArray, List.set_cons_zero, List.set_cons_succ])) | (refine seq_leave (by rfl) ?_; (try simp only [Act.put, List.setIfInBounds_toArray, List.set_cons_zero, List.set_cons_succ])))
      refine seq_end ?_
      go_wp2_with fail
      go_ret
      exact ⟨rfl, hbf⟩
    · skip
      by_cases hpar : n % 2 = 1
      case pos =>
        have hand : bits .and .u64 (n : Int) 1 = 1 := by rw [and_one]; omega
        obtain rfl : m9 = dsign E F g9 (n + 1) := by rw [HM.out]; unfold fnear; rw [HMO.out, HG.out, decide_eq_true (.inr ⟨rfl, hpar⟩)]; rfl
        have eg0 := hbg.c0
        have eg1 := hbg.c1
        have eq0 := hbq.c0
        have eq1 := hbq.c1
        have eq2 := hbq.c2
        go_wp2_with fail
        clear eg0 eg1 eq0 eq1 eq2
        refine wp_region_seqQ (S := fun w' => Box2 w' pg (Value.int .i64 (E : Int)) (Value.int .i64 (F : Int)) ∧ Box3 w' pq (Value.bool qB) (Value.slice qxO qxL qxC) (Value.slice qyO qyL qyC)) [(0, 4, some 69), (0, 8, some 70), (2, 1180591620717411303424, some 71), (0, 32, some 72), (13, 7673845534663173472256, some 73), (31, 9444732965739290427392, some 4)] [(true, 0), (true, 1), (true, 3), (false, 2), (false, 4), (true, 5)] (by kernel_rfl) (by kernel_rfl) (by kernel_rfl) (by kernel_rfl) (by kernel_rfl) (by kernel_rfl) (fun d _ _ _ _ h => by cases d <;> exact h) ⟨hbg.drew, hbq.drew⟩ (fun _ => ?_)
        simp only [pickOps, List.append_eq, List.cons_append, List.nil_append, List.getElem?_toArray, List.getElem?_cons_succ, List.getElem?_cons_zero]
        have hb : Below w31.heap.size w31 w31.drew := (Below.refl _ _).drew
        generalize w31.drew = w32 at hb ⊢
        replace hbg := hbg.kept hb
        replace hbq := hbq.kept hb
        replace hbu := hbu.kept hb
        replace hbv := hbv.kept hb
        replace hbx := hbx.kept hb
        replace h := h.below hb
        replace hax := hax.below hb
        replace hay := hay.below hb
        replace ha := ha.below hb
        replace hzx := hzx.below hb
        replace hzy := hzy.below hb
        replace hz := hz.below hb
        replace hxx := hxx.below hb
        replace hxy := hxy.below hb
        replace hx := hx.below hb
        replace hdx := hdx.below hb
        replace hdy := hdy.below hb
        replace hd := hd.below hb
        replace hyx := hyx.below hb
        replace hyy := hyy.below hb
        replace hy := hy.below hb
        replace hox := hox.below hb
        replace hoy := hoy.below hb
        replace ho := ho.below hb
        replace hlx := hlx.below hb
        replace hly := hly.below hb
        replace hl := hl.below hb
        replace hsv := hsv.below hb
        replace hmx := hmx.below hb
        replace hmy := hmy.below hb
        replace hm := hm.below hb
        replace hpx := hpx.below hb
        replace hpy := hpy.below hb
        replace hp := hp.below hb
        replace hbf := hbf.trans (hb.mono hbf.size)
        clear hb
        repeat (first | (refine seq_take (v := ?_) (by rfl) ?_ ?_; rotate_left; (· intro w hSw; (try dsimp only at hSw); obtain ⟨⟨eg0, eg1, _, _⟩, ⟨eq0, eq1, eq2, _, _, _⟩⟩ := hSw; go_simp; all_goals with_reducible rfl); (try simp only [Act.put, List.setIfInBounds_toArray, List.set_cons_zero, List.set_cons_succ])) | (refine seq_leave (by rfl) ?_; (try simp only [Act.put, List.setIfInBounds_toArray, List.set_cons_zero, List.set_cons_succ])))
        refine seq_step (by rfl) (fun K hK => ?_)
        go_simp
        go_at_call 34
        (with_reducible refine (neg_s _ r g9 _ h HG).mono ?_)
        rintro e w33 ⟨rfl, hb⟩
        replace hbg := hbg.kept hb
        replace hbq := hbq.kept hb
        replace hbu := hbu.kept hb
        replace hbv := hbv.kept hb
        replace hbx := hbx.kept hb
        replace h := h.below hb
        replace hax := hax.below hb
        replace hay := hay.below hb
        replace ha := ha.below hb
        replace hzx := hzx.below hb
        replace hzy := hzy.below hb
        replace hz := hz.below hb
        replace hxx := hxx.below hb
        replace hxy := hxy.below hb
        replace hx := hx.below hb
        replace hdx := hdx.below hb
        replace hdy := hdy.below hb
        replace hd := hd.below hb
        replace hyx := hyx.below hb
        replace hyy := hyy.below hb
        replace hy := hy.below hb
        replace hox := hox.below hb
        replace hoy := hoy.below hb
        replace ho := ho.below hb
        replace hlx := hlx.below hb
        replace hly := hly.below hb
        replace hl := hl.below hb
        replace hsv := hsv.below hb
        replace hmx := hmx.below hb
        replace hmy := hmy.below hb
        replace hm := hm.below hb
        replace hpx := hpx.below hb
        replace hpy := hpy.below hb
        replace hp := hp.below hb
        replace hbf := hbf.trans (hb.mono hbf.size)
        clear hb
        first | refine hK.out _ _ ⟨hbg, hbq⟩ (fun _ => ?_) | (go_wp2_with fail; refine hK.out _ _ ⟨hbg, hbq⟩ (fun _ => ?_))
        clear hK K
        (try simp only [Act.put, List.setIfInBounds_toArray, List.set_cons_zero, List.set_cons_succ])
        refine seq_step (by rfl) (fun K hK => ?_)
        go_simp
        go_at_call 33
        (with_reducible refine (signed_x E F (n + 1) g9 _ _ (up_one n) hE hF (by omega)).mono ?_)
        rintro e w34 ⟨rfl, hb⟩
        replace hbg := hbg.kept hb
        replace hbq := hbq.kept hb
        replace hbu := hbu.kept hb
        replace hbv := hbv.kept hb
        replace hbx := hbx.kept hb
        replace h := h.below hb
        replace hax := hax.below hb
        replace hay := hay.below hb
        replace ha := ha.below hb
        replace hzx := hzx.below hb
        replace hzy := hzy.below hb
        replace hz := hz.below hb
        replace hxx := hxx.below hb
        replace hxy := hxy.below hb
        replace hx := hx.below hb
        replace hdx := hdx.below hb
        replace hdy := hdy.below hb
        replace hd := hd.below hb
        replace hyx := hyx.below hb
        replace hyy := hyy.below hb
        replace hy := hy.below hb
        replace hox := hox.below hb
        replace hoy := hoy.below hb
        replace ho := ho.below hb
        replace hlx := hlx.below hb
        replace hly := hly.below hb
        replace hl := hl.below hb
        replace hsv := hsv.below hb
        replace hmx := hmx.below hb
        replace hmy := hmy.below hb
        replace hm := hm.below hb
        replace hpx := hpx.below hb
        replace hpy := hpy.below hb
        replace hp := hp.below hb
        replace hbf := hbf.trans (hb.mono hbf.size)
        clear hb
        first | refine hK.out _ _ ⟨hbg, hbq⟩ (fun _ => ?_) | (go_wp2_with fail; refine hK.out _ _ ⟨hbg, hbq⟩ (fun _ => ?_))
        clear hK K
        (try simp only [Act.put, List.setIfInBounds_toArray, List.set_cons_zero, List.set_cons_succ])
        repeat (first | (refine seq_take (v := ?_) (by rfl) ?_ ?_; rotate_left; (· intro w hSw; (try dsimp only at hSw); obtain ⟨⟨eg0, eg1, _, _⟩, ⟨eq0, eq1, eq2, _, _, _⟩⟩ := hSw; go_simp; all_goals with_reducible rfl); (try simp only [Act.put, List.setIfInBounds_toArray, List.set_cons_zero, List.set_cons_succ])) | (refine seq_leave (by rfl) ?_; (try simp only [Act.put, List.setIfInBounds_toArray, List.set_cons_zero, List.set_cons_succ])))
        refine seq_end ?_
        go_wp2_with fail
        go_ret
        exact ⟨rfl, hbf⟩
      case neg =>
        have hand : bits .and .u64 (n : Int) 1 = 0 := by rw [and_one]; omega
        obtain rfl : m9 = dsign E F g9 (n) := by rw [HM.out]; unfold fnear; rw [HMO.out, HG.out, decide_eq_false (by omega)]; rfl
        have eg0 := hbg.c0
        have eg1 := hbg.c1
        have eq0 := hbq.c0
        have eq1 := hbq.c1
        have eq2 := hbq.c2
        go_wp2_with fail
        clear eg0 eg1 eq0 eq1 eq2
        refine wp_region_seqQ (S := fun w' => Box2 w' pg (Value.int .i64 (E : Int)) (Value.int .i64 (F : Int)) ∧ Box3 w' pq (Value.bool qB) (Value.slice qxO qxL qxC) (Value.slice qyO qyL qyC)) [(0, 4, some 69), (0, 8, some 70), (2, 1180591620717411303424, some 71), (0, 32, some 72), (13, 7673845534663173472256, some 73), (31, 9444732965739290427392, some 4)] [(true, 0), (true, 1), (true, 3), (false, 2), (false, 4), (true, 5)] (by kernel_rfl) (by kernel_rfl) (by kernel_rfl) (by kernel_rfl) (by kernel_rfl) (by kernel_rfl) (fun d _ _ _ _ h => by cases d <;> exact h) ⟨hbg.drew, hbq.drew⟩ (fun _ => ?_)
        simp only [pickOps, List.append_eq, List.cons_append, List.nil_append, List.getElem?_toArray, List.getElem?_cons_succ, List.getElem?_cons_zero]
        have hb : Below w31.heap.size w31 w31.drew := (Below.refl _ _).drew
        generalize w31.drew = w32 at hb ⊢
        replace hbg := hbg.kept hb
        replace hbq := hbq.kept hb
        replace hbu := hbu.kept hb
        replace hbv := hbv.kept hb
        replace hbx := hbx.kept hb
        replace h := h.below hb
        replace hax := hax.below hb
        replace hay := hay.below hb
        replace ha := ha.below hb
        replace hzx := hzx.below hb
        replace hzy := hzy.below hb
        replace hz := hz.below hb
        replace hxx := hxx.below hb
        replace hxy := hxy.below hb
        replace hx := hx.below hb
        replace hdx := hdx.below hb
        replace hdy := hdy.below hb
        replace hd := hd.below hb
        replace hyx := hyx.below hb
        replace hyy := hyy.below hb
        replace hy := hy.below hb
        replace hox := hox.below hb
        replace hoy := hoy.below hb
        replace ho := ho.below hb
        replace hlx := hlx.below hb
        replace hly := hly.below hb
        replace hl := hl.below hb
        replace hsv := hsv.below hb
        replace hmx := hmx.below hb
        replace hmy := hmy.below hb
        replace hm := hm.below hb
        replace hpx := hpx.below hb
        replace hpy := hpy.below hb
        replace hp := hp.below hb
        replace hbf := hbf.trans (hb.mono hbf.size)
        clear hb
        repeat (first | (refine seq_take (v := ?_) (by rfl) ?_ ?_; rotate_left; (· intro w hSw; (try dsimp only at hSw); obtain ⟨⟨eg0, eg1, _, _⟩, ⟨eq0, eq1, eq2, _, _, _⟩⟩ := hSw; go_simp; all_goals with_reducible rfl); (try simp only [Act.put, List.setIfInBounds_toArray, List.set_cons_zero, List.set_cons_succ])) | (refine seq_leave (by rfl) ?_; (try simp only [Act.put, List.setIfInBounds_toArray, List.set_cons_zero, List.set_cons_succ])))
        refine seq_step (by rfl) (fun K hK => ?_)
        go_simp
        go_at_call 34
        (with_reducible refine (neg_s _ r g9 _ h HG).mono ?_)
        rintro e w33 ⟨rfl, hb⟩
        replace hbg := hbg.kept hb
        replace hbq := hbq.kept hb
        replace hbu := hbu.kept hb
        replace hbv := hbv.kept hb
        replace hbx := hbx.kept hb
        replace h := h.below hb
        replace hax := hax.below hb
        replace hay := hay.below hb
        replace ha := ha.below hb
        replace hzx := hzx.below hb
        replace hzy := hzy.below hb
        replace hz := hz.below hb
        replace hxx := hxx.below hb
        replace hxy := hxy.below hb
        replace hx := hx.below hb
        replace hdx := hdx.below hb
        replace hdy := hdy.below hb
        replace hd := hd.below hb
        replace hyx := hyx.below hb
        replace hyy := hyy.below hb
        replace hy := hy.below hb
        replace hox := hox.below hb
        replace hoy := hoy.below hb
        replace ho := ho.below hb
        replace hlx := hlx.below hb
        replace hly := hly.below hb
        replace hl := hl.below hb
        replace hsv := hsv.below hb
        replace hmx := hmx.below hb
        replace hmy := hmy.below hb
        replace hm := hm.below hb
        replace hpx := hpx.below hb
        replace hpy := hpy.below hb
        replace hp := hp.below hb
        replace hbf := hbf.trans (hb.mono hbf.size)
        clear hb
        first | refine hK.out _ _ ⟨hbg, hbq⟩ (fun _ => ?_) | (go_wp2_with fail; refine hK.out _ _ ⟨hbg, hbq⟩ (fun _ => ?_))
        clear hK K
        (try simp only [Act.put, List.setIfInBounds_toArray, List.set_cons_zero, List.set_cons_succ])
        refine seq_step (by rfl) (fun K hK => ?_)
        go_simp
        go_at_call 33
        (with_reducible refine (signed_x E F (n) g9 _ _ rfl hE hF (by omega)).mono ?_)
        rintro e w34 ⟨rfl, hb⟩
        replace hbg := hbg.kept hb
        replace hbq := hbq.kept hb
        replace hbu := hbu.kept hb
        replace hbv := hbv.kept hb
        replace hbx := hbx.kept hb
        replace h := h.below hb
        replace hax := hax.below hb
        replace hay := hay.below hb
        replace ha := ha.below hb
        replace hzx := hzx.below hb
        replace hzy := hzy.below hb
        replace hz := hz.below hb
        replace hxx := hxx.below hb
        replace hxy := hxy.below hb
        replace hx := hx.below hb
        replace hdx := hdx.below hb
        replace hdy := hdy.below hb
        replace hd := hd.below hb
        replace hyx := hyx.below hb
        replace hyy := hyy.below hb
        replace hy := hy.below hb
        replace hox := hox.below hb
        replace hoy := hoy.below hb
        replace ho := ho.below hb
        replace hlx := hlx.below hb
        replace hly := hly.below hb
        replace hl := hl.below hb
        replace hsv := hsv.below hb
        replace hmx := hmx.below hb
        replace hmy := hmy.below hb
        replace hm := hm.below hb
        replace hpx := hpx.below hb
        replace hpy := hpy.below hb
        replace hp := hp.below hb
        replace hbf := hbf.trans (hb.mono hbf.size)
        clear hb
        first | refine hK.out _ _ ⟨hbg, hbq⟩ (fun _ => ?_) | (go_wp2_with fail; refine hK.out _ _ ⟨hbg, hbq⟩ (fun _ => ?_))
        clear hK K
        (try simp only [Act.put, List.setIfInBounds_toArray, List.set_cons_zero, List.set_cons_succ])
        repeat (first | (refine seq_take (v := ?_) (by rfl) ?_ ?_; rotate_left; (· intro w hSw; (try dsimp only at hSw); obtain ⟨⟨eg0, eg1, _, _⟩, ⟨eq0, eq1, eq2, _, _, _⟩⟩ := hSw; go_simp; all_goals with_reducible rfl); (try simp only [Act.put, List.setIfInBounds_toArray, List.set_cons_zero, List.set_cons_succ])) | (refine seq_leave (by rfl) ?_; (try simp only [Act.put, List.setIfInBounds_toArray, List.set_cons_zero, List.set_cons_succ])))
        refine seq_end ?_
        go_wp2_with fail
        go_ret
        exact ⟨rfl, hbf⟩
    · skip
      obtain rfl : m9 = dsign E F g9 (n + 1) := by rw [HM.out]; unfold fnear; rw [HMO.out, HG.out, decide_eq_true (.inl rfl)]; rfl
      have eg0 := hbg.c0
      have eg1 := hbg.c1
      have eq0 := hbq.c0
      have eq1 := hbq.c1
      have eq2 := hbq.c2
      go_wp2_with fail
      clear eg0 eg1 eq0 eq1 eq2
      refine wp_region_seqQ (S := fun w' => Box2 w' pg (Value.int .i64 (E : Int)) (Value.int .i64 (F : Int)) ∧ Box3 w' pq (Value.bool qB) (Value.slice qxO qxL qxC) (Value.slice qyO qyL qyC)) [(0, 4, some 69), (0, 8, some 70), (2, 1180591620717411303424, some 71), (0, 32, some 72), (13, 7673845534663173472256, some 73), (31, 9444732965739290427392, some 4)] [(true, 0), (true, 1), (true, 3), (false, 2), (false, 4), (true, 5)] (by kernel_rfl) (by kernel_rfl) (by kernel_rfl) (by kernel_rfl) (by kernel_rfl) (by kernel_rfl) (fun d _ _ _ _ h => by cases d <;> exact h) ⟨hbg.drew, hbq.drew⟩ (fun _ => ?_)
      simp only [pickOps, List.append_eq, List.cons_append, List.nil_append, List.getElem?_toArray, List.getElem?_cons_succ, List.getElem?_cons_zero]
      have hb : Below w31.heap.size w31 w31.drew := (Below.refl _ _).drew
      generalize w31.drew = w32 at hb ⊢
      replace hbg := hbg.kept hb
      replace hbq := hbq.kept hb
      replace hbu := hbu.kept hb
      replace hbv := hbv.kept hb
      replace hbx := hbx.kept hb
      replace h := h.below hb
      replace hax := hax.below hb
      replace hay := hay.below hb
      replace ha := ha.below hb
      replace hzx := hzx.below hb
      replace hzy := hzy.below hb
      replace hz := hz.below hb
      replace hxx := hxx.below hb
      replace hxy := hxy.below hb
      replace hx := hx.below hb
      replace hdx := hdx.below hb
      replace hdy := hdy.below hb
      replace hd := hd.below hb
      replace hyx := hyx.below hb
      replace hyy := hyy.below hb
      replace hy := hy.below hb
      replace hox := hox.below hb
      replace hoy := hoy.below hb
      replace ho := ho.below hb
      replace hlx := hlx.below hb
      replace hly := hly.below hb
      replace hl := hl.below hb
      replace hsv := hsv.below hb
      replace hmx := hmx.below hb
      replace hmy := hmy.below hb
      replace hm := hm.below hb
      replace hpx := hpx.below hb
      replace hpy := hpy.below hb
      replace hp := hp.below hb
      replace hbf := hbf.trans (hb.mono hbf.size)
      clear hb
      repeat (first | (refine seq_take (v := ?_) (by rfl) ?_ ?_; rotate_left; (· intro w hSw; (try dsimp only at hSw); obtain ⟨⟨eg0, eg1, _, _⟩, ⟨eq0, eq1, eq2, _, _, _⟩⟩ := hSw; go_simp; all_goals with_reducible rfl); (try simp only [Act.put, List.setIfInBounds_toArray, List.set_cons_zero, List.set_cons_succ])) | (refine seq_leave (by rfl) ?_; (try simp only [Act.put, List.setIfInBounds_toArray, List.set_cons_zero, List.set_cons_succ])))
      refine seq_step (by rfl) (fun K hK => ?_)
      go_simp
      go_at_call 34
      (with_reducible refine (neg_s _ r g9 _ h HG).mono ?_)
      rintro e w33 ⟨rfl, hb⟩
      replace hbg := hbg.kept hb
      replace hbq := hbq.kept hb
      replace hbu := hbu.kept hb
      replace hbv := hbv.kept hb
      replace hbx := hbx.kept hb
      replace h := h.below hb
      replace hax := hax.below hb
      replace hay := hay.below hb
      replace ha := ha.below hb
      replace hzx := hzx.below hb
      replace hzy := hzy.below hb
      replace hz := hz.below hb
      replace hxx := hxx.below hb
      replace hxy := hxy.below hb
      replace hx := hx.below hb
      replace hdx := hdx.below hb
      replace hdy := hdy.below hb
      replace hd := hd.below hb
      replace hyx := hyx.below hb
      replace hyy := hyy.below hb
      replace hy := hy.below hb
      replace hox := hox.below hb
      replace hoy := hoy.below hb
      replace ho := ho.below hb
      replace hlx := hlx.below hb
      replace hly := hly.below hb
      replace hl := hl.below hb
      replace hsv := hsv.below hb
      replace hmx := hmx.below hb
      replace hmy := hmy.below hb
      replace hm := hm.below hb
      replace hpx := hpx.below hb
      replace hpy := hpy.below hb
      replace hp := hp.below hb
      replace hbf := hbf.trans (hb.mono hbf.size)
      clear hb
      first | refine hK.out _ _ ⟨hbg, hbq⟩ (fun _ => ?_) | (go_wp2_with fail; refine hK.out _ _ ⟨hbg, hbq⟩ (fun _ => ?_))
      clear hK K
      (try simp only [Act.put, List.setIfInBounds_toArray, List.set_cons_zero, List.set_cons_succ])
      refine seq_step (by rfl) (fun K hK => ?_)
      go_simp
      go_at_call 33
      (with_reducible refine (signed_x E F (n + 1) g9 _ _ (up_one n) hE hF (by omega)).mono ?_)
      rintro e w34 ⟨rfl, hb⟩
      replace hbg := hbg.kept hb
      replace hbq := hbq.kept hb
      replace hbu := hbu.kept hb
      replace hbv := hbv.kept hb
      replace hbx := hbx.kept hb
      replace h := h.below hb
      replace hax := hax.below hb
      replace hay := hay.below hb
      replace ha := ha.below hb
      replace hzx := hzx.below hb
      replace hzy := hzy.below hb
      replace hz := hz.below hb
      replace hxx := hxx.below hb
      replace hxy := hxy.below hb
      replace hx := hx.below hb
      replace hdx := hdx.below hb
      replace hdy := hdy.below hb
      replace hd := hd.below hb
      replace hyx := hyx.below hb
      replace hyy := hyy.below hb
      replace hy := hy.below hb
      replace hox := hox.below hb
      replace hoy := hoy.below hb
      replace ho := ho.below hb
      replace hlx := hlx.below hb
      replace hly := hly.below hb
      replace hl := hl.below hb
      replace hsv := hsv.below hb
      replace hmx := hmx.below hb
      replace hmy := hmy.below hb
      replace hm := hm.below hb
      replace hpx := hpx.below hb
      replace hpy := hpy.below hb
      replace hp := hp.below hb
      replace hbf := hbf.trans (hb.mono hbf.size)
      clear hb
      first | refine hK.out _ _ ⟨hbg, hbq⟩ (fun _ => ?_) | (go_wp2_with fail; refine hK.out _ _ ⟨hbg, hbq⟩ (fun _ => ?_))
      clear hK K
      (try simp only [Act.put, List.setIfInBounds_toArray, List.set_cons_zero, List.set_cons_succ])
      repeat (first | (refine seq_take (v := ?_) (by rfl) ?_ ?_; rotate_left; (· intro w hSw; (try dsimp only at hSw); obtain ⟨⟨eg0, eg1, _, _⟩, ⟨eq0, eq1, eq2, _, _, _⟩⟩ := hSw; go_simp; all_goals with_reducible rfl); (try simp only [Act.put, List.setIfInBounds_toArray, List.set_cons_zero, List.set_cons_succ])) | (refine seq_leave (by rfl) ?_; (try simp only [Act.put, List.setIfInBounds_toArray, List.set_cons_zero, List.set_cons_succ])))
      refine seq_end ?_
      go_wp2_with fail
      go_ret
      exact ⟨rfl, hbf⟩

end Go.Proofs.YtanicapbdigjaaaGreatDoor
