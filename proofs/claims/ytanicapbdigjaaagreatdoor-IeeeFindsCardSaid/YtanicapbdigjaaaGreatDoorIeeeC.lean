import Derived.Test.YtanicapbdigjaaaGreatDoorIeeeB
namespace Go.Proofs.YtanicapbdigjaaaGreatDoor
open Go.RowKit
set_option linter.unusedVariables false
set_option linter.unusedSimpArgs false
attribute [local go_sem] field_nat
theorem QB.abs {q : Rat} {k : Nat} (h : QB q k) : QB (qabs q) k := by
  unfold qabs
  split
  · exact h.neg
  · exact h
theorem same_s (va vc : Value) (a c : Rat) (s : Bool) (i j : Nat) (w : World) (ha : QIs w va a) (hc : QIs w vc c) (hla : QB a i) (hlc : QB c j) (hij : i + j ≤ 90000) (hs : Hid (decide (a = c) = s)) :
    Calls Tryz.prog 31 #[va, vc] w fun e w' => e = .returned (.bool s) ∧ Below w.heap.size w w' := by
  have := same_q va vc a c i j w ha hc hla hlc hij
  rwa [hs.out] at this
theorem neg_s (v : Value) (q : Rat) (s : Bool) (w : World) (h : QIs w v q) (hs : Hid (decide (q < 0) = s)) :
    Calls Tryz.prog 34 #[v] w fun e w' => e = .returned (.bool s) ∧ Below w.heap.size w w' := by
  have := neg_any v q w h
  rwa [hs.out] at this
/-- What the forms' functions answer; n: the pattern of the greatest number that is not farther from 0. -/
def fexact (E F : Nat) (r : Rat) (n : Nat) : Nat × Bool := if fval E F n = qabs r then (dsign E F (decide (r < 0)) n, true) else (0, false)
def fup (E F : Nat) (r : Rat) (n : Nat) : Nat := if fval E F n = qabs r then n else n + 1
def fbelow (E F : Nat) (r : Rat) (n : Nat) : Nat × Bool := if r < 0 then (if fup E F r n = finf E F then (0, false) else (dsign E F true (fup E F r n), true)) else (n, true)
def fabove (E F : Nat) (r : Rat) (n : Nat) : Nat × Bool := if 0 < r then (if fup E F r n = finf E F then (0, false) else (fup E F r n, true)) else (dsign E F true n, true)
def fnext (E F b : Nat) : Nat × Bool := if dkind E F b = 1 then (if fneg E F b = true ∧ 0 < fsize E F b then (dsign E F true (fsize E F b - 1), true) else if fsize E F b + 1 = finf E F then (0, false) else (fsize E F b + 1, true)) else (0, false)
set_option maxRecDepth 100000 in
set_option maxHeartbeats 1000000 in
/-- Exact. -/
theorem exact_any (E F n k : Nat) (v : Value) (r : Rat) (w : World) (x9 : Nat) (y9 : Bool) (HXY : Hid ((x9, y9) = fexact E F r n)) (hE2 : 2 ≤ E) (hE : E ≤ 11) (hF1 : 1 ≤ F) (hF : F ≤ 52) (h : QIs w v r) (hqb : QB r k) (hk : k ≤ 80000) (hu : Under E F (qabs r) n) :
    Calls Tryz.prog 9 #[formV (E : Int) (F : Int), v] w fun e w' => e = .returned (.tuple #[.int .u64 (x9 : Int), .bool y9]) ∧ Below w.heap.size w w' := by
  obtain ⟨qB, qxO, qxL, qxC, qyO, qyL, qyC, rfl, hS, hqx, hqy⟩ := h.form
  have HqS := Lib.hid hS; clear hS
  clear hqx hqy
  obtain ⟨w0, hw0⟩ : ∃ w0, w0 = ((w.alloc (.cells #[.int .i64 (E : Int), .int .i64 (F : Int)] 23)).alloc (.cells #[.bool qB, .slice qxO qxL qxC, .slice qyO qyL qyC] 30)) := ⟨_, rfl⟩
  have hbf : Below w.heap.size w w0 := by rw [hw0]; exact (((Below.refl _ w).alloc (Nat.le_refl _) _).alloc (by simp <;> omega) _)
  obtain ⟨pg, hpg⟩ : ∃ p, p = w.heap.size := ⟨_, rfl⟩
  have hbg : Box2 w0 pg (Value.int .i64 (E : Int)) (Value.int .i64 (F : Int)) := by rw [hw0, hpg]; exact ⟨by go_simp, by go_simp, by go_simp, by go_simp⟩
  obtain ⟨pq, hpq⟩ : ∃ p, p = w.heap.size + 1 := ⟨_, rfl⟩
  have hbq : Box3 w0 pq (Value.bool qB) (Value.slice qxO qxL qxC) (Value.slice qyO qyL qyC) := by rw [hw0, hpq]; exact ⟨by go_simp, by go_simp, by go_simp, by go_simp, by go_simp, by go_simp⟩
  have HP : Hid (w.heap.size ≤ pg ∧ pg < pq) := Lib.hid (by omega)
  replace h := h.below hbf
  have HW := Lib.hid hw0; clear hw0
  go_enter Tryz.func9, Tryz.ntmps9
  go_upto_region 1 with fail
  rw [← HW.out, ← hpq, ← hpg]
  clear hpg hpq HW
  have haqb := hqb.abs
  have hnI := hu.lt
  have hvq := fval_qb hE hF hnI
  have hIl : finf E F < fsgn E F := finf_lt E F
  have hSl := fsgn_lt hE hF
  have hn63 : n + 1 < 18446744073709551616 := by omega
  have eg0 := hbg.c0
  have eg1 := hbg.c1
  go_wp2_with fail
  refine (valid_yes E F _ hE2 hE hF1 hF).mono ?_
  rintro e w1 ⟨rfl, hb⟩
  clear eg0 eg1
  replace hbg := hbg.kept hb
  replace hbq := hbq.kept hb
  replace h := h.below hb
  replace hbf := hbf.trans (hb.mono hbf.size)
  clear hb
  obtain ⟨s, hs⟩ : ∃ s, decide (fval E F n = qabs r) = s := ⟨_, rfl⟩
  have HS := Lib.hid hs
  have hsx : fexact E F r n = if s then (dsign E F (decide (r < 0)) n, true) else (0, false) := by rw [← hs]; unfold fexact; by_cases h9 : fval E F n = qabs r <;> simp [h9]
  have HSX := Lib.hid hsx
  obtain ⟨g9, hg9⟩ : ∃ s, decide (r < 0) = s := ⟨_, rfl⟩
  have HG := Lib.hid hg9
  clear hs hsx hg9
  have eg0 := hbg.c0
  have eg1 := hbg.c1
  have eq0 := hbq.c0
  have eq1 := hbq.c1
  have eq2 := hbq.c2
  go_wp2_with fail
  clear eg0 eg1 eq0 eq1 eq2
  refine wp_region_seqQ (S := fun w' => Box2 w' pg (Value.int .i64 (E : Int)) (Value.int .i64 (F : Int)) ∧ Box3 w' pq (Value.bool qB) (Value.slice qxO qxL qxC) (Value.slice qyO qyL qyC)) [(0, 4, some 10), (0, 8, some 11), (2, 2048, some 12), (5, 5120, some 13), (15, 8192, some 6)] [(true, 0), (true, 1), (false, 2), (false, 3), (true, 4)] (by kernel_rfl) (by kernel_rfl) (by kernel_rfl) (by kernel_rfl) (by kernel_rfl) (by kernel_rfl) (fun d _ _ _ _ h => by cases d <;> exact h) ⟨hbg.drew, hbq.drew⟩ (fun _ => ?_)
  simp only [pickOps, List.append_eq, List.cons_append, List.nil_append, List.getElem?_toArray, List.getElem?_cons_succ, List.getElem?_cons_zero]
  have hb : Below w1.heap.size w1 w1.drew := (Below.refl _ _).drew
  generalize w1.drew = w2 at hb ⊢
  replace hbg := hbg.kept hb
  replace hbq := hbq.kept hb
  replace h := h.below hb
  replace hbf := hbf.trans (hb.mono hbf.size)
  clear hb
  repeat (first | (refine seq_take (v := ?_) (by rfl) ?_ ?_; rotate_left; (· intro w hSw; (try dsimp only at hSw); obtain ⟨⟨eg0, eg1, _, _⟩, ⟨eq0, eq1, eq2, _, _, _⟩⟩ := hSw; go_simp; all_goals with_reducible rfl); (try simp only [Act.put, List.setIfInBounds_toArray, List.set_cons_zero, List.set_cons_succ])) | (refine seq_leave (by rfl) ?_; (try simp only [Act.put, List.setIfInBounds_toArray, List.set_cons_zero, List.set_cons_succ])))
  refine seq_step (by rfl) (fun K hK => ?_)
  go_simp
  go_at_call 30
  (with_reducible refine (fsize_any _ r k _ h hqb hk).mono ?_)
  rintro e w3 hq9
  obtain ⟨aB, axO, axL, axC, ayO, ayL, ayC, rfl, hS, hax, hay, ha, hb⟩ := hq9.out
  have HaS := Lib.hid hS; clear hS
  replace hbg := hbg.kept hb
  replace hbq := hbq.kept hb
  replace h := h.below hb
  replace hbf := hbf.trans (hb.mono hbf.size)
  clear hb
  first | refine hK.out _ _ ⟨hbg, hbq⟩ (fun _ => ?_) | (go_wp2_with fail; refine hK.out _ _ ⟨hbg, hbq⟩ (fun _ => ?_))
  clear hK K
  (try simp only [Act.put, List.setIfInBounds_toArray, List.set_cons_zero, List.set_cons_succ])
  refine seq_step (by rfl) (fun K hK => ?_)
  go_simp
  go_at_call 29
  (with_reducible refine (under_any E F n k _ (qabs r) _ hE2 hE hF1 hF ha haqb hk (qabs_nonneg r) hu).mono ?_)
  rintro e w4 ⟨rfl, hb⟩
  replace hbg := hbg.kept hb
  replace hbq := hbq.kept hb
  replace h := h.below hb
  replace hax := hax.below hb
  replace hay := hay.below hb
  replace ha := ha.below hb
  replace hbf := hbf.trans (hb.mono hbf.size)
  clear hb
  first | refine hK.out _ _ ⟨hbg, hbq⟩ (fun _ => ?_) | (go_wp2_with fail; refine hK.out _ _ ⟨hbg, hbq⟩ (fun _ => ?_))
  clear hK K
  (try simp only [Act.put, List.setIfInBounds_toArray, List.set_cons_zero, List.set_cons_succ])
  repeat (first | (refine seq_take (v := ?_) (by rfl) ?_ ?_; rotate_left; (· intro w hSw; (try dsimp only at hSw); obtain ⟨⟨eg0, eg1, _, _⟩, ⟨eq0, eq1, eq2, _, _, _⟩⟩ := hSw; go_simp; all_goals with_reducible rfl); (try simp only [Act.put, List.setIfInBounds_toArray, List.set_cons_zero, List.set_cons_succ])) | (refine seq_leave (by rfl) ?_; (try simp only [Act.put, List.setIfInBounds_toArray, List.set_cons_zero, List.set_cons_succ])))
  refine seq_end ?_
  have eg0 := hbg.c0
  have eg1 := hbg.c1
  have eq0 := hbq.c0
  have eq1 := hbq.c1
  have eq2 := hbq.c2
  go_wp2_with fail
  clear eg0 eg1 eq0 eq1 eq2
  refine wp_region_seqQ (S := fun w' => Box2 w' pg (Value.int .i64 (E : Int)) (Value.int .i64 (F : Int)) ∧ Box3 w' pq (Value.bool qB) (Value.slice qxO qxL qxC) (Value.slice qyO qyL qyC)) [(0, 4, some 14), (0, 64, some 15), (3, 49152, some 16), (0, 8, some 17), (12, 131072, some 18), (20, 327680, some 19), (32, 524288, some 20)] [(true, 0), (true, 1), (true, 3), (false, 2), (false, 4), (false, 5), (true, 6)] (by kernel_rfl) (by kernel_rfl) (by kernel_rfl) (by kernel_rfl) (by kernel_rfl) (by kernel_rfl) (fun d _ _ _ _ h => by cases d <;> exact h) ⟨hbg.drew, hbq.drew⟩ (fun _ => ?_)
  simp only [pickOps, List.append_eq, List.cons_append, List.nil_append, List.getElem?_toArray, List.getElem?_cons_succ, List.getElem?_cons_zero]
  have hb : Below w4.heap.size w4 w4.drew := (Below.refl _ _).drew
  generalize w4.drew = w5 at hb ⊢
  replace hbg := hbg.kept hb
  replace hbq := hbq.kept hb
  replace h := h.below hb
  replace hax := hax.below hb
  replace hay := hay.below hb
  replace ha := ha.below hb
  replace hbf := hbf.trans (hb.mono hbf.size)
  clear hb
  repeat (first | (refine seq_take (v := ?_) (by rfl) ?_ ?_; rotate_left; (· intro w hSw; (try dsimp only at hSw); obtain ⟨⟨eg0, eg1, _, _⟩, ⟨eq0, eq1, eq2, _, _, _⟩⟩ := hSw; go_simp; all_goals with_reducible rfl); (try simp only [Act.put, List.setIfInBounds_toArray, List.set_cons_zero, List.set_cons_succ])) | (refine seq_leave (by rfl) ?_; (try simp only [Act.put, List.setIfInBounds_toArray, List.set_cons_zero, List.set_cons_succ])))
  refine seq_step (by rfl) (fun K hK => ?_)
  go_simp
  go_at_call 32
  (with_reducible refine (value_any E F n _ hE2 hE hF1 hF hnI).mono ?_)
  rintro e w6 hq9
  obtain ⟨xB, xxO, xxL, xxC, xyO, xyL, xyC, rfl, hS, hxx, hxy, hx, hb⟩ := hq9.out
  have HxS := Lib.hid hS; clear hS
  replace hbg := hbg.kept hb
  replace hbq := hbq.kept hb
  replace h := h.below hb
  replace hax := hax.below hb
  replace hay := hay.below hb
  replace ha := ha.below hb
  replace hbf := hbf.trans (hb.mono hbf.size)
  clear hb
  first | refine hK.out _ _ ⟨hbg, hbq⟩ (fun _ => ?_) | (go_wp2_with fail; refine hK.out _ _ ⟨hbg, hbq⟩ (fun _ => ?_))
  clear hK K
  (try simp only [Act.put, List.setIfInBounds_toArray, List.set_cons_zero, List.set_cons_succ])
  refine seq_step (by rfl) (fun K hK => ?_)
  go_simp
  go_at_call 30
  (with_reducible refine (fsize_any _ r k _ h hqb hk).mono ?_)
  rintro e w7 hq9
  obtain ⟨zB, zxO, zxL, zxC, zyO, zyL, zyC, rfl, hS, hzx, hzy, hz, hb⟩ := hq9.out
  have HzS := Lib.hid hS; clear hS
  replace hbg := hbg.kept hb
  replace hbq := hbq.kept hb
  replace h := h.below hb
  replace hax := hax.below hb
  replace hay := hay.below hb
  replace ha := ha.below hb
  replace hxx := hxx.below hb
  replace hxy := hxy.below hb
  replace hx := hx.below hb
  replace hbf := hbf.trans (hb.mono hbf.size)
  clear hb
  first | refine hK.out _ _ ⟨hbg, hbq⟩ (fun _ => ?_) | (go_wp2_with fail; refine hK.out _ _ ⟨hbg, hbq⟩ (fun _ => ?_))
  clear hK K
  (try simp only [Act.put, List.setIfInBounds_toArray, List.set_cons_zero, List.set_cons_succ])
  refine seq_step (by rfl) (fun K hK => ?_)
  go_simp
  go_at_call 31
  (with_reducible refine (same_s _ _ _ _ s 66 k _ hx hz hvq haqb (by omega) HS).mono ?_)
  rintro e w8 ⟨rfl, hb⟩
  replace hbg := hbg.kept hb
  replace hbq := hbq.kept hb
  replace h := h.below hb
  replace hax := hax.below hb
  replace hay := hay.below hb
  replace ha := ha.below hb
  replace hxx := hxx.below hb
  replace hxy := hxy.below hb
  replace hx := hx.below hb
  replace hzx := hzx.below hb
  replace hzy := hzy.below hb
  replace hz := hz.below hb
  replace hbf := hbf.trans (hb.mono hbf.size)
  clear hb
  first | refine hK.out _ _ ⟨hbg, hbq⟩ (fun _ => ?_) | (go_wp2_with fail; refine hK.out _ _ ⟨hbg, hbq⟩ (fun _ => ?_))
  clear hK K
  (try simp only [Act.put, List.setIfInBounds_toArray, List.set_cons_zero, List.set_cons_succ])
  repeat (first | (refine seq_take (v := ?_) (by rfl) ?_ ?_; rotate_left; (· intro w hSw; (try dsimp only at hSw); obtain ⟨⟨eg0, eg1, _, _⟩, ⟨eq0, eq1, eq2, _, _, _⟩⟩ := hSw; go_simp; all_goals with_reducible rfl); (try simp only [Act.put, List.setIfInBounds_toArray, List.set_cons_zero, List.set_cons_succ])) | (refine seq_leave (by rfl) ?_; (try simp only [Act.put, List.setIfInBounds_toArray, List.set_cons_zero, List.set_cons_succ])))
  refine seq_end ?_
  cases s
  case false =>
    obtain ⟨rfl, rfl⟩ : x9 = 0 ∧ y9 = false := by have := HXY.out; rw [HSX.out] at this; exact ⟨congrArg Prod.fst this, congrArg Prod.snd this⟩
    go_wp2_with fail
    go_ret2
    exact ⟨ret_two rfl rfl, hbf⟩
  case true =>
    obtain ⟨rfl, rfl⟩ : x9 = dsign E F g9 n ∧ y9 = true := by have := HXY.out; rw [HSX.out, HG.out] at this; exact ⟨congrArg Prod.fst this, congrArg Prod.snd this⟩
    have eg0 := hbg.c0
    have eg1 := hbg.c1
    have eq0 := hbq.c0
    have eq1 := hbq.c1
    have eq2 := hbq.c2
    go_wp2_with fail
    clear eg0 eg1 eq0 eq1 eq2
    refine wp_region_seqQ (S := fun w' => Box2 w' pg (Value.int .i64 (E : Int)) (Value.int .i64 (F : Int)) ∧ Box3 w' pq (Value.bool qB) (Value.slice qxO qxL qxC) (Value.slice qyO qyL qyC)) [(0, 4, some 21), (0, 8, some 22), (2, 4194304, some 23), (0, 64, some 24), (13, 27262976, some 25), (31, 33554432, some 4), (63, 0, some 5)] [(true, 0), (true, 1), (true, 3), (false, 2), (false, 4), (true, 5), (true, 6)] (by kernel_rfl) (by kernel_rfl) (by kernel_rfl) (by kernel_rfl) (by kernel_rfl) (by kernel_rfl) (fun d _ _ _ _ h => by cases d <;> exact h) ⟨hbg.drew, hbq.drew⟩ (fun _ => ?_)
    simp only [pickOps, List.append_eq, List.cons_append, List.nil_append, List.getElem?_toArray, List.getElem?_cons_succ, List.getElem?_cons_zero]
    have hb : Below w8.heap.size w8 w8.drew := (Below.refl _ _).drew
    generalize w8.drew = w9 at hb ⊢
    replace hbg := hbg.kept hb
    replace hbq := hbq.kept hb
    replace h := h.below hb
    replace hax := hax.below hb
    replace hay := hay.below hb
    replace ha := ha.below hb
    replace hxx := hxx.below hb
    replace hxy := hxy.below hb
    replace hx := hx.below hb
    replace hzx := hzx.below hb
    replace hzy := hzy.below hb
    replace hz := hz.below hb
    replace hbf := hbf.trans (hb.mono hbf.size)
    clear hb
    repeat (first | (refine seq_take (v := ?_) (by rfl) ?_ ?_; rotate_left; (· intro w hSw; (try dsimp only at hSw); obtain ⟨⟨eg0, eg1, _, _⟩, ⟨eq0, eq1, eq2, _, _, _⟩⟩ := hSw; go_simp; all_goals with_reducible rfl); (try simp only [Act.put, List.setIfInBounds_toArray, List.set_cons_zero, List.set_cons_succ])) | (refine seq_leave (by rfl) ?_; (try simp only [Act.put, List.setIfInBounds_toArray, List.set_cons_zero, List.set_cons_succ])))
    refine seq_step (by rfl) (fun K hK => ?_)
    go_simp
    go_at_call 34
    (with_reducible refine (neg_s _ r g9 _ h HG).mono ?_)
    rintro e w10 ⟨rfl, hb⟩
    replace hbg := hbg.kept hb
    replace hbq := hbq.kept hb
    replace h := h.below hb
    replace hax := hax.below hb
    replace hay := hay.below hb
    replace ha := ha.below hb
    replace hxx := hxx.below hb
    replace hxy := hxy.below hb
    replace hx := hx.below hb
    replace hzx := hzx.below hb
    replace hzy := hzy.below hb
    replace hz := hz.below hb
    replace hbf := hbf.trans (hb.mono hbf.size)
    clear hb
    first | refine hK.out _ _ ⟨hbg, hbq⟩ (fun _ => ?_) | (go_wp2_with fail; refine hK.out _ _ ⟨hbg, hbq⟩ (fun _ => ?_))
    clear hK K
    (try simp only [Act.put, List.setIfInBounds_toArray, List.set_cons_zero, List.set_cons_succ])
    refine seq_step (by rfl) (fun K hK => ?_)
    go_simp
    go_at_call 33
    (with_reducible refine (signed_any E F n g9 _ hE hF (by omega)).mono ?_)
    rintro e w11 ⟨rfl, hb⟩
    replace hbg := hbg.kept hb
    replace hbq := hbq.kept hb
    replace h := h.below hb
    replace hax := hax.below hb
    replace hay := hay.below hb
    replace ha := ha.below hb
    replace hxx := hxx.below hb
    replace hxy := hxy.below hb
    replace hx := hx.below hb
    replace hzx := hzx.below hb
    replace hzy := hzy.below hb
    replace hz := hz.below hb
    replace hbf := hbf.trans (hb.mono hbf.size)
    clear hb
    first | refine hK.out _ _ ⟨hbg, hbq⟩ (fun _ => ?_) | (go_wp2_with fail; refine hK.out _ _ ⟨hbg, hbq⟩ (fun _ => ?_))
    clear hK K
    (try simp only [Act.put, List.setIfInBounds_toArray, List.set_cons_zero, List.set_cons_succ])
    repeat (first | (refine seq_take (v := ?_) (by rfl) ?_ ?_; rotate_left; (· intro w hSw; (try dsimp only at hSw); obtain ⟨⟨eg0, eg1, _, _⟩, ⟨eq0, eq1, eq2, _, _, _⟩⟩ := hSw; go_simp; all_goals with_reducible rfl); (try simp only [Act.put, List.setIfInBounds_toArray, List.set_cons_zero, List.set_cons_succ])) | (refine seq_leave (by rfl) ?_; (try simp only [Act.put, List.setIfInBounds_toArray, List.set_cons_zero, List.set_cons_succ])))
    refine seq_end ?_
    go_wp2_with fail
    go_ret2
    exact ⟨ret_two rfl rfl, hbf⟩
set_option maxRecDepth 100000 in
set_option maxHeartbeats 1000000 in
/-- Below. -/
theorem below_any (E F n k : Nat) (v : Value) (r : Rat) (w : World) (x9 : Nat) (y9 : Bool) (HXY : Hid ((x9, y9) = fbelow E F r n)) (hE2 : 2 ≤ E) (hE : E ≤ 11) (hF1 : 1 ≤ F) (hF : F ≤ 52) (h : QIs w v r) (hqb : QB r k) (hk : k ≤ 80000) (hu : Under E F (qabs r) n) :
    Calls Tryz.prog 10 #[formV (E : Int) (F : Int), v] w fun e w' => e = .returned (.tuple #[.int .u64 (x9 : Int), .bool y9]) ∧ Below w.heap.size w w' := by
  obtain ⟨qB, qxO, qxL, qxC, qyO, qyL, qyC, rfl, hS, hqx, hqy⟩ := h.form
  have HqS := Lib.hid hS; clear hS
  clear hqx hqy
  obtain ⟨w0, hw0⟩ : ∃ w0, w0 = ((w.alloc (.cells #[.int .i64 (E : Int), .int .i64 (F : Int)] 23)).alloc (.cells #[.bool qB, .slice qxO qxL qxC, .slice qyO qyL qyC] 30)) := ⟨_, rfl⟩
  have hbf : Below w.heap.size w w0 := by rw [hw0]; exact (((Below.refl _ w).alloc (Nat.le_refl _) _).alloc (by simp <;> omega) _)
  obtain ⟨pg, hpg⟩ : ∃ p, p = w.heap.size := ⟨_, rfl⟩
  have hbg : Box2 w0 pg (Value.int .i64 (E : Int)) (Value.int .i64 (F : Int)) := by rw [hw0, hpg]; exact ⟨by go_simp, by go_simp, by go_simp, by go_simp⟩
  obtain ⟨pq, hpq⟩ : ∃ p, p = w.heap.size + 1 := ⟨_, rfl⟩
  have hbq : Box3 w0 pq (Value.bool qB) (Value.slice qxO qxL qxC) (Value.slice qyO qyL qyC) := by rw [hw0, hpq]; exact ⟨by go_simp, by go_simp, by go_simp, by go_simp, by go_simp, by go_simp⟩
  have HP : Hid (w.heap.size ≤ pg ∧ pg < pq) := Lib.hid (by omega)
  replace h := h.below hbf
  have HW := Lib.hid hw0; clear hw0
  go_enter Tryz.func10, Tryz.ntmps10
  go_upto_region 1 with fail
  rw [← HW.out, ← hpq, ← hpg]
  clear hpg hpq HW
  have haqb := hqb.abs
  have hnI := hu.lt
  have hvq := fval_qb hE hF hnI
  have hIl : finf E F < fsgn E F := finf_lt E F
  have hSl := fsgn_lt hE hF
  have hn63 : n + 1 < 18446744073709551616 := by omega
  have eg0 := hbg.c0
  have eg1 := hbg.c1
  go_wp2_with fail
  refine (valid_yes E F _ hE2 hE hF1 hF).mono ?_
  rintro e w1 ⟨rfl, hb⟩
  clear eg0 eg1
  replace hbg := hbg.kept hb
  replace hbq := hbq.kept hb
  replace h := h.below hb
  replace hbf := hbf.trans (hb.mono hbf.size)
  clear hb
  obtain ⟨s, hs⟩ : ∃ s, decide (fval E F n = qabs r) = s := ⟨_, rfl⟩
  have HS := Lib.hid hs
  obtain ⟨g9, hg9⟩ : ∃ s, decide (r < 0) = s := ⟨_, rfl⟩
  have HG := Lib.hid hg9
  have hsx : fup E F r n = if s then n else n + 1 := by rw [← hs]; unfold fup; by_cases h9 : fval E F n = qabs r <;> simp [h9]
  have HSX := Lib.hid hsx
  have hbx : fbelow E F r n = if g9 then (if fup E F r n = finf E F then (0, false) else (dsign E F true (fup E F r n), true)) else (n, true) := by rw [← hg9]; unfold fbelow; by_cases h9 : r < 0 <;> simp [h9]
  have HBX := Lib.hid hbx
  clear hs hsx hg9 hbx
  have eg0 := hbg.c0
  have eg1 := hbg.c1
  have eq0 := hbq.c0
  have eq1 := hbq.c1
  have eq2 := hbq.c2
  go_wp2_with fail
  clear eg0 eg1 eq0 eq1 eq2
  refine wp_region_seqQ (S := fun w' => Box2 w' pg (Value.int .i64 (E : Int)) (Value.int .i64 (F : Int)) ∧ Box3 w' pq (Value.bool qB) (Value.slice qxO qxL qxC) (Value.slice qyO qyL qyC)) [(0, 4, some 10), (0, 8, some 11), (2, 2048, some 12), (5, 5120, some 13), (15, 8192, some 6)] [(true, 0), (true, 1), (false, 2), (false, 3), (true, 4)] (by kernel_rfl) (by kernel_rfl) (by kernel_rfl) (by kernel_rfl) (by kernel_rfl) (by kernel_rfl) (fun d _ _ _ _ h => by cases d <;> exact h) ⟨hbg.drew, hbq.drew⟩ (fun _ => ?_)
  simp only [pickOps, List.append_eq, List.cons_append, List.nil_append, List.getElem?_toArray, List.getElem?_cons_succ, List.getElem?_cons_zero]
  have hb : Below w1.heap.size w1 w1.drew := (Below.refl _ _).drew
  generalize w1.drew = w2 at hb ⊢
  replace hbg := hbg.kept hb
  replace hbq := hbq.kept hb
  replace h := h.below hb
  replace hbf := hbf.trans (hb.mono hbf.size)
  clear hb
  repeat (first | (refine seq_take (v := ?_) (by rfl) ?_ ?_; rotate_left; (· intro w hSw; (try dsimp only at hSw); obtain ⟨⟨eg0, eg1, _, _⟩, ⟨eq0, eq1, eq2, _, _, _⟩⟩ := hSw; go_simp; all_goals with_reducible rfl); (try simp only [Act.put, List.setIfInBounds_toArray, List.set_cons_zero, List.set_cons_succ])) | (refine seq_leave (by rfl) ?_; (try simp only [Act.put, List.setIfInBounds_toArray, List.set_cons_zero, List.set_cons_succ])))
  refine seq_step (by rfl) (fun K hK => ?_)
  go_simp
  go_at_call 30
  (with_reducible refine (fsize_any _ r k _ h hqb hk).mono ?_)
  rintro e w3 hq9
  obtain ⟨aB, axO, axL, axC, ayO, ayL, ayC, rfl, hS, hax, hay, ha, hb⟩ := hq9.out
  have HaS := Lib.hid hS; clear hS
  replace hbg := hbg.kept hb
  replace hbq := hbq.kept hb
  replace h := h.below hb
  replace hbf := hbf.trans (hb.mono hbf.size)
  clear hb
  first | refine hK.out _ _ ⟨hbg, hbq⟩ (fun _ => ?_) | (go_wp2_with fail; refine hK.out _ _ ⟨hbg, hbq⟩ (fun _ => ?_))
  clear hK K
  (try simp only [Act.put, List.setIfInBounds_toArray, List.set_cons_zero, List.set_cons_succ])
  refine seq_step (by rfl) (fun K hK => ?_)
  go_simp
  go_at_call 29
  (with_reducible refine (under_any E F n k _ (qabs r) _ hE2 hE hF1 hF ha haqb hk (qabs_nonneg r) hu).mono ?_)
  rintro e w4 ⟨rfl, hb⟩
  replace hbg := hbg.kept hb
  replace hbq := hbq.kept hb
  replace h := h.below hb
  replace hax := hax.below hb
  replace hay := hay.below hb
  replace ha := ha.below hb
  replace hbf := hbf.trans (hb.mono hbf.size)
  clear hb
  first | refine hK.out _ _ ⟨hbg, hbq⟩ (fun _ => ?_) | (go_wp2_with fail; refine hK.out _ _ ⟨hbg, hbq⟩ (fun _ => ?_))
  clear hK K
  (try simp only [Act.put, List.setIfInBounds_toArray, List.set_cons_zero, List.set_cons_succ])
  repeat (first | (refine seq_take (v := ?_) (by rfl) ?_ ?_; rotate_left; (· intro w hSw; (try dsimp only at hSw); obtain ⟨⟨eg0, eg1, _, _⟩, ⟨eq0, eq1, eq2, _, _, _⟩⟩ := hSw; go_simp; all_goals with_reducible rfl); (try simp only [Act.put, List.setIfInBounds_toArray, List.set_cons_zero, List.set_cons_succ])) | (refine seq_leave (by rfl) ?_; (try simp only [Act.put, List.setIfInBounds_toArray, List.set_cons_zero, List.set_cons_succ])))
  refine seq_end ?_
  have eq0 := hbq.c0
  have eq1 := hbq.c1
  have eq2 := hbq.c2
  go_wp2_with fail
  refine (neg_s _ r g9 _ h HG).mono ?_
  rintro e w5 ⟨rfl, hb⟩
  clear eq0 eq1 eq2
  replace hbg := hbg.kept hb
  replace hbq := hbq.kept hb
  replace h := h.below hb
  replace hax := hax.below hb
  replace hay := hay.below hb
  replace ha := ha.below hb
  replace hbf := hbf.trans (hb.mono hbf.size)
  clear hb
  cases g9
  case false =>
    obtain ⟨rfl, rfl⟩ : x9 = n ∧ y9 = true := by have := HXY.out; rw [HBX.out] at this; exact ⟨congrArg Prod.fst this, congrArg Prod.snd this⟩
    go_wp2_with fail
    go_ret2
    exact ⟨ret_two rfl rfl, hbf⟩
  case true =>
    have eg0 := hbg.c0
    have eg1 := hbg.c1
    have eq0 := hbq.c0
    have eq1 := hbq.c1
    have eq2 := hbq.c2
    go_wp2_with fail
    clear eg0 eg1 eq0 eq1 eq2
    refine wp_region_seqQ (S := fun w' => Box2 w' pg (Value.int .i64 (E : Int)) (Value.int .i64 (F : Int)) ∧ Box3 w' pq (Value.bool qB) (Value.slice qxO qxL qxC) (Value.slice qyO qyL qyC)) [(0, 4, some 18), (0, 64, some 19), (3, 786432, some 20), (0, 8, some 21), (12, 2097152, some 22), (20, 5242880, some 23), (32, 8388608, some 24)] [(true, 0), (true, 1), (true, 3), (false, 2), (false, 4), (false, 5), (true, 6)] (by kernel_rfl) (by kernel_rfl) (by kernel_rfl) (by kernel_rfl) (by kernel_rfl) (by kernel_rfl) (fun d _ _ _ _ h => by cases d <;> exact h) ⟨hbg.drew, hbq.drew⟩ (fun _ => ?_)
    simp only [pickOps, List.append_eq, List.cons_append, List.nil_append, List.getElem?_toArray, List.getElem?_cons_succ, List.getElem?_cons_zero]
    have hb : Below w5.heap.size w5 w5.drew := (Below.refl _ _).drew
    generalize w5.drew = w6 at hb ⊢
    replace hbg := hbg.kept hb
    replace hbq := hbq.kept hb
    replace h := h.below hb
    replace hax := hax.below hb
    replace hay := hay.below hb
    replace ha := ha.below hb
    replace hbf := hbf.trans (hb.mono hbf.size)
    clear hb
    repeat (first | (refine seq_take (v := ?_) (by rfl) ?_ ?_; rotate_left; (· intro w hSw; (try dsimp only at hSw); obtain ⟨⟨eg0, eg1, _, _⟩, ⟨eq0, eq1, eq2, _, _, _⟩⟩ := hSw; go_simp; all_goals with_reducible rfl); (try simp only [Act.put, List.setIfInBounds_toArray, List.set_cons_zero, List.set_cons_succ])) | (refine seq_leave (by rfl) ?_; (try simp only [Act.put, List.setIfInBounds_toArray, List.set_cons_zero, List.set_cons_succ])))
    refine seq_step (by rfl) (fun K hK => ?_)
    go_simp
    go_at_call 32
    (with_reducible refine (value_any E F n _ hE2 hE hF1 hF hnI).mono ?_)
    rintro e w7 hq9
    obtain ⟨xB, xxO, xxL, xxC, xyO, xyL, xyC, rfl, hS, hxx, hxy, hx, hb⟩ := hq9.out
    have HxS := Lib.hid hS; clear hS
    replace hbg := hbg.kept hb
    replace hbq := hbq.kept hb
    replace h := h.below hb
    replace hax := hax.below hb
    replace hay := hay.below hb
    replace ha := ha.below hb
    replace hbf := hbf.trans (hb.mono hbf.size)
    clear hb
    first | refine hK.out _ _ ⟨hbg, hbq⟩ (fun _ => ?_) | (go_wp2_with fail; refine hK.out _ _ ⟨hbg, hbq⟩ (fun _ => ?_))
    clear hK K
    (try simp only [Act.put, List.setIfInBounds_toArray, List.set_cons_zero, List.set_cons_succ])
    refine seq_step (by rfl) (fun K hK => ?_)
    go_simp
    go_at_call 30
    (with_reducible refine (fsize_any _ r k _ h hqb hk).mono ?_)
    rintro e w8 hq9
    obtain ⟨zB, zxO, zxL, zxC, zyO, zyL, zyC, rfl, hS, hzx, hzy, hz, hb⟩ := hq9.out
    have HzS := Lib.hid hS; clear hS
    replace hbg := hbg.kept hb
    replace hbq := hbq.kept hb
    replace h := h.below hb
    replace hax := hax.below hb
    replace hay := hay.below hb
    replace ha := ha.below hb
    replace hxx := hxx.below hb
    replace hxy := hxy.below hb
    replace hx := hx.below hb
    replace hbf := hbf.trans (hb.mono hbf.size)
    clear hb
    first | refine hK.out _ _ ⟨hbg, hbq⟩ (fun _ => ?_) | (go_wp2_with fail; refine hK.out _ _ ⟨hbg, hbq⟩ (fun _ => ?_))
    clear hK K
    (try simp only [Act.put, List.setIfInBounds_toArray, List.set_cons_zero, List.set_cons_succ])
    refine seq_step (by rfl) (fun K hK => ?_)
    go_simp
    go_at_call 31
    (with_reducible refine (same_s _ _ _ _ s 66 k _ hx hz hvq haqb (by omega) HS).mono ?_)
    rintro e w9 ⟨rfl, hb⟩
    replace hbg := hbg.kept hb
    replace hbq := hbq.kept hb
    replace h := h.below hb
    replace hax := hax.below hb
    replace hay := hay.below hb
    replace ha := ha.below hb
    replace hxx := hxx.below hb
    replace hxy := hxy.below hb
    replace hx := hx.below hb
    replace hzx := hzx.below hb
    replace hzy := hzy.below hb
    replace hz := hz.below hb
    replace hbf := hbf.trans (hb.mono hbf.size)
    clear hb
    first | refine hK.out _ _ ⟨hbg, hbq⟩ (fun _ => ?_) | (go_wp2_with fail; refine hK.out _ _ ⟨hbg, hbq⟩ (fun _ => ?_))
    clear hK K
    (try simp only [Act.put, List.setIfInBounds_toArray, List.set_cons_zero, List.set_cons_succ])
    repeat (first | (refine seq_take (v := ?_) (by rfl) ?_ ?_; rotate_left; (· intro w hSw; (try dsimp only at hSw); obtain ⟨⟨eg0, eg1, _, _⟩, ⟨eq0, eq1, eq2, _, _, _⟩⟩ := hSw; go_simp; all_goals with_reducible rfl); (try simp only [Act.put, List.setIfInBounds_toArray, List.set_cons_zero, List.set_cons_succ])) | (refine seq_leave (by rfl) ?_; (try simp only [Act.put, List.setIfInBounds_toArray, List.set_cons_zero, List.set_cons_succ])))
    refine seq_end ?_
    cases s
    case true =>
      have HU : Hid (fup E F r n = n) := Lib.hid (by rw [HSX.out]; rfl)
      have eg0 := hbg.c0
      have eg1 := hbg.c1
      go_wp2_with fail
      refine (infinity_any E F _ hE hF).mono ?_
      rintro e w10 ⟨rfl, hb⟩
      clear eg0 eg1
      replace hbg := hbg.kept hb
      replace hbq := hbq.kept hb
      replace h := h.below hb
      replace hax := hax.below hb
      replace hay := hay.below hb
      replace ha := ha.below hb
      replace hxx := hxx.below hb
      replace hxy := hxy.below hb
      replace hx := hx.below hb
      replace hzx := hzx.below hb
      replace hzy := hzy.below hb
      replace hz := hz.below hb
      replace hbf := hbf.trans (hb.mono hbf.size)
      clear hb
      by_cases hm : n = finf E F
      case pos =>
        have hc : (((n : Nat) : Int) == ((finf E F : Nat) : Int)) = true := by rw [beq_iff_eq]; omega
        obtain ⟨rfl, rfl⟩ : x9 = 0 ∧ y9 = false := by have := HXY.out; rw [HBX.out, HU.out, if_pos hm] at this; exact ⟨congrArg Prod.fst this, congrArg Prod.snd this⟩
        go_wp2_with fail
        go_ret2
        exact ⟨ret_two rfl rfl, hbf⟩
      case neg =>
        have hc : (((n : Nat) : Int) == ((finf E F : Nat) : Int)) = false := by rw [beq_eq_false_iff_ne, ne_eq]; omega
        obtain ⟨rfl, rfl⟩ : x9 = dsign E F true (n) ∧ y9 = true := by have := HXY.out; rw [HBX.out, HU.out, if_neg hm] at this; exact ⟨congrArg Prod.fst this, congrArg Prod.snd this⟩
        have eg0 := hbg.c0
        have eg1 := hbg.c1
        go_wp2_with fail
        refine (signed_any E F (n) true _ hE hF (by omega)).mono ?_
        rintro e w11 ⟨rfl, hb⟩
        clear eg0 eg1
        replace hbg := hbg.kept hb
        replace hbq := hbq.kept hb
        replace h := h.below hb
        replace hax := hax.below hb
        replace hay := hay.below hb
        replace ha := ha.below hb
        replace hxx := hxx.below hb
        replace hxy := hxy.below hb
        replace hx := hx.below hb
        replace hzx := hzx.below hb
        replace hzy := hzy.below hb
        replace hz := hz.below hb
        replace hbf := hbf.trans (hb.mono hbf.size)
        clear hb
        go_wp2_with fail
        go_ret2
        exact ⟨ret_two rfl rfl, hbf⟩
    case false =>
      have HU : Hid (fup E F r n = n + 1) := Lib.hid (by rw [HSX.out]; rfl)
      have eg0 := hbg.c0
      have eg1 := hbg.c1
      go_wp2_with fail
      refine (infinity_any E F _ hE hF).mono ?_
      rintro e w10 ⟨rfl, hb⟩
      clear eg0 eg1
      replace hbg := hbg.kept hb
      replace hbq := hbq.kept hb
      replace h := h.below hb
      replace hax := hax.below hb
      replace hay := hay.below hb
      replace ha := ha.below hb
      replace hxx := hxx.below hb
      replace hxy := hxy.below hb
      replace hx := hx.below hb
      replace hzx := hzx.below hb
      replace hzy := hzy.below hb
      replace hz := hz.below hb
      replace hbf := hbf.trans (hb.mono hbf.size)
      clear hb
      by_cases hm : n + 1 = finf E F
      case pos =>
        have hc : (((n + 1 : Nat) : Int) == ((finf E F : Nat) : Int)) = true := by rw [beq_iff_eq]; omega
        obtain ⟨rfl, rfl⟩ : x9 = 0 ∧ y9 = false := by have := HXY.out; rw [HBX.out, HU.out, if_pos hm] at this; exact ⟨congrArg Prod.fst this, congrArg Prod.snd this⟩
        go_wp2_with fail
        go_ret2
        exact ⟨ret_two rfl rfl, hbf⟩
      case neg =>
        have hc : (((n + 1 : Nat) : Int) == ((finf E F : Nat) : Int)) = false := by rw [beq_eq_false_iff_ne, ne_eq]; omega
        obtain ⟨rfl, rfl⟩ : x9 = dsign E F true (n + 1) ∧ y9 = true := by have := HXY.out; rw [HBX.out, HU.out, if_neg hm] at this; exact ⟨congrArg Prod.fst this, congrArg Prod.snd this⟩
        have eg0 := hbg.c0
        have eg1 := hbg.c1
        go_wp2_with fail
        refine (signed_any E F (n + 1) true _ hE hF (by omega)).mono ?_
        rintro e w11 ⟨rfl, hb⟩
        clear eg0 eg1
        replace hbg := hbg.kept hb
        replace hbq := hbq.kept hb
        replace h := h.below hb
        replace hax := hax.below hb
        replace hay := hay.below hb
        replace ha := ha.below hb
        replace hxx := hxx.below hb
        replace hxy := hxy.below hb
        replace hx := hx.below hb
        replace hzx := hzx.below hb
        replace hzy := hzy.below hb
        replace hz := hz.below hb
        replace hbf := hbf.trans (hb.mono hbf.size)
        clear hb
        go_wp2_with fail
        go_ret2
        exact ⟨ret_two rfl rfl, hbf⟩
theorem dsign_size {E F m : Nat} (s : Bool) (hm : m < fsgn E F) : fsize E F (dsign E F s m) = m := by
  unfold fsize dsign fsgn at *
  split
  · rw [Nat.add_mod_right]; exact Nat.mod_eq_of_lt hm
  · exact Nat.mod_eq_of_lt hm
theorem dsign_neg {E F m : Nat} (s : Bool) (hm : m < fsgn E F) : fneg E F (dsign E F s m) = (s && decide (0 < m)) := by
  unfold fneg dsign fsgn at *
  by_cases h : s = true ∧ 0 < m
  · rw [if_pos h, Nat.add_comm, Nat.testBit_two_pow_add_eq, Nat.testBit_lt_two_pow hm, h.1, decide_eq_true h.2]; rfl
  · rw [if_neg h, Nat.testBit_lt_two_pow hm]
    cases s
    · rfl
    · have : ¬ 0 < m := fun h9 => h ⟨rfl, h9⟩
      rw [decide_eq_false this]; rfl
theorem dsign_lt {E F m : Nat} (s : Bool) (hE : E ≤ 11) (hF : F ≤ 52) (hm : m < fsgn E F) : dsign E F s m < 18446744073709551616 := by
  have h : 2 ^ (E + F) ≤ 2 ^ 63 := Nat.pow_le_pow_right (by decide) (by omega)
  unfold dsign fsgn at *
  split <;> omega
theorem size_self {E F n : Nat} (hn : n < fsgn E F) : fsize E F n = n := Nat.mod_eq_of_lt hn
theorem neg_self {E F n : Nat} (hn : n < fsgn E F) : fneg E F n = false := Nat.testBit_lt_two_pow hn
theorem qabs_neg (r : Rat) : qabs (-r) = qabs r := by
  unfold qabs
  by_cases h1 : r < 0
  · rw [if_pos h1, if_neg (by grind)]
  · rw [if_neg h1]
    by_cases h2 : -r < 0
    · rw [if_pos h2, Rat.neg_neg]
    · rw [if_neg h2]; grind
theorem fup_neg (E F : Nat) (r : Rat) (n : Nat) : fup E F (-r) n = fup E F r n := by unfold fup; rw [qabs_neg]
theorem fup_le {E F n : Nat} {r : Rat} (hn : n < finf E F) : fup E F r n ≤ finf E F := by unfold fup; split <;> omega
theorem below_lt {E F n : Nat} {r : Rat} (hE : E ≤ 11) (hF : F ≤ 52) (hn : n < finf E F) : (fbelow E F r n).1 < 18446744073709551616 := by
  have h1 : finf E F < fsgn E F := finf_lt E F
  have h2 := fsgn_lt hE hF
  have h3 := fup_le (r := r) hn
  unfold fbelow
  split
  · split
    · exact (by decide : 0 < 18446744073709551616)
    · exact dsign_lt _ hE hF (by omega)
  · show n < _; omega
theorem above_of {E F n x : Nat} {y : Bool} {r : Rat} (hn : n < finf E F) (h : (x, y) = fbelow E F (-r) n) : fabove E F r n = if y then (dsign E F (!fneg E F x) (fsize E F x), true) else (0, false) := by
  have h1 : finf E F < fsgn E F := finf_lt E F
  have h3 := fup_le (r := r) hn
  unfold fbelow at h
  unfold fabove
  rw [fup_neg] at h
  by_cases hr : 0 < r
  · rw [if_pos (by grind)] at h
    rw [if_pos hr]
    by_cases hm : fup E F r n = finf E F
    · rw [if_pos hm] at h ⊢
      cases h; rfl
    · rw [if_neg hm] at h ⊢
      have hml : fup E F r n < fsgn E F := by omega
      cases h
      rw [dsign_neg _ hml, dsign_size _ hml]
      by_cases h0 : 0 < fup E F r n
      · rw [decide_eq_true h0]; simp [dsign]
      · rw [decide_eq_false h0]; simp [dsign, h0]
  · rw [if_neg (by grind)] at h
    rw [if_neg hr]
    cases h
    rw [neg_self (by omega), size_self (by omega)]; rfl
theorem dk_one {E F b : Nat} : dkind E F b = 1 ↔ fsize E F b < finf E F := by
  constructor
  · intro h
    rcases Nat.lt_trichotomy (fsize E F b) (finf E F) with h1 | h1 | h1
    · exact h1
    · rw [(dk_inf h1).1] at h; cases h9 : fneg E F b <;> rw [h9] at h <;> simp at h
    · rw [(dk_nan h1).1] at h; simp at h
  · intro h; exact (dk_fin h).1
theorem fnext_a {E F b : Nat} (hk : dkind E F b = 1) (h1 : fneg E F b = true) (h2 : 0 < fsize E F b) : fnext E F b = (dsign E F true (fsize E F b - 1), true) := by
  unfold fnext; rw [if_pos hk, if_pos ⟨h1, h2⟩]
theorem fnext_b {E F b : Nat} (hk : dkind E F b = 1) (h1 : fneg E F b = false ∨ fsize E F b = 0) (h2 : fsize E F b + 1 = finf E F) : fnext E F b = (0, false) := by
  unfold fnext; rw [if_pos hk, if_neg (fun h => by rcases h1 with h9 | h9 <;> simp [h9] at h), if_pos h2]
theorem fnext_c {E F b : Nat} (hk : dkind E F b = 1) (h1 : fneg E F b = false ∨ fsize E F b = 0) (h2 : ¬ fsize E F b + 1 = finf E F) : fnext E F b = (fsize E F b + 1, true) := by
  unfold fnext; rw [if_pos hk, if_neg (fun h => by rcases h1 with h9 | h9 <;> simp [h9] at h), if_neg h2]
theorem fnext_d {E F b : Nat} (hk : ¬ dkind E F b = 1) : fnext E F b = (0, false) := by
  unfold fnext; rw [if_neg hk]
set_option maxRecDepth 100000 in
set_option maxHeartbeats 1000000 in
/-- Above. -/
theorem above_any (E F n k : Nat) (v : Value) (r : Rat) (w : World) (x9 : Nat) (y9 : Bool) (HXY : Hid ((x9, y9) = fabove E F r n)) (hE2 : 2 ≤ E) (hE : E ≤ 11) (hF1 : 1 ≤ F) (hF : F ≤ 52) (h : QIs w v r) (hqb : QB r k) (hk : k ≤ 80000) (hu : Under E F (qabs r) n) :
    Calls Tryz.prog 11 #[formV (E : Int) (F : Int), v] w fun e w' => e = .returned (.tuple #[.int .u64 (x9 : Int), .bool y9]) ∧ Below w.heap.size w w' := by
  obtain ⟨qB, qxO, qxL, qxC, qyO, qyL, qyC, rfl, hS, hqx, hqy⟩ := h.form
  have HqS := Lib.hid hS; clear hS
  clear hqx hqy
  obtain ⟨w0, hw0⟩ : ∃ w0, w0 = ((w.alloc (.cells #[.int .i64 (E : Int), .int .i64 (F : Int)] 23)).alloc (.cells #[.bool qB, .slice qxO qxL qxC, .slice qyO qyL qyC] 30)) := ⟨_, rfl⟩
  have hbf : Below w.heap.size w w0 := by rw [hw0]; exact (((Below.refl _ w).alloc (Nat.le_refl _) _).alloc (by simp <;> omega) _)
  obtain ⟨pg, hpg⟩ : ∃ p, p = w.heap.size := ⟨_, rfl⟩
  have hbg : Box2 w0 pg (Value.int .i64 (E : Int)) (Value.int .i64 (F : Int)) := by rw [hw0, hpg]; exact ⟨by go_simp, by go_simp, by go_simp, by go_simp⟩
  obtain ⟨pq, hpq⟩ : ∃ p, p = w.heap.size + 1 := ⟨_, rfl⟩
  have hbq : Box3 w0 pq (Value.bool qB) (Value.slice qxO qxL qxC) (Value.slice qyO qyL qyC) := by rw [hw0, hpq]; exact ⟨by go_simp, by go_simp, by go_simp, by go_simp, by go_simp, by go_simp⟩
  have HP : Hid (w.heap.size ≤ pg ∧ pg < pq) := Lib.hid (by omega)
  replace h := h.below hbf
  have HW := Lib.hid hw0; clear hw0
  go_enter Tryz.func11, Tryz.ntmps11
  go_upto_region 1 with fail
  rw [← HW.out, ← hpq, ← hpg]
  clear hpg hpq HW
  have hnI := hu.lt
  have hnqb := hqb.neg
  have hu2 : Under E F (qabs (-r)) n := by rw [qabs_neg]; exact hu
  obtain ⟨x8, hx8⟩ : ∃ x, x = (fbelow E F (-r) n).1 := ⟨_, rfl⟩
  obtain ⟨y8, hy8⟩ : ∃ y, y = (fbelow E F (-r) n).2 := ⟨_, rfl⟩
  have HXY8 : Hid ((x8, y8) = fbelow E F (-r) n) := Lib.hid (by rw [hx8, hy8])
  have hx64 : x8 < 18446744073709551616 := by rw [hx8]; exact below_lt hE hF hnI
  have HA := Lib.hid (above_of hnI HXY8.out)
  clear hx8 hy8
  have eg0 := hbg.c0
  have eg1 := hbg.c1
  have eq0 := hbq.c0
  have eq1 := hbq.c1
  have eq2 := hbq.c2
  go_wp2_with fail
  clear eg0 eg1 eq0 eq1 eq2
  refine wp_region_seqQ (S := fun w' => Box2 w' pg (Value.int .i64 (E : Int)) (Value.int .i64 (F : Int)) ∧ Box3 w' pq (Value.bool qB) (Value.slice qxO qxL qxC) (Value.slice qyO qyL qyC)) [(0, 4, some 11), (0, 8, some 12), (2, 4096, some 13), (5, 10240, some 14), (8, 16384, some 10), (16, 1024, some 15), (16, 1024, some 16), (63, 32768, some 6), (255, 65536, some 7)] [(true, 0), (true, 1), (false, 2), (false, 3), (true, 4), (true, 5), (true, 6), (true, 7), (true, 8)] (by kernel_rfl) (by kernel_rfl) (by kernel_rfl) (by kernel_rfl) (by kernel_rfl) (by kernel_rfl) (fun d _ _ _ _ h => by cases d <;> exact h) ⟨hbg.drew, hbq.drew⟩ (fun _ => ?_)
  simp only [pickOps, List.append_eq, List.cons_append, List.nil_append, List.getElem?_toArray, List.getElem?_cons_succ, List.getElem?_cons_zero]
  have hb : Below w0.heap.size w0 w0.drew := (Below.refl _ _).drew
  generalize w0.drew = w1 at hb ⊢
  replace hbg := hbg.kept hb
  replace hbq := hbq.kept hb
  replace h := h.below hb
  replace hbf := hbf.trans (hb.mono hbf.size)
  clear hb
  repeat (first | (refine seq_take (v := ?_) (by rfl) ?_ ?_; rotate_left; (· intro w hSw; (try dsimp only at hSw); obtain ⟨⟨eg0, eg1, _, _⟩, ⟨eq0, eq1, eq2, _, _, _⟩⟩ := hSw; go_simp; all_goals with_reducible rfl); (try simp only [Act.put, List.setIfInBounds_toArray, List.set_cons_zero, List.set_cons_succ])) | (refine seq_leave (by rfl) ?_; (try simp only [Act.put, List.setIfInBounds_toArray, List.set_cons_zero, List.set_cons_succ])))
  refine seq_step (by rfl) (fun K hK => ?_)
  go_simp
  go_at_call 36
  (with_reducible refine (fminus_any _ r k _ h hqb hk).mono ?_)
  rintro e w2 hq9
  obtain ⟨mB, mxO, mxL, mxC, myO, myL, myC, rfl, hS, hmx, hmy, hm, hb⟩ := hq9.out
  have HmS := Lib.hid hS; clear hS
  replace hbg := hbg.kept hb
  replace hbq := hbq.kept hb
  replace h := h.below hb
  replace hbf := hbf.trans (hb.mono hbf.size)
  clear hb
  first | refine hK.out _ _ ⟨hbg, hbq⟩ (fun _ => ?_) | (go_wp2_with fail; refine hK.out _ _ ⟨hbg, hbq⟩ (fun _ => ?_))
  clear hK K
  (try simp only [Act.put, List.setIfInBounds_toArray, List.set_cons_zero, List.set_cons_succ])
  refine seq_step (by rfl) (fun K hK => ?_)
  go_simp
  go_at_call 10
  (with_reducible refine (below_any E F n k _ (-r) _ x8 y8 HXY8 hE2 hE hF1 hF hm hnqb hk hu2).mono ?_)
  rintro e w3 ⟨rfl, hb⟩
  replace hbg := hbg.kept hb
  replace hbq := hbq.kept hb
  replace h := h.below hb
  replace hmx := hmx.below hb
  replace hmy := hmy.below hb
  replace hm := hm.below hb
  replace hbf := hbf.trans (hb.mono hbf.size)
  clear hb
  first | refine hK.out _ _ ⟨hbg, hbq⟩ (fun _ => ?_) | (go_wp2_with fail; refine hK.out _ _ ⟨hbg, hbq⟩ (fun _ => ?_))
  clear hK K
  (try simp only [Act.put, List.setIfInBounds_toArray, List.set_cons_zero, List.set_cons_succ])
  repeat (first | (refine seq_take (v := ?_) (by rfl) ?_ ?_; rotate_left; (· intro w hSw; (try dsimp only at hSw); obtain ⟨⟨eg0, eg1, _, _⟩, ⟨eq0, eq1, eq2, _, _, _⟩⟩ := hSw; go_simp; all_goals with_reducible rfl); (try simp only [Act.put, List.setIfInBounds_toArray, List.set_cons_zero, List.set_cons_succ])) | (refine seq_leave (by rfl) ?_; (try simp only [Act.put, List.setIfInBounds_toArray, List.set_cons_zero, List.set_cons_succ])))
  refine seq_end ?_
  cases y8
  case false =>
    obtain ⟨rfl, rfl⟩ : x9 = 0 ∧ y9 = false := by have := HXY.out; rw [HA.out] at this; exact ⟨congrArg Prod.fst this, congrArg Prod.snd this⟩
    go_wp2_with fail
    go_ret2
    exact ⟨ret_two rfl rfl, hbf⟩
  case true =>
    have eg0 := hbg.c0
    have eg1 := hbg.c1
    go_wp2_with fail
    refine (parts_any E F x8 _ hE hF hx64).mono ?_
    rintro e w4 ⟨rfl, hb⟩
    clear eg0 eg1
    replace hbg := hbg.kept hb
    replace hbq := hbq.kept hb
    replace h := h.below hb
    replace hmx := hmx.below hb
    replace hmy := hmy.below hb
    replace hm := hm.below hb
    replace hbf := hbf.trans (hb.mono hbf.size)
    clear hb
    obtain ⟨rfl, rfl⟩ : x9 = dsign E F (!fneg E F x8) (fsize E F x8) ∧ y9 = true := by have := HXY.out; rw [HA.out] at this; exact ⟨congrArg Prod.fst this, congrArg Prod.snd this⟩
    have hsl := fsize_lt E F x8
    have eg0 := hbg.c0
    have eg1 := hbg.c1
    go_wp2_with fail
    refine (signed_any E F (fsize E F x8) (!fneg E F x8) _ hE hF hsl).mono ?_
    rintro e w5 ⟨rfl, hb⟩
    clear eg0 eg1
    replace hbg := hbg.kept hb
    replace hbq := hbq.kept hb
    replace h := h.below hb
    replace hmx := hmx.below hb
    replace hmy := hmy.below hb
    replace hm := hm.below hb
    replace hbf := hbf.trans (hb.mono hbf.size)
    clear hb
    go_wp2_with fail
    go_ret2
    exact ⟨ret_two rfl rfl, hbf⟩
end Go.Proofs.YtanicapbdigjaaaGreatDoor
