/-
  IeeeOrder: the walk.
-/
import Derived.Test.YtanicapbdigjaaaDoorIeeeE
namespace Go.Proofs.YtanicapbdigjaaaDoor
open Go.RowKit
set_option linter.unusedVariables false
set_option linter.unusedSimpArgs false
attribute [local go_sem] field_nat

theorem size_sign {E F n : Nat} (hn : n < fsgn E F) : fsize E F (n + fsgn E F) = n := by
  unfold fsize fsgn at *; rw [Nat.add_mod_right]; exact Nat.mod_eq_of_lt hn
theorem neg_sign {E F n : Nat} (hn : n < fsgn E F) : fneg E F (n + fsgn E F) = true := by
  unfold fneg fsgn at *; rw [Nat.add_comm, Nat.testBit_two_pow_add_eq, Nat.testBit_lt_two_pow hn]; rfl
theorem or_sign {E F n : Nat} (hE : E ≤ 11) (hF : F ≤ 52) (hn : n < fsgn E F) : bits .or .u64 (n : Int) (fsgn E F : Int) = ((n + fsgn E F : Nat) : Int) := or_top hn (by omega)
theorem order_nan {E F n : Nat} (hn : n < fsgn E F) (h : finf E F < n) : dkind E F n = 4 ∧ dkind E F (n + fsgn E F) = 4 :=
  ⟨(dk_nan (by rw [size_self hn]; exact h)).1, (dk_nan (by rw [size_sign hn]; exact h)).1⟩
theorem order_inf {E F n : Nat} (hn : n < fsgn E F) (h : n = finf E F) : dkind E F n = 2 ∧ dkind E F (n + fsgn E F) = 3 := by
  have h1 := dk_inf (E := E) (F := F) (b := n) (by rw [size_self hn]; exact h)
  have h2 := dk_inf (E := E) (F := F) (b := n + fsgn E F) (by rw [size_sign hn]; exact h)
  rw [neg_self hn] at h1
  rw [neg_sign hn] at h2
  exact ⟨h1.1, h2.1⟩
theorem order_fin {E F n : Nat} (hn : n < fsgn E F) (h : n < finf E F) : (dkind E F n = 1 ∧ dval' E F n = fval E F n) ∧ (dkind E F (n + fsgn E F) = 1 ∧ dval' E F (n + fsgn E F) = 0 - fval E F n) := by
  have h1 := dk_fin (E := E) (F := F) (b := n) (by rw [size_self hn]; exact h)
  have h2 := dk_fin (E := E) (F := F) (b := n + fsgn E F) (by rw [size_sign hn]; exact h)
  rw [neg_self hn, size_self hn] at h1
  rw [neg_sign hn, size_sign hn] at h2
  refine ⟨⟨h1.1, h1.2⟩, h2.1, ?_⟩
  rw [h2.2, if_pos rfl, Rat.sub_eq_add_neg, Rat.zero_add]
theorem decode_x (E F b : Nat) (x : Int) (w : World) (hx : x = b) (hE2 : 2 ≤ E) (hE : E ≤ 11) (hF1 : 1 ≤ F) (hF : F ≤ 52) (hb64 : b < 18446744073709551616) :
    Calls Tryd.prog 10 #[formV (E : Int) (F : Int), .int .u64 x] w (QPostC w (dval' E F b) (dkind E F b)) := by
  rw [hx]; exact decode_any E F b w hE2 hE hF1 hF hb64
/-- The forms that most laws look at. -/
def Looked (x : Int) (E F : Nat) : Prop := x = 0 ∧ E = 8 ∧ F = 23 ∨ x = 2 ∧ E = 4 ∧ F = 3
theorem Looked.ok {x : Int} {E F : Nat} (h : Looked x E F) : 2 ≤ E ∧ E ≤ 8 ∧ 1 ≤ F ∧ F ≤ 23 := by
  rcases h with ⟨_, rfl, rfl⟩ | ⟨_, rfl, rfl⟩ <;> decide
theorem looked (how : Int) : ∃ E F, Looked (bits .and .i64 how 2) E F := by
  rcases and_two_i how with h | h
  · exact ⟨8, 23, .inl ⟨h, rfl, rfl⟩⟩
  · exact ⟨4, 3, .inr ⟨h, rfl, rfl⟩⟩
theorem form_fix (x : Int) (E F : Nat) (w : World) (hx : Hid (Looked x E F)) : Calls Tryd.prog 9 #[.int .i64 x, .int .i64 0, .int .i64 0] w fun e w' => e = .returned (formV (E : Int) (F : Int)) ∧ Below w.heap.size w w' := by
  rcases hx.out with ⟨rfl, rfl, rfl⟩ | ⟨rfl, rfl, rfl⟩
  · exact form_any 0 0 0 w
  · exact form_any 2 0 0 w
theorem lt_cmp {E F n m : Nat} : (qcmp (fval E F n) (fval E F m) < 0) ↔ n < m := by
  unfold qcmp
  constructor
  · intro h
    split at h
    · rename_i h1; exact fval_lt.1 h1
    · split at h <;> simp at h
  · intro h; rw [if_pos (fval_lt.2 h)]; decide

set_option maxRecDepth 100000 in
set_option maxHeartbeats 1000000 in
/-- IeeeOrder. -/
theorem ieeeOrder_main (how : Int) (E F a b : Nat) (w : World) (HL : Hid (Looked (bits .and .i64 how 2) E F)) (ha64 : a < 18446744073709551616) (hb64 : b < 18446744073709551616) :
    Calls Tryd.prog 4 #[.int .i64 how, .int .u64 (a : Int), .int .u64 (b : Int)] w fun e w' => e = .returned (.bool true) ∧ Below w.heap.size w w' := by
  have hE2 := HL.out.ok.1
  have hE : E ≤ 11 := by have := HL.out.ok.2.1; omega
  have hF1 := HL.out.ok.2.2.1
  have hF : F ≤ 52 := by have := HL.out.ok.2.2.2; omega
  go_enter Tryd.func4, Tryd.ntmps4
  go_wp2_with fail
  refine (alive4_any _).mono ?_
  rintro e w1 ⟨rfl, hb⟩
  have hbf := hb
  clear hb
  go_wp2_with fail
  refine (form_fix _ E F _ HL).mono ?_
  rintro e w2 ⟨rfl, hb⟩
  replace hbf := hbf.trans (hb.mono hbf.size)
  clear hb
  obtain ⟨w3, hwE⟩ : ∃ W, W = (w2.alloc (.cells #[.int .i64 (E : Int), .int .i64 (F : Int)] 25)) := ⟨_, rfl⟩
  have hb : Below w2.heap.size w2 w3 := by rw [hwE]; exact ((Below.refl _ w2).alloc (Nat.le_refl _) _)
  obtain ⟨pg, hpg⟩ : ∃ p, p = w2.heap.size := ⟨_, rfl⟩
  have hbg : Box2 w3 pg (Value.int .i64 (E : Int)) (Value.int .i64 (F : Int)) := by rw [hwE, hpg]; exact ⟨by go_simp, by go_simp, by go_simp, by go_simp⟩
  have HP : Hid (w.heap.size ≤ pg) := Lib.hid (by have h9 := hbf.size; omega)
  have HW := Lib.hid hwE; clear hwE
  go_upto_region 4 with fail
  rw [← HW.out, ← hpg]
  clear hpg HW
  replace hbf := hbf.trans (hb.mono hbf.size)
  clear hb
  have eg0 := hbg.c0
  have eg1 := hbg.c1
  go_upto_region 5 with fail
  rw [wrap_fsgn hE hF]
  go_upto_region 6 with fail
  rw [and_fsize hE hF ha64, and_fsize hE hF hb64]
  clear eg0 eg1
  obtain ⟨n, hn⟩ : ∃ n, n = fsize E F a := ⟨_, rfl⟩
  obtain ⟨m, hm⟩ : ∃ m, m = fsize E F b := ⟨_, rfl⟩
  have hnl : n < fsgn E F := by rw [hn]; exact fsize_lt _ _ _
  have hml : m < fsgn E F := by rw [hm]; exact fsize_lt _ _ _
  have hSl := fsgn_lt hE hF
  have hS63 : fsgn E F ≤ 9223372036854775808 := fsgn_63 hE hF
  rw [← hn, ← hm]
  clear hn hm
  have eg0 := hbg.c0
  have eg1 := hbg.c1
  go_wp2_with fail
  refine (decode_any E F n _ hE2 hE hF1 hF (by omega)).mono ?_
  rintro e w4 hq9
  obtain ⟨xB, xxO, xxL, xxC, xyO, xyL, xyC, rfl, hS, hxx, hxy, hx, hb⟩ := hq9.out
  have HxS := Lib.hid hS; clear hS
  clear eg0 eg1
  replace hbg := hbg.kept hb
  replace hbf := hbf.trans (hb.mono hbf.size)
  clear hb
  obtain ⟨w5, hwE⟩ : ∃ W, W = (w4.alloc (.cells #[.bool xB, .slice xxO xxL xxC, .slice xyO xyL xyC] 31)) := ⟨_, rfl⟩
  have hb : Below w4.heap.size w4 w5 := by rw [hwE]; exact ((Below.refl _ w4).alloc (Nat.le_refl _) _)
  obtain ⟨pr, hpr⟩ : ∃ p, p = w4.heap.size := ⟨_, rfl⟩
  have hbr : Box3 w5 pr (Value.bool xB) (Value.slice xxO xxL xxC) (Value.slice xyO xyL xyC) := by rw [hwE, hpr]; exact ⟨by go_simp, by go_simp, by go_simp, by go_simp, by go_simp, by go_simp⟩
  replace HP : Hid (w.heap.size ≤ pg ∧ pg < pr) := Lib.hid (by have h1 := HP.out; have h9 := hbf.size; have h2g := hbg.lt; omega)
  have HW := Lib.hid hwE; clear hwE
  go_upto_region 7 with fail
  rw [← HW.out, ← hpr]
  clear hpr HW
  replace hbg := hbg.kept hb
  replace hxx := hxx.below hb
  replace hxy := hxy.below hb
  replace hx := hx.below hb
  replace hbf := hbf.trans (hb.mono hbf.size)
  clear hb
  have eg0 := hbg.c0
  have eg1 := hbg.c1
  go_wp2_with fail
  refine (decode_any E F m _ hE2 hE hF1 hF (by omega)).mono ?_
  rintro e w6 hq9
  obtain ⟨yB, yxO, yxL, yxC, yyO, yyL, yyC, rfl, hS, hyx, hyy, hy, hb⟩ := hq9.out
  have HyS := Lib.hid hS; clear hS
  clear eg0 eg1
  replace hbg := hbg.kept hb
  replace hbr := hbr.kept hb
  replace hxx := hxx.below hb
  replace hxy := hxy.below hb
  replace hx := hx.below hb
  replace hbf := hbf.trans (hb.mono hbf.size)
  clear hb
  obtain ⟨w7, hwE⟩ : ∃ W, W = (w6.alloc (.cells #[.bool yB, .slice yxO yxL yxC, .slice yyO yyL yyC] 31)) := ⟨_, rfl⟩
  have hb : Below w6.heap.size w6 w7 := by rw [hwE]; exact ((Below.refl _ w6).alloc (Nat.le_refl _) _)
  obtain ⟨ps, hps⟩ : ∃ p, p = w6.heap.size := ⟨_, rfl⟩
  have hbs : Box3 w7 ps (Value.bool yB) (Value.slice yxO yxL yxC) (Value.slice yyO yyL yyC) := by rw [hwE, hps]; exact ⟨by go_simp, by go_simp, by go_simp, by go_simp, by go_simp, by go_simp⟩
  replace HP : Hid (w.heap.size ≤ pg ∧ pg < pr ∧ pr < ps) := Lib.hid (by have h1 := HP.out; have h9 := hbf.size; have h2r := hbr.lt; omega)
  have HW := Lib.hid hwE; clear hwE
  go_upto_region 8 with fail
  rw [← HW.out, ← hps]
  clear hps HW
  replace hbg := hbg.kept hb
  replace hbr := hbr.kept hb
  replace hxx := hxx.below hb
  replace hxy := hxy.below hb
  replace hx := hx.below hb
  replace hyx := hyx.below hb
  replace hyy := hyy.below hb
  replace hy := hy.below hb
  replace hbf := hbf.trans (hb.mono hbf.size)
  clear hb
  have eg0 := hbg.c0
  have eg1 := hbg.c1
  go_wp2_with fail
  refine (decode_x E F (n + fsgn E F) _ _ (or_sign hE hF hnl) hE2 hE hF1 hF (by omega)).mono ?_
  rintro e w8 hq9
  obtain ⟨zB, zxO, zxL, zxC, zyO, zyL, zyC, rfl, hS, hzx, hzy, hz, hb⟩ := hq9.out
  have HzS := Lib.hid hS; clear hS
  clear eg0 eg1
  replace hbg := hbg.kept hb
  replace hbr := hbr.kept hb
  replace hbs := hbs.kept hb
  replace hxx := hxx.below hb
  replace hxy := hxy.below hb
  replace hx := hx.below hb
  replace hyx := hyx.below hb
  replace hyy := hyy.below hb
  replace hy := hy.below hb
  replace hbf := hbf.trans (hb.mono hbf.size)
  clear hb
  obtain ⟨w9, hwE⟩ : ∃ W, W = (w8.alloc (.cells #[.bool zB, .slice zxO zxL zxC, .slice zyO zyL zyC] 31)) := ⟨_, rfl⟩
  have hb : Below w8.heap.size w8 w9 := by rw [hwE]; exact ((Below.refl _ w8).alloc (Nat.le_refl _) _)
  obtain ⟨pv, hpv⟩ : ∃ p, p = w8.heap.size := ⟨_, rfl⟩
  have hbv : Box3 w9 pv (Value.bool zB) (Value.slice zxO zxL zxC) (Value.slice zyO zyL zyC) := by rw [hwE, hpv]; exact ⟨by go_simp, by go_simp, by go_simp, by go_simp, by go_simp, by go_simp⟩
  replace HP : Hid (w.heap.size ≤ pg ∧ pg < pr ∧ pr < ps ∧ ps < pv) := Lib.hid (by have h1 := HP.out; have h9 := hbf.size; have h2s := hbs.lt; omega)
  have HW := Lib.hid hwE; clear hwE
  go_upto_region 9 with fail
  rw [← HW.out, ← hpv]
  clear hpv HW
  replace hbg := hbg.kept hb
  replace hbr := hbr.kept hb
  replace hbs := hbs.kept hb
  replace hxx := hxx.below hb
  replace hxy := hxy.below hb
  replace hx := hx.below hb
  replace hyx := hyx.below hb
  replace hyy := hyy.below hb
  replace hy := hy.below hb
  replace hzx := hzx.below hb
  replace hzy := hzy.below hb
  replace hz := hz.below hb
  replace hbf := hbf.trans (hb.mono hbf.size)
  clear hb
  refine wp_region_seqQ (S := fun w' => Box2 w' pg (Value.int .i64 (E : Int)) (Value.int .i64 (F : Int))) [(0, 128, some 55), (1, 36028797018963968, some 56), (2, 72057594037927936, some 57), (4, 144115188075855872, some 58), (0, 128, some 59), (16, 576460752303423488, some 60), (40, 1441151880758558720, some 61), (127, 2305843009213693952, some 15)] [(true, 0), (true, 1), (true, 2), (true, 3), (true, 4), (true, 5), (true, 6), (true, 7)] (by kernel_rfl) (by kernel_rfl) (by kernel_rfl) (by kernel_rfl) (by kernel_rfl) (by kernel_rfl) (fun d _ _ _ _ h => by cases d <;> exact h) hbg.drew (fun _ => ?_)
  simp only [pickOps, List.append_eq, List.cons_append, List.nil_append, List.getElem?_toArray, List.getElem?_cons_succ, List.getElem?_cons_zero]
  have hb : Below w9.heap.size w9 w9.drew := (Below.refl _ _).drew
  generalize w9.drew = w10 at hb ⊢
  replace hbg := hbg.kept hb
  replace hbr := hbr.kept hb
  replace hbs := hbs.kept hb
  replace hbv := hbv.kept hb
  replace hxx := hxx.below hb
  replace hxy := hxy.below hb
  replace hx := hx.below hb
  replace hyx := hyx.below hb
  replace hyy := hyy.below hb
  replace hy := hy.below hb
  replace hzx := hzx.below hb
  replace hzy := hzy.below hb
  replace hz := hz.below hb
  replace hbf := hbf.trans (hb.mono hbf.size)
  clear hb
  repeat (first | (refine seq_take (v := ?_) (by rfl) ?_ ?_; rotate_left; (· intro w hSw; (try dsimp only at hSw); obtain ⟨eg0, eg1, _, _⟩ := hSw; go_simp; all_goals with_reducible rfl); (try simp only [Act.put, List.setIfInBounds_toArray, List.set_cons_zero, List.set_cons_succ])) | (refine seq_leave (by rfl) ?_; (try simp only [Act.put, List.setIfInBounds_toArray, List.set_cons_zero, List.set_cons_succ])))
  refine seq_end ?_
  rw [wrap_finf hE hF]
  obtain ⟨i, hi⟩ : ∃ i, i = finf E F := ⟨_, rfl⟩
  rw [← hi]
  rcases Nat.lt_trichotomy n i with h1 | h1 | h1
  · skip
    have hk := order_fin hnl (by rw [← hi]; exact h1)
    rw [hk.1.1, hk.2.1]
    rw [hk.1.2] at hx
    rw [hk.2.2] at hz
    have HI := Lib.hid hi; clear hi
    have hlt : n < finf E F := by rw [← HI.out]; exact h1
    have hvq := fval_qb hE hF hlt
    have h0q := (QB.zero 1 (by decide)).sub hvq
    clear hk
    have hc1 : decide (((n : Nat) : Int) < (i : Int)) = true := decide_eq_true (by omega)
    have hc3 : decide ((i : Int) < ((n : Nat) : Int)) = false := decide_eq_false (by omega)
    have hc2 : (((n : Nat) : Int) == (i : Int)) = false := by rw [beq_eq_false_iff_ne, ne_eq]; omega
    go_wp2_with fail
    refine wp_region_seqQ (S := fun w' => Box3 w' pr (Value.bool xB) (Value.slice xxO xxL xxC) (Value.slice xyO xyL xyC) ∧ Box3 w' pv (Value.bool zB) (Value.slice zxO zxL zxC) (Value.slice zyO zyL zyC)) [(0, 1024, some 84), (1, 19342813113834066795298816, some 85), (2, 38685626227668133590597632, some 86), (4, 77371252455336267181211648, some 87), (12, 232113757366008801543585792, some 88), (20, 386856262276681335905976320, some 89), (32, 618970019642690137449570304, some 90), (32, 618970019642690137449562112, some 91), (32, 618970019642690137449562624, some 92), (416, 8046610255354971786844307456, some 93), (608, 11760430373211112611541680128, some 94), (1056, 20426010648208774535835549696, some 95), (2084, 40310422529230195201402732544, some 96), (4100, 79305533766719673860725145600, some 97), (9216, 158456325028528675187087900672, some 98), (16384, 316912650057057350374175802368, some 99), (49152, 950737950171172051122527404032, some 100), (81920, 1584563250285286751870879006720, some 101), (131072, 2535301200456458802993406427136, some 102), (393216, 7605903601369376408980219232256, some 103), (671744, 12993418652339351365341207855104, some 104), (1064960, 20599322253708727774321427087360, some 105), (2228224, 40564819207303340847894502572032, some 106), (4194304, 81129638414606681695789005145088, some 107), (12582912, 243388915243820045087367015432192, some 108), (20971520, 405648192073033408478945025720320, some 109), (33554432, 649037107316853453566312041168896, some 110), (100663296, 1947111321950560360698936123457536, some 111), (171966464, 3326315174998873949527349210906624, some 112), (272629760, 5273426496949434310226285334364160, some 113)] [(true, 0), (true, 1), (true, 2), (true, 3), (true, 4), (true, 5), (true, 6), (true, 7), (true, 8), (false, 9), (false, 10), (true, 11), (true, 12), (true, 13), (true, 14), (true, 15), (true, 16), (true, 17), (true, 18), (true, 19), (true, 20), (true, 21), (true, 22), (true, 23), (true, 24), (true, 25), (true, 26), (true, 27), (true, 28), (true, 29)] (by kernel_rfl) (by kernel_rfl) (by kernel_rfl) (by kernel_rfl) (by kernel_rfl) (by kernel_rfl) (fun d _ _ _ _ h => by cases d <;> exact h) ⟨hbr.drew, hbv.drew⟩ (fun _ => ?_)
    simp only [pickOps, List.append_eq, List.cons_append, List.nil_append, List.getElem?_toArray, List.getElem?_cons_succ, List.getElem?_cons_zero]
    have hb : Below w10.heap.size w10 w10.drew := (Below.refl _ _).drew
    generalize w10.drew = w11 at hb ⊢
    replace hbg := hbg.kept hb
    replace hbr := hbr.kept hb
    replace hbs := hbs.kept hb
    replace hbv := hbv.kept hb
    replace hxx := hxx.below hb
    replace hxy := hxy.below hb
    replace hx := hx.below hb
    replace hyx := hyx.below hb
    replace hyy := hyy.below hb
    replace hy := hy.below hb
    replace hzx := hzx.below hb
    replace hzy := hzy.below hb
    replace hz := hz.below hb
    replace hbf := hbf.trans (hb.mono hbf.size)
    clear hb
    repeat (first | (refine seq_take (v := ?_) (by rfl) ?_ ?_; rotate_left; (· intro w hSw; (try dsimp only at hSw); obtain ⟨⟨er0, er1, er2, _, _, _⟩, ⟨ev0, ev1, ev2, _, _, _⟩⟩ := hSw; go_simp; all_goals with_reducible rfl); (try simp only [Act.put, List.setIfInBounds_toArray, List.set_cons_zero, List.set_cons_succ])) | (refine seq_leave (by rfl) ?_; (try simp only [Act.put, List.setIfInBounds_toArray, List.set_cons_zero, List.set_cons_succ])))
    refine seq_step (by rfl) (fun K hK => ?_)
    go_simp
    go_at_call 17
    (with_reducible refine (qsub_any _ _ 0 (fval E F n) 1 66 _ (QIs.zero _) hx (QB.zero 1 (by decide)) hvq (by decide)).mono ?_)
    rintro e w12 hq9
    obtain ⟨uB, uxO, uxL, uxC, uyO, uyL, uyC, rfl, hS, hux, huy, hu, hb⟩ := hq9.out
    have HuS := Lib.hid hS; clear hS
    replace hbg := hbg.kept hb
    replace hbr := hbr.kept hb
    replace hbs := hbs.kept hb
    replace hbv := hbv.kept hb
    replace hxx := hxx.below hb
    replace hxy := hxy.below hb
    replace hx := hx.below hb
    replace hyx := hyx.below hb
    replace hyy := hyy.below hb
    replace hy := hy.below hb
    replace hzx := hzx.below hb
    replace hzy := hzy.below hb
    replace hz := hz.below hb
    replace hbf := hbf.trans (hb.mono hbf.size)
    clear hb
    first | refine hK.out _ _ ⟨hbr, hbv⟩ (fun _ => ?_) | (go_wp2_with fail; refine hK.out _ _ ⟨hbr, hbv⟩ (fun _ => ?_))
    clear hK K
    (try simp only [Act.put, List.setIfInBounds_toArray, List.set_cons_zero, List.set_cons_succ])
    refine seq_step (by rfl) (fun K hK => ?_)
    go_simp
    go_at_call 16
    (with_reducible refine (same_s _ _ (0 - fval E F n) (0 - fval E F n) true (1 + 66 + 1) (1 + 66 + 1) _ hz hu h0q h0q (by decide) (Lib.hid (decide_eq_true rfl))).mono ?_)
    rintro e w13 ⟨rfl, hb⟩
    replace hbg := hbg.kept hb
    replace hbr := hbr.kept hb
    replace hbs := hbs.kept hb
    replace hbv := hbv.kept hb
    replace hxx := hxx.below hb
    replace hxy := hxy.below hb
    replace hx := hx.below hb
    replace hyx := hyx.below hb
    replace hyy := hyy.below hb
    replace hy := hy.below hb
    replace hzx := hzx.below hb
    replace hzy := hzy.below hb
    replace hz := hz.below hb
    replace hux := hux.below hb
    replace huy := huy.below hb
    replace hu := hu.below hb
    replace hbf := hbf.trans (hb.mono hbf.size)
    clear hb
    first | refine hK.out _ _ ⟨hbr, hbv⟩ (fun _ => ?_) | (go_wp2_with fail; refine hK.out _ _ ⟨hbr, hbv⟩ (fun _ => ?_))
    clear hK K
    (try simp only [Act.put, List.setIfInBounds_toArray, List.set_cons_zero, List.set_cons_succ])
    repeat (first | (refine seq_take (v := ?_) (by rfl) ?_ ?_; rotate_left; (· intro w hSw; (try dsimp only at hSw); obtain ⟨⟨er0, er1, er2, _, _, _⟩, ⟨ev0, ev1, ev2, _, _, _⟩⟩ := hSw; go_simp; all_goals with_reducible rfl); (try simp only [Act.put, List.setIfInBounds_toArray, List.set_cons_zero, List.set_cons_succ])) | (refine seq_leave (by rfl) ?_; (try simp only [Act.put, List.setIfInBounds_toArray, List.set_cons_zero, List.set_cons_succ])))
    refine seq_end ?_
    by_cases h2 : m < finf E F
    case pos =>
      have hkm := order_fin hml h2
      rw [hkm.1.1]
      rw [hkm.1.2] at hy
      have hwq := fval_qb hE hF h2
      clear hkm
      have er0 := hbr.c0
      have er1 := hbr.c1
      have er2 := hbr.c2
      have es0 := hbs.c0
      have es1 := hbs.c1
      have es2 := hbs.c2
      go_wp2_with fail
      refine (qcmp_any _ _ (fval E F n) (fval E F m) 66 66 _ hx hy hvq hwq (by decide)).mono ?_
      rintro e w14 ⟨rfl, hb⟩
      clear er0 er1 er2 es0 es1 es2
      replace hbg := hbg.kept hb
      replace hbr := hbr.kept hb
      replace hbs := hbs.kept hb
      replace hbv := hbv.kept hb
      replace hxx := hxx.below hb
      replace hxy := hxy.below hb
      replace hx := hx.below hb
      replace hyx := hyx.below hb
      replace hyy := hyy.below hb
      replace hy := hy.below hb
      replace hzx := hzx.below hb
      replace hzy := hzy.below hb
      replace hz := hz.below hb
      replace hux := hux.below hb
      replace huy := huy.below hb
      replace hu := hu.below hb
      replace hbf := hbf.trans (hb.mono hbf.size)
      clear hb
      have hlast : decide (qcmp (fval E F n) (fval E F m) < 0) = decide ((n : Int) < (m : Int)) := by have h9 := lt_cmp (E := E) (F := F) (n := n) (m := m); by_cases h8 : n < m <;> simp [h9, h8]
      go_wp2_with fail
      go_ret
      exact ⟨rfl, hbf⟩
    case neg =>
      have hkm : ¬ dkind E F m = 1 := fun h9 => h2 (by have := dk_one.1 h9; rwa [size_self hml] at this)
      generalize dkind E F m = km at *
      have hkb : (km == 1) = false := by rw [beq_eq_false_iff_ne]; exact hkm
      have hkb2 : (km != 1) = true := by rw [bne, hkb]; rfl
      go_wp2_with fail
      go_ret
      exact ⟨rfl, hbf⟩
  · skip
    subst h1
    have hk := order_inf hnl hi
    rw [hk.1, hk.2]
    have HI := Lib.hid hi; clear hi
    clear hk
    have hc1 : decide (((n : Nat) : Int) < (n : Int)) = false := decide_eq_false (by omega)
    have hc3 : decide ((n : Int) < ((n : Nat) : Int)) = false := decide_eq_false (by omega)
    have hc2 : (((n : Nat) : Int) == (n : Int)) = true := beq_self_eq_true _
    go_wp2_with fail
    refine wp_region_seqQ (S := fun w' => Box3 w' pr (Value.bool xB) (Value.slice xxO xxL xxC) (Value.slice xyO xyL xyC) ∧ Box3 w' pv (Value.bool zB) (Value.slice zxO zxL zxC) (Value.slice zyO zyL zyC)) [(0, 1024, some 84), (1, 19342813113834066795298816, some 85), (2, 38685626227668133590597632, some 86), (4, 77371252455336267181211648, some 87), (12, 232113757366008801543585792, some 88), (20, 386856262276681335905976320, some 89), (32, 618970019642690137449570304, some 90), (32, 618970019642690137449562112, some 91), (32, 618970019642690137449562624, some 92), (416, 8046610255354971786844307456, some 93), (608, 11760430373211112611541680128, some 94), (1056, 20426010648208774535835549696, some 95), (2084, 40310422529230195201402732544, some 96), (4100, 79305533766719673860725145600, some 97), (9216, 158456325028528675187087900672, some 98), (16384, 316912650057057350374175802368, some 99), (49152, 950737950171172051122527404032, some 100), (81920, 1584563250285286751870879006720, some 101), (131072, 2535301200456458802993406427136, some 102), (393216, 7605903601369376408980219232256, some 103), (671744, 12993418652339351365341207855104, some 104), (1064960, 20599322253708727774321427087360, some 105), (2228224, 40564819207303340847894502572032, some 106), (4194304, 81129638414606681695789005145088, some 107), (12582912, 243388915243820045087367015432192, some 108), (20971520, 405648192073033408478945025720320, some 109), (33554432, 649037107316853453566312041168896, some 110), (100663296, 1947111321950560360698936123457536, some 111), (171966464, 3326315174998873949527349210906624, some 112), (272629760, 5273426496949434310226285334364160, some 113)] [(true, 0), (true, 1), (true, 2), (true, 3), (true, 4), (true, 5), (true, 6), (true, 7), (true, 8), (false, 9), (false, 10), (true, 11), (true, 12), (true, 13), (true, 14), (true, 15), (true, 16), (true, 17), (true, 18), (true, 19), (true, 20), (true, 21), (true, 22), (true, 23), (true, 24), (true, 25), (true, 26), (true, 27), (true, 28), (true, 29)] (by kernel_rfl) (by kernel_rfl) (by kernel_rfl) (by kernel_rfl) (by kernel_rfl) (by kernel_rfl) (fun d _ _ _ _ h => by cases d <;> exact h) ⟨hbr.drew, hbv.drew⟩ (fun _ => ?_)
    simp only [pickOps, List.append_eq, List.cons_append, List.nil_append, List.getElem?_toArray, List.getElem?_cons_succ, List.getElem?_cons_zero]
    have hb : Below w10.heap.size w10 w10.drew := (Below.refl _ _).drew
    generalize w10.drew = w11 at hb ⊢
    replace hbg := hbg.kept hb
    replace hbr := hbr.kept hb
    replace hbs := hbs.kept hb
    replace hbv := hbv.kept hb
    replace hxx := hxx.below hb
    replace hxy := hxy.below hb
    replace hx := hx.below hb
    replace hyx := hyx.below hb
    replace hyy := hyy.below hb
    replace hy := hy.below hb
    replace hzx := hzx.below hb
    replace hzy := hzy.below hb
    replace hz := hz.below hb
    replace hbf := hbf.trans (hb.mono hbf.size)
    clear hb
    repeat (first | (refine seq_take (v := ?_) (by rfl) ?_ ?_; rotate_left; (· intro w hSw; (try dsimp only at hSw); obtain ⟨⟨er0, er1, er2, _, _, _⟩, ⟨ev0, ev1, ev2, _, _, _⟩⟩ := hSw; go_simp; all_goals with_reducible rfl); (try simp only [Act.put, List.setIfInBounds_toArray, List.set_cons_zero, List.set_cons_succ])) | (refine seq_leave (by rfl) ?_; (try simp only [Act.put, List.setIfInBounds_toArray, List.set_cons_zero, List.set_cons_succ])))
    refine seq_pass (by rfl) ⟨hbr, hbv⟩ ?_
    (try simp only [Act.put, List.setIfInBounds_toArray, List.set_cons_zero, List.set_cons_succ])
    refine seq_pass (by rfl) ⟨hbr, hbv⟩ ?_
    (try simp only [Act.put, List.setIfInBounds_toArray, List.set_cons_zero, List.set_cons_succ])
    repeat (first | (refine seq_take (v := ?_) (by rfl) ?_ ?_; rotate_left; (· intro w hSw; (try dsimp only at hSw); obtain ⟨⟨er0, er1, er2, _, _, _⟩, ⟨ev0, ev1, ev2, _, _, _⟩⟩ := hSw; go_simp; all_goals with_reducible rfl); (try simp only [Act.put, List.setIfInBounds_toArray, List.set_cons_zero, List.set_cons_succ])) | (refine seq_leave (by rfl) ?_; (try simp only [Act.put, List.setIfInBounds_toArray, List.set_cons_zero, List.set_cons_succ])))
    refine seq_end ?_
    go_wp2_with fail
    go_ret
    exact ⟨rfl, hbf⟩
  · skip
    have hk := order_nan hnl (by rw [← hi]; exact h1)
    rw [hk.1, hk.2]
    have HI := Lib.hid hi; clear hi
    clear hk
    have hc1 : decide (((n : Nat) : Int) < (i : Int)) = false := decide_eq_false (by omega)
    have hc3 : decide ((i : Int) < ((n : Nat) : Int)) = true := decide_eq_true (by omega)
    have hc2 : (((n : Nat) : Int) == (i : Int)) = false := by rw [beq_eq_false_iff_ne, ne_eq]; omega
    go_wp2_with fail
    refine wp_region_seqQ (S := fun w' => Box3 w' pr (Value.bool xB) (Value.slice xxO xxL xxC) (Value.slice xyO xyL xyC) ∧ Box3 w' pv (Value.bool zB) (Value.slice zxO zxL zxC) (Value.slice zyO zyL zyC)) [(0, 1024, some 84), (1, 19342813113834066795298816, some 85), (2, 38685626227668133590597632, some 86), (4, 77371252455336267181211648, some 87), (12, 232113757366008801543585792, some 88), (20, 386856262276681335905976320, some 89), (32, 618970019642690137449570304, some 90), (32, 618970019642690137449562112, some 91), (32, 618970019642690137449562624, some 92), (416, 8046610255354971786844307456, some 93), (608, 11760430373211112611541680128, some 94), (1056, 20426010648208774535835549696, some 95), (2084, 40310422529230195201402732544, some 96), (4100, 79305533766719673860725145600, some 97), (9216, 158456325028528675187087900672, some 98), (16384, 316912650057057350374175802368, some 99), (49152, 950737950171172051122527404032, some 100), (81920, 1584563250285286751870879006720, some 101), (131072, 2535301200456458802993406427136, some 102), (393216, 7605903601369376408980219232256, some 103), (671744, 12993418652339351365341207855104, some 104), (1064960, 20599322253708727774321427087360, some 105), (2228224, 40564819207303340847894502572032, some 106), (4194304, 81129638414606681695789005145088, some 107), (12582912, 243388915243820045087367015432192, some 108), (20971520, 405648192073033408478945025720320, some 109), (33554432, 649037107316853453566312041168896, some 110), (100663296, 1947111321950560360698936123457536, some 111), (171966464, 3326315174998873949527349210906624, some 112), (272629760, 5273426496949434310226285334364160, some 113)] [(true, 0), (true, 1), (true, 2), (true, 3), (true, 4), (true, 5), (true, 6), (true, 7), (true, 8), (false, 9), (false, 10), (true, 11), (true, 12), (true, 13), (true, 14), (true, 15), (true, 16), (true, 17), (true, 18), (true, 19), (true, 20), (true, 21), (true, 22), (true, 23), (true, 24), (true, 25), (true, 26), (true, 27), (true, 28), (true, 29)] (by kernel_rfl) (by kernel_rfl) (by kernel_rfl) (by kernel_rfl) (by kernel_rfl) (by kernel_rfl) (fun d _ _ _ _ h => by cases d <;> exact h) ⟨hbr.drew, hbv.drew⟩ (fun _ => ?_)
    simp only [pickOps, List.append_eq, List.cons_append, List.nil_append, List.getElem?_toArray, List.getElem?_cons_succ, List.getElem?_cons_zero]
    have hb : Below w10.heap.size w10 w10.drew := (Below.refl _ _).drew
    generalize w10.drew = w11 at hb ⊢
    replace hbg := hbg.kept hb
    replace hbr := hbr.kept hb
    replace hbs := hbs.kept hb
    replace hbv := hbv.kept hb
    replace hxx := hxx.below hb
    replace hxy := hxy.below hb
    replace hx := hx.below hb
    replace hyx := hyx.below hb
    replace hyy := hyy.below hb
    replace hy := hy.below hb
    replace hzx := hzx.below hb
    replace hzy := hzy.below hb
    replace hz := hz.below hb
    replace hbf := hbf.trans (hb.mono hbf.size)
    clear hb
    repeat (first | (refine seq_take (v := ?_) (by rfl) ?_ ?_; rotate_left; (· intro w hSw; (try dsimp only at hSw); obtain ⟨⟨er0, er1, er2, _, _, _⟩, ⟨ev0, ev1, ev2, _, _, _⟩⟩ := hSw; go_simp; all_goals with_reducible rfl); (try simp only [Act.put, List.setIfInBounds_toArray, List.set_cons_zero, List.set_cons_succ])) | (refine seq_leave (by rfl) ?_; (try simp only [Act.put, List.setIfInBounds_toArray, List.set_cons_zero, List.set_cons_succ])))
    refine seq_pass (by rfl) ⟨hbr, hbv⟩ ?_
    (try simp only [Act.put, List.setIfInBounds_toArray, List.set_cons_zero, List.set_cons_succ])
    refine seq_pass (by rfl) ⟨hbr, hbv⟩ ?_
    (try simp only [Act.put, List.setIfInBounds_toArray, List.set_cons_zero, List.set_cons_succ])
    repeat (first | (refine seq_take (v := ?_) (by rfl) ?_ ?_; rotate_left; (· intro w hSw; (try dsimp only at hSw); obtain ⟨⟨er0, er1, er2, _, _, _⟩, ⟨ev0, ev1, ev2, _, _, _⟩⟩ := hSw; go_simp; all_goals with_reducible rfl); (try simp only [Act.put, List.setIfInBounds_toArray, List.set_cons_zero, List.set_cons_succ])) | (refine seq_leave (by rfl) ?_; (try simp only [Act.put, List.setIfInBounds_toArray, List.set_cons_zero, List.set_cons_succ])))
    refine seq_end ?_
    go_wp2_with fail
    go_ret
    exact ⟨rfl, hbf⟩

theorem ieeeOrder_walk (a0 a1 a2 : Int) (w0 : (Lit.int .i64 a0).wf = true) (w1 : (Lit.int .u64 a1).wf = true) (w2 : (Lit.int .u64 a2).wf = true) (w : World) :
    Calls Tryd.prog 4 #[.int .i64 a0, .int .u64 a1, .int .u64 a2] w fun e w' => e = .returned (.bool true) ∧ Below w.heap.size w w' := by
  have h1 := wf_u64 w1
  have h2 := wf_u64 w2
  obtain ⟨E, F, hL⟩ := looked a0
  have := ieeeOrder_main a0 E F a1.toNat a2.toNat w (Lib.hid hL) (by omega) (by omega)
  rwa [Int.toNat_of_nonneg h1.1, Int.toNat_of_nonneg h2.1] at this
end Go.Proofs.YtanicapbdigjaaaDoor
