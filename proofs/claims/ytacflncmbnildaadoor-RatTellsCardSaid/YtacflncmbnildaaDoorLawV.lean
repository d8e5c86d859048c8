/-
  RatTells: the walk.
-/
import Derived.Test.YtacflncmbnildaaDoorRatL
import Derived.Test.YtacflncmbnildaaDoorRefS
namespace Go.Proofs.YtacflncmbnildaaDoor
open Go.RowKit
set_option linter.unusedVariables false
set_option linter.unusedSimpArgs false
attribute [local go_sem] field_nat

theorem rcmp_c (va vc : Value) (a c : Rat) (k : Int) (i j : Nat) (w : World) (ha : RQIs w va a) (hc : RQIs w vc c) (hla : QB a i) (hlc : QB c j) (hij : i + j ≤ 90000) (hk : Hid (qcmp a c = k)) :
    Calls Tryd.prog 37 #[va, vc] w fun e w' => e = .returned (.int .i64 k) ∧ Below w.heap.size w w' := by
  have := rqcmp_any va vc a c i j w ha hc hla hlc hij
  rwa [hk.out] at this
theorem whole_b (va : Value) (a : Rat) (b : Bool) (w : World) (ha : QIs w va a) (hb : Hid (decide (a.den = 1) = b)) :
    Calls Tryd.prog 27 #[va] w fun e w' => e = .returned (.bool b) ∧ Below w.heap.size w w' := by
  have := whole_any va a w ha
  rwa [hb.out] at this
theorem text_s (v : Value) (n : Nat) (T : List UInt8) (w : World) (h : NatIs w v n) (hl : (limbs n).length ≤ 100000) (hT : Hid (str (dec n) = T)) :
    Calls Tryd.prog 19 #[v] w fun e w' => e = .returned (.string ⟨T.toArray⟩) ∧ Below w.heap.size w w' := by
  have := text_any v n w h hl
  rwa [hT.out] at this
theorem rtext_s (v : Value) (n : Nat) (T : List UInt8) (w : World) (h : RIs w v n) (hl : (rlimbs n).length ≤ 100000) (hT : Hid (str (dec n) = T)) :
    Calls Tryd.prog 43 #[v] w fun e w' => e = .returned (.string ⟨T.toArray⟩) ∧ Below w.heap.size w w' := by
  have := rtext_any v n w h hl
  rwa [hT.out] at this
theorem text_one (n : Nat) : (str (dec n) == [49]) = decide (n = 1) := by
  by_cases h : n = 1
  · subst h; rw [str_dec_one]; rfl
  · rw [decide_eq_false h, beq_eq_false_iff_ne]
    intro e
    exact h (dec_inj (by rw [e, str_dec_one]))
theorem dec_lim {n : Nat} {K : Nat} (h : n < 10 ^ K) (hK : 1 ≤ K) (hK2 : K ≤ 1200) : (dec n).length ≤ 1200 := Nat.le_trans (dec_le h hK) hK2

set_option maxRecDepth 100000 in
set_option maxHeartbeats 1000000 in
theorem ratTells_early (l m : List UInt8) (w : World) (h : 120 < l.length ∨ 120 < m.length) :
    Calls Tryd.prog 8 #[.string ⟨l.toArray⟩, .string ⟨m.toArray⟩] w fun e w' => e = .returned (.bool true) ∧ Below w.heap.size w w' := by
  by_cases h1 : (120 : Int) < ((l.length : Nat) : Int)
  · clear h
    go_enter Tryd.func8, Tryd.ntmps8
    go_wp2_with (go_at_call 11; refine (alive2_any _).mono ?_; rintro e w' ⟨rfl, hb⟩)
    go_ret
    exact ⟨rfl, hb⟩
  by_cases h2 : (120 : Int) < ((m.length : Nat) : Int)
  · clear h
    go_enter Tryd.func8, Tryd.ntmps8
    go_wp2_with (go_at_call 11; refine (alive2_any _).mono ?_; rintro e w' ⟨rfl, hb⟩)
    go_ret
    exact ⟨rfl, hb⟩
  omega

set_option maxRecDepth 100000 in
set_option maxHeartbeats 1000000 in
/-- RatTells, qval m = 0. -/
theorem ratTells_zero (l m : List UInt8) (w : World) (hl : l.length ≤ 120) (hm : m.length ≤ 120) (hb0 : qval m = 0) :
    Calls Tryd.prog 8 #[.string ⟨l.toArray⟩, .string ⟨m.toArray⟩] w fun e w' => e = .returned (.bool true) ∧ Below w.heap.size w w' := by
  have k1 : ¬ (120 : Int) < ((l.length : Nat) : Int) := by omega
  have k2 : ¬ (120 : Int) < ((m.length : Nat) : Int) := by omega
  have hd1 := dec_lim (K := 121) (qval_lt (l := l) (K := 121) (by omega)).1 (by decide) (by decide)
  have hd2 := dec_lim (K := 121) (qval_lt (l := l) (K := 121) (by omega)).2 (by decide) (by decide)
  have hqa := QB.val (l := l) (K := 121) (by omega)
  obtain ⟨a, hae⟩ : ∃ a, a = qval l := ⟨_, rfl⟩
  obtain ⟨ka, hac⟩ : ∃ c, c = qcode l := ⟨_, rfl⟩
  rw [← hae] at hqa hd1 hd2
  have HaE := Lib.hid hae
  have HaC := Lib.hid hac
  clear hae hac
  have hqb := QB.val (l := m) (K := 121) (by omega)
  obtain ⟨b, hbe⟩ : ∃ a, a = qval m := ⟨_, rfl⟩
  obtain ⟨kb, hbc⟩ : ∃ c, c = qcode m := ⟨_, rfl⟩
  rw [← hbe] at hqb hb0
  have HbE := Lib.hid hbe
  have HbC := Lib.hid hbc
  clear hbe hbc
  have hqa3 := hqa.mono (show 121 ≤ 30000 by decide)
  have hqb3 := hqb.mono (show 121 ≤ 30000 by decide)
  go_enter Tryd.func8, Tryd.ntmps8
  go_wp2_with fail
  refine (alive2_any _).mono ?_
  rintro e w1 ⟨rfl, hb⟩
  have hbf := hb
  clear hb
  go_wp2_with fail
  refine (qparse_main l _ a ka HaE HaC (by omega)).mono ?_
  rintro e w2 hq9
  obtain ⟨aB, axO, axL, axC, ayO, ayL, ayC, rfl, hS, hax, hay, ha, hb⟩ := hq9.out
  have HaS := Lib.hid hS; clear hS
  replace hbf := hbf.trans (hb.mono hbf.size)
  clear hb
  obtain ⟨w3, hwE⟩ : ∃ W, W = (w2.alloc (.cells #[.bool aB, .slice axO axL axC, .slice ayO ayL ayC] 27)) := ⟨_, rfl⟩
  have hb : Below w2.heap.size w2 w3 := by rw [hwE]; exact ((Below.refl _ w2).alloc (Nat.le_refl _) _)
  obtain ⟨pa, hpa⟩ : ∃ p, p = w2.heap.size := ⟨_, rfl⟩
  have hba : Box3 w3 pa (Value.bool aB) (Value.slice axO axL axC) (Value.slice ayO ayL ayC) := by rw [hwE, hpa]; exact ⟨by go_simp, by go_simp, by go_simp, by go_simp, by go_simp, by go_simp⟩
  have HP : Hid (w.heap.size ≤ pa) := Lib.hid (by have h9 := hbf.size; omega)
  have HW := Lib.hid hwE; clear hwE
  go_upto_region 4 with fail
  rw [← HW.out, ← hpa]
  clear hpa HW
  replace hax := hax.below hb
  replace hay := hay.below hb
  replace ha := ha.below hb
  replace hbf := hbf.trans (hb.mono hbf.size)
  clear hb
  go_wp2_with fail
  refine (qparse_main m _ b kb HbE HbC (by omega)).mono ?_
  rintro e w4 hq9
  obtain ⟨vB, vxO, vxL, vxC, vyO, vyL, vyC, rfl, hS, hvx, hvy, hv, hb⟩ := hq9.out
  have HvS := Lib.hid hS; clear hS
  replace hba := hba.kept hb
  replace hax := hax.below hb
  replace hay := hay.below hb
  replace ha := ha.below hb
  replace hbf := hbf.trans (hb.mono hbf.size)
  clear hb
  obtain ⟨w5, hwE⟩ : ∃ W, W = (w4.alloc (.cells #[.bool vB, .slice vxO vxL vxC, .slice vyO vyL vyC] 27)) := ⟨_, rfl⟩
  have hb : Below w4.heap.size w4 w5 := by rw [hwE]; exact ((Below.refl _ w4).alloc (Nat.le_refl _) _)
  obtain ⟨pv, hpv⟩ : ∃ p, p = w4.heap.size := ⟨_, rfl⟩
  have hbv : Box3 w5 pv (Value.bool vB) (Value.slice vxO vxL vxC) (Value.slice vyO vyL vyC) := by rw [hwE, hpv]; exact ⟨by go_simp, by go_simp, by go_simp, by go_simp, by go_simp, by go_simp⟩
  replace HP : Hid (w.heap.size ≤ pa ∧ pa < pv) := Lib.hid (by have h1 := HP.out; have h9 := hbf.size; have h2a := hba.lt; omega)
  have HW := Lib.hid hwE; clear hwE
  go_upto_region 5 with fail
  rw [← HW.out, ← hpv]
  clear hpv HW
  replace hba := hba.kept hb
  replace hax := hax.below hb
  replace hay := hay.below hb
  replace ha := ha.below hb
  replace hvx := hvx.below hb
  replace hvy := hvy.below hb
  replace hv := hv.below hb
  replace hbf := hbf.trans (hb.mono hbf.size)
  clear hb
  go_wp2_with fail
  refine (rqparse_main l _ a ka HaE HaC (by omega)).mono ?_
  rintro e w6 hq9
  obtain ⟨xB, xxO, xxL, xxC, xyO, xyL, xyC, rfl, hS, hxx, hxy, hx, hb⟩ := hq9.out
  have HxS := Lib.hid hS; clear hS
  replace hba := hba.kept hb
  replace hbv := hbv.kept hb
  replace hax := hax.below hb
  replace hay := hay.below hb
  replace ha := ha.below hb
  replace hvx := hvx.below hb
  replace hvy := hvy.below hb
  replace hv := hv.below hb
  replace hbf := hbf.trans (hb.mono hbf.size)
  clear hb
  obtain ⟨w7, hwE⟩ : ∃ W, W = (w6.alloc (.cells #[.bool xB, .slice xxO xxL xxC, .slice xyO xyL xyC] 38)) := ⟨_, rfl⟩
  have hb : Below w6.heap.size w6 w7 := by rw [hwE]; exact ((Below.refl _ w6).alloc (Nat.le_refl _) _)
  obtain ⟨px, hpx⟩ : ∃ p, p = w6.heap.size := ⟨_, rfl⟩
  have hbx : Box3 w7 px (Value.bool xB) (Value.slice xxO xxL xxC) (Value.slice xyO xyL xyC) := by rw [hwE, hpx]; exact ⟨by go_simp, by go_simp, by go_simp, by go_simp, by go_simp, by go_simp⟩
  replace HP : Hid (w.heap.size ≤ pa ∧ pa < pv ∧ pv < px) := Lib.hid (by have h1 := HP.out; have h9 := hbf.size; have h2v := hbv.lt; omega)
  have HW := Lib.hid hwE; clear hwE
  go_upto_region 6 with fail
  rw [← HW.out, ← hpx]
  clear hpx HW
  replace hba := hba.kept hb
  replace hbv := hbv.kept hb
  replace hax := hax.below hb
  replace hay := hay.below hb
  replace ha := ha.below hb
  replace hvx := hvx.below hb
  replace hvy := hvy.below hb
  replace hv := hv.below hb
  replace hxx := hxx.below hb
  replace hxy := hxy.below hb
  replace hx := hx.below hb
  replace hbf := hbf.trans (hb.mono hbf.size)
  clear hb
  go_wp2_with fail
  refine (rqparse_main m _ b kb HbE HbC (by omega)).mono ?_
  rintro e w8 hq9
  obtain ⟨yB, yxO, yxL, yxC, yyO, yyL, yyC, rfl, hS, hyx, hyy, hy, hb⟩ := hq9.out
  have HyS := Lib.hid hS; clear hS
  replace hba := hba.kept hb
  replace hbv := hbv.kept hb
  replace hbx := hbx.kept hb
  replace hax := hax.below hb
  replace hay := hay.below hb
  replace ha := ha.below hb
  replace hvx := hvx.below hb
  replace hvy := hvy.below hb
  replace hv := hv.below hb
  replace hxx := hxx.below hb
  replace hxy := hxy.below hb
  replace hx := hx.below hb
  replace hbf := hbf.trans (hb.mono hbf.size)
  clear hb
  obtain ⟨w9, hwE⟩ : ∃ W, W = (w8.alloc (.cells #[.bool yB, .slice yxO yxL yxC, .slice yyO yyL yyC] 38)) := ⟨_, rfl⟩
  have hb : Below w8.heap.size w8 w9 := by rw [hwE]; exact ((Below.refl _ w8).alloc (Nat.le_refl _) _)
  obtain ⟨py, hpy⟩ : ∃ p, p = w8.heap.size := ⟨_, rfl⟩
  have hby : Box3 w9 py (Value.bool yB) (Value.slice yxO yxL yxC) (Value.slice yyO yyL yyC) := by rw [hwE, hpy]; exact ⟨by go_simp, by go_simp, by go_simp, by go_simp, by go_simp, by go_simp⟩
  replace HP : Hid (w.heap.size ≤ pa ∧ pa < pv ∧ pv < px ∧ px < py) := Lib.hid (by have h1 := HP.out; have h9 := hbf.size; have h2x := hbx.lt; omega)
  have HW := Lib.hid hwE; clear hwE
  go_upto_region 7 with fail
  rw [← HW.out, ← hpy]
  clear hpy HW
  replace hba := hba.kept hb
  replace hbv := hbv.kept hb
  replace hbx := hbx.kept hb
  replace hax := hax.below hb
  replace hay := hay.below hb
  replace ha := ha.below hb
  replace hvx := hvx.below hb
  replace hvy := hvy.below hb
  replace hv := hv.below hb
  replace hxx := hxx.below hb
  replace hxy := hxy.below hb
  replace hx := hx.below hb
  replace hyx := hyx.below hb
  replace hyy := hyy.below hb
  replace hy := hy.below hb
  replace hbf := hbf.trans (hb.mono hbf.size)
  clear hb
  have ea0 := hba.c0
  have ea1 := hba.c1
  have ea2 := hba.c2
  have ex0 := hbx.c0
  have ex1 := hbx.c1
  have ex2 := hbx.c2
  go_wp2_with fail
  refine (same2_any _ _ a _ ha hx hqa3).mono ?_
  rintro e w10 ⟨rfl, hb⟩
  clear ea0 ea1 ea2 ex0 ex1 ex2
  replace hba := hba.kept hb
  replace hbv := hbv.kept hb
  replace hbx := hbx.kept hb
  replace hby := hby.kept hb
  replace hax := hax.below hb
  replace hay := hay.below hb
  replace ha := ha.below hb
  replace hvx := hvx.below hb
  replace hvy := hvy.below hb
  replace hv := hv.below hb
  replace hxx := hxx.below hb
  replace hxy := hxy.below hb
  replace hx := hx.below hb
  replace hyx := hyx.below hb
  replace hyy := hyy.below hb
  replace hy := hy.below hb
  replace hbf := hbf.trans (hb.mono hbf.size)
  clear hb
  have ev0 := hbv.c0
  have ev1 := hbv.c1
  have ev2 := hbv.c2
  have ey0 := hby.c0
  have ey1 := hby.c1
  have ey2 := hby.c2
  go_wp2_with fail
  refine (same2_any _ _ b _ hv hy hqb3).mono ?_
  rintro e w11 ⟨rfl, hb⟩
  clear ev0 ev1 ev2 ey0 ey1 ey2
  replace hba := hba.kept hb
  replace hbv := hbv.kept hb
  replace hbx := hbx.kept hb
  replace hby := hby.kept hb
  replace hax := hax.below hb
  replace hay := hay.below hb
  replace ha := ha.below hb
  replace hvx := hvx.below hb
  replace hvy := hvy.below hb
  replace hv := hv.below hb
  replace hxx := hxx.below hb
  replace hxy := hxy.below hb
  replace hx := hx.below hb
  replace hyx := hyx.below hb
  replace hyy := hyy.below hb
  replace hy := hy.below hb
  replace hbf := hbf.trans (hb.mono hbf.size)
  clear hb
  have hyl := hyx.len
  have ea0 := hba.c0
  have ea1 := hba.c1
  have ea2 := hba.c2
  have ev0 := hbv.c0
  have ev1 := hbv.c1
  have ev2 := hbv.c2
  go_wp2_with fail
  refine (qdiv_zero _ _ a b 121 121 _ ha hv hqa hqb (by decide) hb0).mono ?_
  rintro e w12 hq9
  obtain ⟨qB, qxO, qxL, qxC, qyO, qyL, qyC, rfl, hS, hqx, hqy, hq, hb⟩ := hq9.out
  have HqS := Lib.hid hS; clear hS
  clear ea0 ea1 ea2 ev0 ev1 ev2
  replace hba := hba.kept hb
  replace hbv := hbv.kept hb
  replace hbx := hbx.kept hb
  replace hby := hby.kept hb
  replace hax := hax.below hb
  replace hay := hay.below hb
  replace ha := ha.below hb
  replace hvx := hvx.below hb
  replace hvy := hvy.below hb
  replace hv := hv.below hb
  replace hxx := hxx.below hb
  replace hxy := hxy.below hb
  replace hx := hx.below hb
  replace hyx := hyx.below hb
  replace hyy := hyy.below hb
  replace hy := hy.below hb
  replace hbf := hbf.trans (hb.mono hbf.size)
  clear hb
  have hy0 : yxL = 0 := by
    rw [hyl, hb0]
    show (rlimbs 0).length = 0
    rw [rlimbs_zero]; rfl
  clear hyl hb0
  subst hy0
  obtain ⟨w13, hwE⟩ : ∃ W, W = (w12.alloc (.cells #[.bool qB, .slice qxO qxL qxC, .slice qyO qyL qyC] 27)) := ⟨_, rfl⟩
  have hb : Below w12.heap.size w12 w13 := by rw [hwE]; exact ((Below.refl _ w12).alloc (Nat.le_refl _) _)
  obtain ⟨pq, hpq⟩ : ∃ p, p = w12.heap.size := ⟨_, rfl⟩
  have hbq : Box3 w13 pq (Value.bool qB) (Value.slice qxO qxL qxC) (Value.slice qyO qyL qyC) := by rw [hwE, hpq]; exact ⟨by go_simp, by go_simp, by go_simp, by go_simp, by go_simp, by go_simp⟩
  replace HP : Hid (w.heap.size ≤ pa ∧ pa < pv ∧ pv < px ∧ px < py ∧ py < pq) := Lib.hid (by have h1 := HP.out; have h9 := hbf.size; have h2y := hby.lt; omega)
  have HW := Lib.hid hwE; clear hwE
  go_upto_region 10 with fail
  rw [← HW.out, ← hpq]
  clear hpq HW
  replace hba := hba.kept hb
  replace hbv := hbv.kept hb
  replace hbx := hbx.kept hb
  replace hby := hby.kept hb
  replace hax := hax.below hb
  replace hay := hay.below hb
  replace ha := ha.below hb
  replace hvx := hvx.below hb
  replace hvy := hvy.below hb
  replace hv := hv.below hb
  replace hxx := hxx.below hb
  replace hxy := hxy.below hb
  replace hx := hx.below hb
  replace hyx := hyx.below hb
  replace hyy := hyy.below hb
  replace hy := hy.below hb
  replace hqx := hqx.below hb
  replace hqy := hqy.below hb
  replace hq := hq.below hb
  replace hbf := hbf.trans (hb.mono hbf.size)
  clear hb
  refine wp_region_seqQ (S := fun w' => Box3 w' pq (Value.bool qB) (Value.slice qxO qxL qxC) (Value.slice qyO qyL qyC) ∧ Box3 w' px (Value.bool xB) (Value.slice xxO xxL xxC) (Value.slice xyO xyL xyC) ∧ Box3 w' py (Value.bool yB) (Value.slice yxO 0 yxC) (Value.slice yyO yyL yyC)) [(0, 16384, some 75), (1, 37778931862957161709568, some 76), (0, 2048, some 77), (4, 151115727451828646838272, some 78), (8, 302231454903657293676544, some 79), (16, 604462909807314587353088, some 80), (34, 1284483683340543498125312, some 81), (64, 2417851639229258349412352, some 82), (128, 4835703278458516698841088, some 83), (384, 14507109835375550096474112, some 84), (640, 24178516392292583494123520, some 85), (1024, 38685626227668133590614016, some 86), (3072, 116056878683004400771792896, some 87), (5120, 193428131138340667952988160, some 88), (8192, 309485009821345068724789248, some 89), (24576, 928455029464035206174343168, some 90), (40960, 1547425049106725343623905280, some 91), (74752, 2824050714619773752113627136, some 92), (132224, 4995281486647647749885919232, some 93), (262272, 9908356017561500715891818496, some 94), (557056, 19807040628566084398385987584, some 95), (1048576, 39614081257132168796771991552, some 96), (3145728, 118842243771396506390315925504, some 97), (5242880, 198070406285660843983859875840, some 98), (8388608, 316912650057057350374175809536, some 99), (8388608, 316912650057057350374175801856, some 100), (8388608, 316912650057057350374175803392, some 101), (109051904, 4119864450741745554864285417472, some 102), (159383552, 6021340351084089657109340225536, some 103), (276824064, 10458117451882892562347801444352, some 104), (546308096, 20638936334965859943118199062528, some 105), (1074790400, 40604433288560473016691274547200, some 106)] [(true, 0), (true, 1), (true, 2), (true, 3), (true, 4), (true, 5), (true, 6), (true, 7), (true, 8), (true, 9), (true, 10), (true, 11), (true, 12), (true, 13), (true, 14), (false, 15), (true, 16), (true, 17), (true, 18), (true, 19), (true, 20), (true, 21), (true, 22), (true, 23), (true, 24), (true, 25), (true, 26), (false, 27), (false, 28), (true, 29), (true, 30), (true, 31)] (by kernel_rfl) (by kernel_rfl) (by kernel_rfl) (by kernel_rfl) (by kernel_rfl) (by kernel_rfl) (fun d _ _ _ _ h => by cases d <;> exact h) ⟨hbq.drew, hbx.drew, hby.drew⟩ (fun _ => ?_)
  simp only [pickOps, List.append_eq, List.cons_append, List.nil_append, List.getElem?_toArray, List.getElem?_cons_succ, List.getElem?_cons_zero]
  have hb : Below w13.heap.size w13 w13.drew := (Below.refl _ _).drew
  generalize w13.drew = w14 at hb ⊢
  replace hba := hba.kept hb
  replace hbv := hbv.kept hb
  replace hbx := hbx.kept hb
  replace hby := hby.kept hb
  replace hbq := hbq.kept hb
  replace hax := hax.below hb
  replace hay := hay.below hb
  replace ha := ha.below hb
  replace hvx := hvx.below hb
  replace hvy := hvy.below hb
  replace hv := hv.below hb
  replace hxx := hxx.below hb
  replace hxy := hxy.below hb
  replace hx := hx.below hb
  replace hyx := hyx.below hb
  replace hyy := hyy.below hb
  replace hy := hy.below hb
  replace hqx := hqx.below hb
  replace hqy := hqy.below hb
  replace hq := hq.below hb
  replace hbf := hbf.trans (hb.mono hbf.size)
  clear hb
  repeat (first | (refine seq_take (v := ?_) (by rfl) ?_ ?_; rotate_left; (· intro w hSw; (try dsimp only at hSw); obtain ⟨⟨eq0, eq1, eq2, _, _, _⟩, ⟨ex0, ex1, ex2, _, _, _⟩, ⟨ey0, ey1, ey2, _, _, _⟩⟩ := hSw; go_simp; all_goals with_reducible rfl); (try simp only [Act.put, List.setIfInBounds_toArray, List.set_cons_zero, List.set_cons_succ])) | (refine seq_leave (by rfl) ?_; (try simp only [Act.put, List.setIfInBounds_toArray, List.set_cons_zero, List.set_cons_succ])))
  refine seq_step (by rfl) (fun K hK => ?_)
  go_simp
  go_at_call 12
  (with_reducible refine (qtext_any _ 0 _ hq (QB.zero _ (by decide))).mono ?_)
  rintro e w15 ⟨rfl, hb⟩
  replace hba := hba.kept hb
  replace hbv := hbv.kept hb
  replace hbx := hbx.kept hb
  replace hby := hby.kept hb
  replace hbq := hbq.kept hb
  replace hax := hax.below hb
  replace hay := hay.below hb
  replace ha := ha.below hb
  replace hvx := hvx.below hb
  replace hvy := hvy.below hb
  replace hv := hv.below hb
  replace hxx := hxx.below hb
  replace hxy := hxy.below hb
  replace hx := hx.below hb
  replace hyx := hyx.below hb
  replace hyy := hyy.below hb
  replace hy := hy.below hb
  replace hqx := hqx.below hb
  replace hqy := hqy.below hb
  replace hq := hq.below hb
  replace hbf := hbf.trans (hb.mono hbf.size)
  clear hb
  rw [qt_z]
  first | refine hK.out _ _ ⟨hbq, hbx, hby⟩ (fun _ => ?_) | (go_wp2_with fail; refine hK.out _ _ ⟨hbq, hbx, hby⟩ (fun _ => ?_))
  clear hK K
  (try simp only [Act.put, List.setIfInBounds_toArray, List.set_cons_zero, List.set_cons_succ])
  repeat (first | (refine seq_take (v := ?_) (by rfl) ?_ ?_; rotate_left; (· intro w hSw; (try dsimp only at hSw); obtain ⟨⟨eq0, eq1, eq2, _, _, _⟩, ⟨ex0, ex1, ex2, _, _, _⟩, ⟨ey0, ey1, ey2, _, _, _⟩⟩ := hSw; go_simp; all_goals with_reducible rfl); (try simp only [Act.put, List.setIfInBounds_toArray, List.set_cons_zero, List.set_cons_succ])) | (refine seq_leave (by rfl) ?_; (try simp only [Act.put, List.setIfInBounds_toArray, List.set_cons_zero, List.set_cons_succ])))
  refine seq_pass (by rfl) ⟨hbq, hbx, hby⟩ ?_
  (try simp only [Act.put, List.setIfInBounds_toArray, List.set_cons_zero, List.set_cons_succ])
  refine seq_pass (by rfl) ⟨hbq, hbx, hby⟩ ?_
  (try simp only [Act.put, List.setIfInBounds_toArray, List.set_cons_zero, List.set_cons_succ])
  repeat (first | (refine seq_take (v := ?_) (by rfl) ?_ ?_; rotate_left; (· intro w hSw; (try dsimp only at hSw); obtain ⟨⟨eq0, eq1, eq2, _, _, _⟩, ⟨ex0, ex1, ex2, _, _, _⟩, ⟨ey0, ey1, ey2, _, _, _⟩⟩ := hSw; go_simp; all_goals with_reducible rfl); (try simp only [Act.put, List.setIfInBounds_toArray, List.set_cons_zero, List.set_cons_succ])) | (refine seq_leave (by rfl) ?_; (try simp only [Act.put, List.setIfInBounds_toArray, List.set_cons_zero, List.set_cons_succ])))
  refine seq_end ?_
  skip
  obtain ⟨N1, hN1⟩ : ∃ t, t = str (dec a.num.natAbs) := ⟨_, rfl⟩
  obtain ⟨D1, hD1⟩ : ∃ t, t = str (dec a.den) := ⟨_, rfl⟩
  obtain ⟨o9, ho9⟩ : ∃ o, o = decide (a.den = 1) := ⟨_, rfl⟩
  have hDo : (D1 == [49]) = o9 := by rw [hD1, ho9]; exact text_one _
  have HN1 := Lib.hid hN1.symm
  have HD1 := Lib.hid hD1.symm
  have HO9 := Lib.hid ho9.symm
  clear hN1 hD1 ho9
  have hra1 := rlimbs_of_limbs hqa.1
  have hra2 := rlimbs_of_limbs hqa.2
  have hla1 := hqa.1
  have hla2 := hqa.2
  have g1 : (rlimbs a.num.natAbs).length ≤ 100000 := by omega
  have g2 : (rlimbs a.den).length ≤ 100000 := by omega
  have g3 : (limbs a.num.natAbs).length ≤ 100000 := by omega
  have g4 : (limbs a.den).length ≤ 100000 := by omega
  have ex0 := hbx.c0
  have ex1 := hbx.c1
  have ex2 := hbx.c2
  have ey0 := hby.c0
  have ey1 := hby.c1
  have ey2 := hby.c2
  go_upto_region 12 with fail
  clear ex0 ex1 ex2 ey0 ey1 ey2
  have ex0 := hbx.c0
  have ex1 := hbx.c1
  have ex2 := hbx.c2
  go_wp2_with fail
  refine (rtext_s _ a.den D1 _ hxy g2 HD1).mono ?_
  rintro e w16 ⟨rfl, hb⟩
  clear ex0 ex1 ex2
  replace hba := hba.kept hb
  replace hbv := hbv.kept hb
  replace hbx := hbx.kept hb
  replace hby := hby.kept hb
  replace hbq := hbq.kept hb
  replace hax := hax.below hb
  replace hay := hay.below hb
  replace ha := ha.below hb
  replace hvx := hvx.below hb
  replace hvy := hvy.below hb
  replace hv := hv.below hb
  replace hxx := hxx.below hb
  replace hxy := hxy.below hb
  replace hx := hx.below hb
  replace hyx := hyx.below hb
  replace hyy := hyy.below hb
  replace hy := hy.below hb
  replace hqx := hqx.below hb
  replace hqy := hqy.below hb
  replace hq := hq.below hb
  replace hbf := hbf.trans (hb.mono hbf.size)
  clear hb
  obtain ⟨c4, hc4⟩ : ∃ k, k = qcmp a b := ⟨_, rfl⟩
  obtain ⟨s9, hs9⟩ : ∃ s, s = decide (a = b) := ⟨_, rfl⟩
  have hcs : (c4 == 0) = s9 := by rw [hc4, hs9]; exact qcmp_same a b
  have C4 := Lib.hid hc4.symm
  have S9 := Lib.hid hs9.symm
  clear hc4 hs9
  have HNX : Hid (decide (a < 0) = xB) := Lib.hid HxS.out.symm
  have Qad := (hqa.add hqb).mono (show 121 + 121 + 1 ≤ 30000 by decide)
  have Qsb := (hqa.sub hqb).mono (show 121 + 121 + 1 ≤ 30000 by decide)
  have Qml := (hqa.mul hqb).mono (show 121 + 121 ≤ 30000 by decide)
  have Qfl := hqa.floor.mono (show 121 + 1 ≤ 30000 by decide)
  have Qcl := hqa.neg.floor.neg.mono (show 121 + 1 ≤ 30000 by decide)
  have Qrd := hqa.round.mono (show 121 + 2 ≤ 30000 by decide)
  have Qnb := hqb.neg
  have SUB : Hid (a - b = a + -b) := Lib.hid (qsub_is a b)
  have hqa5 := hqa.mono (show 121 ≤ 100000 by decide)
  have ex0 := hbx.c0
  have ex1 := hbx.c1
  have ex2 := hbx.c2
  go_upto_region 13 with fail
  clear ex0 ex1 ex2
  simp only [List.append_eq, List.cons_append, List.nil_append]
  refine wp_region_seqQ (S := fun w' => Box3 w' pa (Value.bool aB) (Value.slice axO axL axC) (Value.slice ayO ayL ayC) ∧ Box3 w' pv (Value.bool vB) (Value.slice vxO vxL vxC) (Value.slice vyO vyL vyC) ∧ Box3 w' px (Value.bool xB) (Value.slice xxO xxL xxC) (Value.slice xyO xyL xyC) ∧ Box3 w' py (Value.bool yB) (Value.slice yxO 0 yxC) (Value.slice yyO yyL yyC)) [(0, 32, some 111), (0, 128, some 112), (3, 7788445287802241442795744493830144, some 113), (0, 512, some 114), (0, 2048, some 115), (28, 62307562302417931542365955950641152, some 116), (36, 93461343453626897313548933925961728, some 117), (96, 166153499473114484112975882535043072, some 118), (128, 332306998946228968225951765070086176, some 119), (128, 332306998946228968225951765070086272, some 120), (896, 2326148992623602777581662355490603008, some 121), (128, 332306998946228968225951765070086656, some 122), (128, 332306998946228968225951765070088192, some 123), (7296, 16283042948365219443071636488434221056, some 124), (8320, 21599954931504882934686864729555599360, some 125), (17536, 45526058855633368646955391814601801728, some 126), (32896, 85402898729180844834069603623012139008, some 127), (73728, 170141183460469231731687303715884105728, some 128), (131072, 340282366920938463463374607431768211488, some 129), (131072, 340282366920938463463374607431768211584, some 130), (917504, 2381976568446569244243622252022377480192, some 131), (131072, 340282366920938463463374607431768211968, some 132), (131072, 340282366920938463463374607431768213504, some 133), (7471104, 16673835979125984709705355764156642361344, some 134), (9568256, 24840612785228507832826346342519079436288, some 135), (16908288, 43896425332801061786775324358698099277824, some 136), (50331648, 87112285931760246646623899502532662132736, some 137), (67108864, 174224571863520493293247799005065324265504, some 138), (67108864, 174224571863520493293247799005065324265600, some 139), (469762048, 1219572003044643453052734593035457269858304, some 140), (67108864, 174224571863520493293247799005065324265984, some 141), (67108864, 174224571863520493293247799005065324267520, some 142), (2751463424, 5749410871496176278677177367167155700760576, some 143), (5435817984, 14112190320945159956753071719410291265503232, some 144), (9193914368, 23868766345302307581174948463693949424369664, some 145), (17246978048, 44775714968924766776364684344301788336226304, some 146), (51539607552, 89202980794122492566142873090593446023921664, some 147), (68719476736, 178405961588244985132285746181186892047843360, some 148), (68719476736, 178405961588244985132285746181186892047843456, some 149), (481036337152, 1248841731117714895926000223268308244334903296, some 150), (68719476736, 178405961588244985132285746181186892047843840, some 151), (68719476736, 178405961588244985132285746181186892047845376, some 152), (3917010173952, 8741892117824004271482001562878157710344323072, some 153), (5016521801728, 13023635195941883914656859471226643119492562944, some 154), (8864812498944, 23014369044883603082064861257373109074171789312, some 155), (26388279066624, 45671926166590716193865151022383844364247891968, some 156), (35184372088832, 91343852333181432387730302044767688728495783968, some 157), (105553116266496, 274031556999544297163190906134303066185487351808, some 158), (35184372088832, 91343852333181432387730302044767688728495784448, some 159), (457396837154816, 822094670998632891489572718402909198556462055424, some 160), (738871813865472, 1918220898996810080142336342940121463298411462656, some 161), (1161084278931456, 3014347126994987268795099967477333728040360869888, some 162), (3377699720527872, 5846006549323611672814739330865132078623730171904, some 163), (4503599627370496, 11692013098647223345629478661730264157247460343840, some 164), (13510798882111488, 35076039295941670036888435985190792471742381031424, some 165), (4503599627370496, 11692013098647223345629478661730264157247460344320, some 166), (58546795155816448, 105228117887825010110665307955572377415227143094272, some 167), (94575592174780416, 245532275071591690258219051896335547302196667219968, some 168), (148618787703226368, 385836432255358370405772795837098717189166191345664, some 169), (432345564227567616, 748288838313422294120286634350736906063837462003712, some 170), (576460752303423488, 1496577676626844588240573268701473812127674924007456, some 171), (1729382256910270464, 4489733029880533764721719806104421436383024772022272, some 172), (576460752303423488, 1496577676626844588240573268701473812127674924007936, some 173), (7493989779944505344, 13469199089641601294165159418313264309149074316066816, some 174), (12105675798371893248, 31428131209163736353052038642730950054681173404155904, some 175), (19023204826012975104, 49387063328685871411938917867148635800213272492244992, some 176), (55340232221128654848, 95780971304118053647396689196894323976171195136475136, some 177), (73786976294838206464, 191561942608236107294793378393788647952342390272950304, some 178), (221360928884514619392, 574685827824708321884380135181365943857027170818850816, some 179), (73786976294838206464, 191561942608236107294793378393788647952342390272983040, some 180), (959230691832896684032, 2490305253907069394832313919119252423380451073548353536, some 181), (1254378597012249509888, 3256553024340013824011487432694407015189820634640154624, some 182), (2656331146614175432704, 6129982163463555433433388108601236734474956488734408704, some 183), (4722366482869645213696, 12259964326927110866866776217202473468949912977468817440, some 184), (14167099448608935641088, 36779892980781332600600328651607420406849738932406452224, some 185), (4722366482869645213696, 12259964326927110866866776217202473468949912977468817920, some 186), (42501298345826806923264, 110339678942343997801800985954822261220549216797219356672, some 187), (99169696140262549487616, 257459250865469328204202300561251942847948172526845165568, some 188), (155838093934698292051968, 404578822788594658606603615167681624475347128256470974464, some 189), (321120920835135874531328, 784637716923335095479473677900958302012794430558004314112, some 190), (604462909807314587353088, 1569275433846670190958947355801916604025588861116008628256, some 191), (1813388729421943762059264, 4707826301540010572876842067405749812076766583348025884672, some 192), (3022314549036572936765440, 7846377169233350954794736779009583020127944305580043141120, some 193), (604462909807314587353088, 1569275433846670190958947355801916604025588861116008628736, some 194), (10275869466724347985002496, 26677682375393393246302105048632582268435010638972146679808, some 195), (24782979302099898081476608, 51786089316940116301645262741463247932844432416828284731392, some 196), (44125792415933964876775424, 114557106670806923940003156973539912093867986861468629860352, some 197), (77975715365143581768548352, 202436530966220454633704208898447241919300963083965113040896, some 198), (193428131138340667952988160, 401734511064747568885490523085290650630550748445698208825344, some 199), (309485009821345068724781056, 803469022129495137770981046170581301261101496891396417650720, some 200), (928455029464035206174343168, 2410407066388485413312943138511743903783304490674189252952064, some 201), (1547425049106725343623905280, 4017345110647475688854905230852906506305507484456982088253440, some 202), (309485009821345068724781056, 803469022129495137770981046170581301261101496891396417651200, some 203), (5261245166962866168321277952, 13658973376201417342106677784899882121438725447153739100061696, some 204), (12688885402675147817716023296, 26514477730273339546442374523629182941616349397416081782472704, some 205), (22592405716958190016909017088, 58653238615453145057281616370452434992060409273071938488500224, some 206), (39923566266953513865496756224, 103647503854704872772456554956004987862682093098990137876938752, some 207), (99035203142830421991929937920, 205688069665150755269371147819668813122841983204197482918576128, some 208), (158456325028528675187087900672, 411376139330301510538742295639337626245683966408394965837152288, some 209), (475368975085586025561263702016, 1234128417990904531616226886918012878737051899225184897511456768, some 210), (792281625142643375935439503360, 2056880696651507552693711478196688131228419832041974829185761280, some 211), (1426106925256758076683791106048, 3702385253972713594848680660754038636211155697675554692534370304, some 212), (5070602400912917605986812821503, 6582018229284824168619876730229402019930943462534319453394436096, some 4)] [(true, 0), (true, 1), (true, 3), (true, 4), (false, 2), (false, 5), (true, 6), (true, 7), (true, 8), (true, 9), (true, 11), (true, 12), (false, 10), (false, 13), (true, 14), (true, 15), (true, 16), (true, 17), (true, 18), (true, 19), (true, 21), (true, 22), (false, 20), (false, 23), (false, 24), (true, 25), (true, 26), (true, 27), (true, 28), (true, 30), (true, 31), (false, 29), (false, 32), (false, 33), (false, 34), (true, 35), (true, 36), (true, 37), (true, 38), (true, 40), (true, 41), (false, 39), (false, 42), (false, 43), (true, 44), (true, 45), (true, 46), (true, 48), (false, 47), (false, 49), (false, 50), (true, 51), (true, 52), (true, 53), (true, 55), (false, 54), (false, 56), (false, 57), (true, 58), (true, 59), (true, 60), (true, 62), (false, 61), (false, 63), (false, 64), (true, 65), (true, 66), (true, 67), (true, 69), (false, 68), (true, 70), (true, 71), (true, 72), (true, 73), (true, 75), (true, 76), (false, 74), (true, 77), (true, 78), (true, 79), (true, 80), (true, 83), (true, 84), (false, 81), (false, 82), (false, 85), (true, 86), (true, 87), (true, 88), (true, 89), (true, 92), (true, 93), (false, 90), (false, 91), (false, 94), (true, 95), (true, 96), (true, 97), (true, 98), (false, 99), (true, 100), (true, 101), (true, 102)] (by kernel_rfl) (by kernel_rfl) (by kernel_rfl) (by kernel_rfl) (by kernel_rfl) (by kernel_rfl) (fun d _ _ _ _ h => by cases d <;> exact h) ⟨hba.drew, hbv.drew, hbx.drew, hby.drew⟩ (fun _ => ?_)
  simp only [pickOps, List.append_eq, List.cons_append, List.nil_append, List.getElem?_toArray, List.getElem?_cons_succ, List.getElem?_cons_zero]
  have hb : Below w16.heap.size w16 w16.drew := (Below.refl _ _).drew
  generalize w16.drew = w17 at hb ⊢
  replace hba := hba.kept hb
  replace hbv := hbv.kept hb
  replace hbx := hbx.kept hb
  replace hby := hby.kept hb
  replace hbq := hbq.kept hb
  replace hax := hax.below hb
  replace hay := hay.below hb
  replace ha := ha.below hb
  replace hvx := hvx.below hb
  replace hvy := hvy.below hb
  replace hv := hv.below hb
  replace hxx := hxx.below hb
  replace hxy := hxy.below hb
  replace hx := hx.below hb
  replace hyx := hyx.below hb
  replace hyy := hyy.below hb
  replace hy := hy.below hb
  replace hqx := hqx.below hb
  replace hqy := hqy.below hb
  replace hq := hq.below hb
  replace hbf := hbf.trans (hb.mono hbf.size)
  clear hb
  repeat (first | (refine seq_take (v := ?_) (by rfl) ?_ ?_; rotate_left; (· intro w hSw; (try dsimp only at hSw); obtain ⟨⟨ea0, ea1, ea2, _, _, _⟩, ⟨ev0, ev1, ev2, _, _, _⟩, ⟨ex0, ex1, ex2, _, _, _⟩, ⟨ey0, ey1, ey2, _, _, _⟩⟩ := hSw; go_simp; all_goals with_reducible rfl); (try simp only [Act.put, List.setIfInBounds_toArray, List.set_cons_zero, List.set_cons_succ])) | (refine seq_leave (by rfl) ?_; (try simp only [Act.put, List.setIfInBounds_toArray, List.set_cons_zero, List.set_cons_succ])))
  refine seq_step (by rfl) (fun K hK => ?_)
  go_simp
  go_at_call 28
  (with_reducible refine (cmp_c _ _ a b c4 121 121 _ ha hv hqa hqb (by decide) C4).mono ?_)
  rintro e w18 ⟨rfl, hb⟩
  replace hba := hba.kept hb
  replace hbv := hbv.kept hb
  replace hbx := hbx.kept hb
  replace hby := hby.kept hb
  replace hbq := hbq.kept hb
  replace hax := hax.below hb
  replace hay := hay.below hb
  replace ha := ha.below hb
  replace hvx := hvx.below hb
  replace hvy := hvy.below hb
  replace hv := hv.below hb
  replace hxx := hxx.below hb
  replace hxy := hxy.below hb
  replace hx := hx.below hb
  replace hyx := hyx.below hb
  replace hyy := hyy.below hb
  replace hy := hy.below hb
  replace hqx := hqx.below hb
  replace hqy := hqy.below hb
  replace hq := hq.below hb
  replace hbf := hbf.trans (hb.mono hbf.size)
  clear hb
  first | refine hK.out _ _ ⟨hba, hbv, hbx, hby⟩ (fun _ => ?_) | (go_wp2_with fail; refine hK.out _ _ ⟨hba, hbv, hbx, hby⟩ (fun _ => ?_))
  clear hK K
  (try simp only [Act.put, List.setIfInBounds_toArray, List.set_cons_zero, List.set_cons_succ])
  refine seq_step (by rfl) (fun K hK => ?_)
  go_simp
  go_at_call 37
  (with_reducible refine (rcmp_c _ _ a b c4 121 121 _ hx hy hqa hqb (by decide) C4).mono ?_)
  rintro e w19 ⟨rfl, hb⟩
  replace hba := hba.kept hb
  replace hbv := hbv.kept hb
  replace hbx := hbx.kept hb
  replace hby := hby.kept hb
  replace hbq := hbq.kept hb
  replace hax := hax.below hb
  replace hay := hay.below hb
  replace ha := ha.below hb
  replace hvx := hvx.below hb
  replace hvy := hvy.below hb
  replace hv := hv.below hb
  replace hxx := hxx.below hb
  replace hxy := hxy.below hb
  replace hx := hx.below hb
  replace hyx := hyx.below hb
  replace hyy := hyy.below hb
  replace hy := hy.below hb
  replace hqx := hqx.below hb
  replace hqy := hqy.below hb
  replace hq := hq.below hb
  replace hbf := hbf.trans (hb.mono hbf.size)
  clear hb
  first | refine hK.out _ _ ⟨hba, hbv, hbx, hby⟩ (fun _ => ?_) | (go_wp2_with fail; refine hK.out _ _ ⟨hba, hbv, hbx, hby⟩ (fun _ => ?_))
  clear hK K
  (try simp only [Act.put, List.setIfInBounds_toArray, List.set_cons_zero, List.set_cons_succ])
  repeat (first | (refine seq_take (v := ?_) (by rfl) ?_ ?_; rotate_left; (· intro w hSw; (try dsimp only at hSw); obtain ⟨⟨ea0, ea1, ea2, _, _, _⟩, ⟨ev0, ev1, ev2, _, _, _⟩, ⟨ex0, ex1, ex2, _, _, _⟩, ⟨ey0, ey1, ey2, _, _, _⟩⟩ := hSw; go_simp; all_goals with_reducible rfl); (try simp only [Act.put, List.setIfInBounds_toArray, List.set_cons_zero, List.set_cons_succ])) | (refine seq_leave (by rfl) ?_; (try simp only [Act.put, List.setIfInBounds_toArray, List.set_cons_zero, List.set_cons_succ])))
  refine seq_step (by rfl) (fun K hK => ?_)
  go_simp
  go_at_call 20
  (with_reducible refine (same_b _ _ a b s9 121 121 _ ha hv hqa hqb (by decide) S9).mono ?_)
  rintro e w20 ⟨rfl, hb⟩
  replace hba := hba.kept hb
  replace hbv := hbv.kept hb
  replace hbx := hbx.kept hb
  replace hby := hby.kept hb
  replace hbq := hbq.kept hb
  replace hax := hax.below hb
  replace hay := hay.below hb
  replace ha := ha.below hb
  replace hvx := hvx.below hb
  replace hvy := hvy.below hb
  replace hv := hv.below hb
  replace hxx := hxx.below hb
  replace hxy := hxy.below hb
  replace hx := hx.below hb
  replace hyx := hyx.below hb
  replace hyy := hyy.below hb
  replace hy := hy.below hb
  replace hqx := hqx.below hb
  replace hqy := hqy.below hb
  replace hq := hq.below hb
  replace hbf := hbf.trans (hb.mono hbf.size)
  clear hb
  first | refine hK.out _ _ ⟨hba, hbv, hbx, hby⟩ (fun _ => ?_) | (go_wp2_with fail; refine hK.out _ _ ⟨hba, hbv, hbx, hby⟩ (fun _ => ?_))
  clear hK K
  (try simp only [Act.put, List.setIfInBounds_toArray, List.set_cons_zero, List.set_cons_succ])
  refine seq_step (by rfl) (fun K hK => ?_)
  go_simp
  go_at_call 37
  (with_reducible refine (rcmp_c _ _ a b c4 121 121 _ hx hy hqa hqb (by decide) C4).mono ?_)
  rintro e w21 ⟨rfl, hb⟩
  replace hba := hba.kept hb
  replace hbv := hbv.kept hb
  replace hbx := hbx.kept hb
  replace hby := hby.kept hb
  replace hbq := hbq.kept hb
  replace hax := hax.below hb
  replace hay := hay.below hb
  replace ha := ha.below hb
  replace hvx := hvx.below hb
  replace hvy := hvy.below hb
  replace hv := hv.below hb
  replace hxx := hxx.below hb
  replace hxy := hxy.below hb
  replace hx := hx.below hb
  replace hyx := hyx.below hb
  replace hyy := hyy.below hb
  replace hy := hy.below hb
  replace hqx := hqx.below hb
  replace hqy := hqy.below hb
  replace hq := hq.below hb
  replace hbf := hbf.trans (hb.mono hbf.size)
  clear hb
  first | refine hK.out _ _ ⟨hba, hbv, hbx, hby⟩ (fun _ => ?_) | (go_wp2_with fail; refine hK.out _ _ ⟨hba, hbv, hbx, hby⟩ (fun _ => ?_))
  clear hK K
  (try simp only [Act.put, List.setIfInBounds_toArray, List.set_cons_zero, List.set_cons_succ])
  repeat (first | (refine seq_take (v := ?_) (by rfl) ?_ ?_; rotate_left; (· intro w hSw; (try dsimp only at hSw); obtain ⟨⟨ea0, ea1, ea2, _, _, _⟩, ⟨ev0, ev1, ev2, _, _, _⟩, ⟨ex0, ex1, ex2, _, _, _⟩, ⟨ey0, ey1, ey2, _, _, _⟩⟩ := hSw; go_simp; all_goals with_reducible rfl); (try simp only [Act.put, List.setIfInBounds_toArray, List.set_cons_zero, List.set_cons_succ])) | (refine seq_leave (by rfl) ?_; (try simp only [Act.put, List.setIfInBounds_toArray, List.set_cons_zero, List.set_cons_succ])))
  refine seq_step (by rfl) (fun K hK => ?_)
  go_simp
  go_at_call 33
  (with_reducible refine (qadd_any _ _ a b 121 121 _ ha hv hqa hqb (by decide)).mono ?_)
  rintro e w22 hq9
  obtain ⟨dB, dxO, dxL, dxC, dyO, dyL, dyC, rfl, hS, hdx, hdy, hd, hb⟩ := hq9.out
  have HdS := Lib.hid hS; clear hS
  replace hba := hba.kept hb
  replace hbv := hbv.kept hb
  replace hbx := hbx.kept hb
  replace hby := hby.kept hb
  replace hbq := hbq.kept hb
  replace hax := hax.below hb
  replace hay := hay.below hb
  replace ha := ha.below hb
  replace hvx := hvx.below hb
  replace hvy := hvy.below hb
  replace hv := hv.below hb
  replace hxx := hxx.below hb
  replace hxy := hxy.below hb
  replace hx := hx.below hb
  replace hyx := hyx.below hb
  replace hyy := hyy.below hb
  replace hy := hy.below hb
  replace hqx := hqx.below hb
  replace hqy := hqy.below hb
  replace hq := hq.below hb
  replace hbf := hbf.trans (hb.mono hbf.size)
  clear hb
  first | refine hK.out _ _ ⟨hba, hbv, hbx, hby⟩ (fun _ => ?_) | (go_wp2_with fail; refine hK.out _ _ ⟨hba, hbv, hbx, hby⟩ (fun _ => ?_))
  clear hK K
  (try simp only [Act.put, List.setIfInBounds_toArray, List.set_cons_zero, List.set_cons_succ])
  refine seq_step (by rfl) (fun K hK => ?_)
  go_simp
  go_at_call 36
  (with_reducible refine (rqadd_any _ _ a b 121 121 _ hx hy hqa hqb (by decide)).mono ?_)
  rintro e w23 hq9
  obtain ⟨eB, exO, exL, exC, eyO, eyL, eyC, rfl, hS, hex, hey, he, hb⟩ := hq9.out
  have HeS := Lib.hid hS; clear hS
  replace hba := hba.kept hb
  replace hbv := hbv.kept hb
  replace hbx := hbx.kept hb
  replace hby := hby.kept hb
  replace hbq := hbq.kept hb
  replace hax := hax.below hb
  replace hay := hay.below hb
  replace ha := ha.below hb
  replace hvx := hvx.below hb
  replace hvy := hvy.below hb
  replace hv := hv.below hb
  replace hxx := hxx.below hb
  replace hxy := hxy.below hb
  replace hx := hx.below hb
  replace hyx := hyx.below hb
  replace hyy := hyy.below hb
  replace hy := hy.below hb
  replace hqx := hqx.below hb
  replace hqy := hqy.below hb
  replace hq := hq.below hb
  replace hdx := hdx.below hb
  replace hdy := hdy.below hb
  replace hd := hd.below hb
  replace hbf := hbf.trans (hb.mono hbf.size)
  clear hb
  first | refine hK.out _ _ ⟨hba, hbv, hbx, hby⟩ (fun _ => ?_) | (go_wp2_with fail; refine hK.out _ _ ⟨hba, hbv, hbx, hby⟩ (fun _ => ?_))
  clear hK K
  (try simp only [Act.put, List.setIfInBounds_toArray, List.set_cons_zero, List.set_cons_succ])
  refine seq_step (by rfl) (fun K hK => ?_)
  go_simp
  go_at_call 13
  (with_reducible refine (same2_any _ _ (a + b) _ hd he Qad).mono ?_)
  rintro e w24 ⟨rfl, hb⟩
  replace hba := hba.kept hb
  replace hbv := hbv.kept hb
  replace hbx := hbx.kept hb
  replace hby := hby.kept hb
  replace hbq := hbq.kept hb
  replace hax := hax.below hb
  replace hay := hay.below hb
  replace ha := ha.below hb
  replace hvx := hvx.below hb
  replace hvy := hvy.below hb
  replace hv := hv.below hb
  replace hxx := hxx.below hb
  replace hxy := hxy.below hb
  replace hx := hx.below hb
  replace hyx := hyx.below hb
  replace hyy := hyy.below hb
  replace hy := hy.below hb
  replace hqx := hqx.below hb
  replace hqy := hqy.below hb
  replace hq := hq.below hb
  replace hdx := hdx.below hb
  replace hdy := hdy.below hb
  replace hd := hd.below hb
  replace hex := hex.below hb
  replace hey := hey.below hb
  replace he := he.below hb
  replace hbf := hbf.trans (hb.mono hbf.size)
  clear hb
  first | refine hK.out _ _ ⟨hba, hbv, hbx, hby⟩ (fun _ => ?_) | (go_wp2_with fail; refine hK.out _ _ ⟨hba, hbv, hbx, hby⟩ (fun _ => ?_))
  clear hK K
  (try simp only [Act.put, List.setIfInBounds_toArray, List.set_cons_zero, List.set_cons_succ])
  repeat (first | (refine seq_take (v := ?_) (by rfl) ?_ ?_; rotate_left; (· intro w hSw; (try dsimp only at hSw); obtain ⟨⟨ea0, ea1, ea2, _, _, _⟩, ⟨ev0, ev1, ev2, _, _, _⟩, ⟨ex0, ex1, ex2, _, _, _⟩, ⟨ey0, ey1, ey2, _, _, _⟩⟩ := hSw; go_simp; all_goals with_reducible rfl); (try simp only [Act.put, List.setIfInBounds_toArray, List.set_cons_zero, List.set_cons_succ])) | (refine seq_leave (by rfl) ?_; (try simp only [Act.put, List.setIfInBounds_toArray, List.set_cons_zero, List.set_cons_succ])))
  refine seq_step (by rfl) (fun K hK => ?_)
  go_simp
  go_at_call 25
  (with_reducible refine (qsub_any _ _ a b 121 121 _ ha hv hqa hqb (by decide)).mono ?_)
  rintro e w25 hq9
  obtain ⟨gB, gxO, gxL, gxC, gyO, gyL, gyC, rfl, hS, hgx, hgy, hg, hb⟩ := hq9.out
  have HgS := Lib.hid hS; clear hS
  replace hba := hba.kept hb
  replace hbv := hbv.kept hb
  replace hbx := hbx.kept hb
  replace hby := hby.kept hb
  replace hbq := hbq.kept hb
  replace hax := hax.below hb
  replace hay := hay.below hb
  replace ha := ha.below hb
  replace hvx := hvx.below hb
  replace hvy := hvy.below hb
  replace hv := hv.below hb
  replace hxx := hxx.below hb
  replace hxy := hxy.below hb
  replace hx := hx.below hb
  replace hyx := hyx.below hb
  replace hyy := hyy.below hb
  replace hy := hy.below hb
  replace hqx := hqx.below hb
  replace hqy := hqy.below hb
  replace hq := hq.below hb
  replace hdx := hdx.below hb
  replace hdy := hdy.below hb
  replace hd := hd.below hb
  replace hex := hex.below hb
  replace hey := hey.below hb
  replace he := he.below hb
  replace hbf := hbf.trans (hb.mono hbf.size)
  clear hb
  first | refine hK.out _ _ ⟨hba, hbv, hbx, hby⟩ (fun _ => ?_) | (go_wp2_with fail; refine hK.out _ _ ⟨hba, hbv, hbx, hby⟩ (fun _ => ?_))
  clear hK K
  (try simp only [Act.put, List.setIfInBounds_toArray, List.set_cons_zero, List.set_cons_succ])
  refine seq_step (by rfl) (fun K hK => ?_)
  go_simp
  go_at_call 44
  (with_reducible refine (rqminus_any _ b 121 _ hy hqb (by decide)).mono ?_)
  rintro e w26 hq9
  obtain ⟨iB, ixO, ixL, ixC, iyO, iyL, iyC, rfl, hS, hix, hiy, hi, hb⟩ := hq9.out
  have HiS := Lib.hid hS; clear hS
  replace hba := hba.kept hb
  replace hbv := hbv.kept hb
  replace hbx := hbx.kept hb
  replace hby := hby.kept hb
  replace hbq := hbq.kept hb
  replace hax := hax.below hb
  replace hay := hay.below hb
  replace ha := ha.below hb
  replace hvx := hvx.below hb
  replace hvy := hvy.below hb
  replace hv := hv.below hb
  replace hxx := hxx.below hb
  replace hxy := hxy.below hb
  replace hx := hx.below hb
  replace hyx := hyx.below hb
  replace hyy := hyy.below hb
  replace hy := hy.below hb
  replace hqx := hqx.below hb
  replace hqy := hqy.below hb
  replace hq := hq.below hb
  replace hdx := hdx.below hb
  replace hdy := hdy.below hb
  replace hd := hd.below hb
  replace hex := hex.below hb
  replace hey := hey.below hb
  replace he := he.below hb
  replace hgx := hgx.below hb
  replace hgy := hgy.below hb
  replace hg := hg.below hb
  replace hbf := hbf.trans (hb.mono hbf.size)
  clear hb
  first | refine hK.out _ _ ⟨hba, hbv, hbx, hby⟩ (fun _ => ?_) | (go_wp2_with fail; refine hK.out _ _ ⟨hba, hbv, hbx, hby⟩ (fun _ => ?_))
  clear hK K
  (try simp only [Act.put, List.setIfInBounds_toArray, List.set_cons_zero, List.set_cons_succ])
  refine seq_step (by rfl) (fun K hK => ?_)
  go_simp
  go_at_call 36
  (with_reducible refine (rqadd_any _ _ a (-b) 121 121 _ hx hi hqa Qnb (by decide)).mono ?_)
  rintro e w27 hq9
  obtain ⟨jB, jxO, jxL, jxC, jyO, jyL, jyC, rfl, hS, hjx, hjy, hj, hb⟩ := hq9.out
  have HjS := Lib.hid hS; clear hS
  replace hba := hba.kept hb
  replace hbv := hbv.kept hb
  replace hbx := hbx.kept hb
  replace hby := hby.kept hb
  replace hbq := hbq.kept hb
  replace hax := hax.below hb
  replace hay := hay.below hb
  replace ha := ha.below hb
  replace hvx := hvx.below hb
  replace hvy := hvy.below hb
  replace hv := hv.below hb
  replace hxx := hxx.below hb
  replace hxy := hxy.below hb
  replace hx := hx.below hb
  replace hyx := hyx.below hb
  replace hyy := hyy.below hb
  replace hy := hy.below hb
  replace hqx := hqx.below hb
  replace hqy := hqy.below hb
  replace hq := hq.below hb
  replace hdx := hdx.below hb
  replace hdy := hdy.below hb
  replace hd := hd.below hb
  replace hex := hex.below hb
  replace hey := hey.below hb
  replace he := he.below hb
  replace hgx := hgx.below hb
  replace hgy := hgy.below hb
  replace hg := hg.below hb
  replace hix := hix.below hb
  replace hiy := hiy.below hb
  replace hi := hi.below hb
  replace hbf := hbf.trans (hb.mono hbf.size)
  clear hb
  rw [← SUB.out] at hj
  first | refine hK.out _ _ ⟨hba, hbv, hbx, hby⟩ (fun _ => ?_) | (go_wp2_with fail; refine hK.out _ _ ⟨hba, hbv, hbx, hby⟩ (fun _ => ?_))
  clear hK K
  (try simp only [Act.put, List.setIfInBounds_toArray, List.set_cons_zero, List.set_cons_succ])
  refine seq_step (by rfl) (fun K hK => ?_)
  go_simp
  go_at_call 13
  (with_reducible refine (same2_any _ _ (a - b) _ hg hj Qsb).mono ?_)
  rintro e w28 ⟨rfl, hb⟩
  replace hba := hba.kept hb
  replace hbv := hbv.kept hb
  replace hbx := hbx.kept hb
  replace hby := hby.kept hb
  replace hbq := hbq.kept hb
  replace hax := hax.below hb
  replace hay := hay.below hb
  replace ha := ha.below hb
  replace hvx := hvx.below hb
  replace hvy := hvy.below hb
  replace hv := hv.below hb
  replace hxx := hxx.below hb
  replace hxy := hxy.below hb
  replace hx := hx.below hb
  replace hyx := hyx.below hb
  replace hyy := hyy.below hb
  replace hy := hy.below hb
  replace hqx := hqx.below hb
  replace hqy := hqy.below hb
  replace hq := hq.below hb
  replace hdx := hdx.below hb
  replace hdy := hdy.below hb
  replace hd := hd.below hb
  replace hex := hex.below hb
  replace hey := hey.below hb
  replace he := he.below hb
  replace hgx := hgx.below hb
  replace hgy := hgy.below hb
  replace hg := hg.below hb
  replace hix := hix.below hb
  replace hiy := hiy.below hb
  replace hi := hi.below hb
  replace hjx := hjx.below hb
  replace hjy := hjy.below hb
  replace hj := hj.below hb
  replace hbf := hbf.trans (hb.mono hbf.size)
  clear hb
  first | refine hK.out _ _ ⟨hba, hbv, hbx, hby⟩ (fun _ => ?_) | (go_wp2_with fail; refine hK.out _ _ ⟨hba, hbv, hbx, hby⟩ (fun _ => ?_))
  clear hK K
  (try simp only [Act.put, List.setIfInBounds_toArray, List.set_cons_zero, List.set_cons_succ])
  repeat (first | (refine seq_take (v := ?_) (by rfl) ?_ ?_; rotate_left; (· intro w hSw; (try dsimp only at hSw); obtain ⟨⟨ea0, ea1, ea2, _, _, _⟩, ⟨ev0, ev1, ev2, _, _, _⟩, ⟨ex0, ex1, ex2, _, _, _⟩, ⟨ey0, ey1, ey2, _, _, _⟩⟩ := hSw; go_simp; all_goals with_reducible rfl); (try simp only [Act.put, List.setIfInBounds_toArray, List.set_cons_zero, List.set_cons_succ])) | (refine seq_leave (by rfl) ?_; (try simp only [Act.put, List.setIfInBounds_toArray, List.set_cons_zero, List.set_cons_succ])))
  refine seq_step (by rfl) (fun K hK => ?_)
  go_simp
  go_at_call 32
  (with_reducible refine (qmul_any _ _ a b 121 121 _ ha hv hqa hqb (by decide)).mono ?_)
  rintro e w29 hq9
  obtain ⟨kB, kxO, kxL, kxC, kyO, kyL, kyC, rfl, hS, hkx, hky, hk, hb⟩ := hq9.out
  have HkS := Lib.hid hS; clear hS
  replace hba := hba.kept hb
  replace hbv := hbv.kept hb
  replace hbx := hbx.kept hb
  replace hby := hby.kept hb
  replace hbq := hbq.kept hb
  replace hax := hax.below hb
  replace hay := hay.below hb
  replace ha := ha.below hb
  replace hvx := hvx.below hb
  replace hvy := hvy.below hb
  replace hv := hv.below hb
  replace hxx := hxx.below hb
  replace hxy := hxy.below hb
  replace hx := hx.below hb
  replace hyx := hyx.below hb
  replace hyy := hyy.below hb
  replace hy := hy.below hb
  replace hqx := hqx.below hb
  replace hqy := hqy.below hb
  replace hq := hq.below hb
  replace hdx := hdx.below hb
  replace hdy := hdy.below hb
  replace hd := hd.below hb
  replace hex := hex.below hb
  replace hey := hey.below hb
  replace he := he.below hb
  replace hgx := hgx.below hb
  replace hgy := hgy.below hb
  replace hg := hg.below hb
  replace hix := hix.below hb
  replace hiy := hiy.below hb
  replace hi := hi.below hb
  replace hjx := hjx.below hb
  replace hjy := hjy.below hb
  replace hj := hj.below hb
  replace hbf := hbf.trans (hb.mono hbf.size)
  clear hb
  first | refine hK.out _ _ ⟨hba, hbv, hbx, hby⟩ (fun _ => ?_) | (go_wp2_with fail; refine hK.out _ _ ⟨hba, hbv, hbx, hby⟩ (fun _ => ?_))
  clear hK K
  (try simp only [Act.put, List.setIfInBounds_toArray, List.set_cons_zero, List.set_cons_succ])
  refine seq_step (by rfl) (fun K hK => ?_)
  go_simp
  go_at_call 45
  (with_reducible refine (rqmul_any _ _ a b 121 121 _ hx hy hqa hqb (by decide)).mono ?_)
  rintro e w30 hq9
  obtain ⟨nB, nxO, nxL, nxC, nyO, nyL, nyC, rfl, hS, hnx, hny, hn, hb⟩ := hq9.out
  have HnS := Lib.hid hS; clear hS
  replace hba := hba.kept hb
  replace hbv := hbv.kept hb
  replace hbx := hbx.kept hb
  replace hby := hby.kept hb
  replace hbq := hbq.kept hb
  replace hax := hax.below hb
  replace hay := hay.below hb
  replace ha := ha.below hb
  replace hvx := hvx.below hb
  replace hvy := hvy.below hb
  replace hv := hv.below hb
  replace hxx := hxx.below hb
  replace hxy := hxy.below hb
  replace hx := hx.below hb
  replace hyx := hyx.below hb
  replace hyy := hyy.below hb
  replace hy := hy.below hb
  replace hqx := hqx.below hb
  replace hqy := hqy.below hb
  replace hq := hq.below hb
  replace hdx := hdx.below hb
  replace hdy := hdy.below hb
  replace hd := hd.below hb
  replace hex := hex.below hb
  replace hey := hey.below hb
  replace he := he.below hb
  replace hgx := hgx.below hb
  replace hgy := hgy.below hb
  replace hg := hg.below hb
  replace hix := hix.below hb
  replace hiy := hiy.below hb
  replace hi := hi.below hb
  replace hjx := hjx.below hb
  replace hjy := hjy.below hb
  replace hj := hj.below hb
  replace hkx := hkx.below hb
  replace hky := hky.below hb
  replace hk := hk.below hb
  replace hbf := hbf.trans (hb.mono hbf.size)
  clear hb
  first | refine hK.out _ _ ⟨hba, hbv, hbx, hby⟩ (fun _ => ?_) | (go_wp2_with fail; refine hK.out _ _ ⟨hba, hbv, hbx, hby⟩ (fun _ => ?_))
  clear hK K
  (try simp only [Act.put, List.setIfInBounds_toArray, List.set_cons_zero, List.set_cons_succ])
  refine seq_step (by rfl) (fun K hK => ?_)
  go_simp
  go_at_call 13
  (with_reducible refine (same2_any _ _ (a * b) _ hk hn Qml).mono ?_)
  rintro e w31 ⟨rfl, hb⟩
  replace hba := hba.kept hb
  replace hbv := hbv.kept hb
  replace hbx := hbx.kept hb
  replace hby := hby.kept hb
  replace hbq := hbq.kept hb
  replace hax := hax.below hb
  replace hay := hay.below hb
  replace ha := ha.below hb
  replace hvx := hvx.below hb
  replace hvy := hvy.below hb
  replace hv := hv.below hb
  replace hxx := hxx.below hb
  replace hxy := hxy.below hb
  replace hx := hx.below hb
  replace hyx := hyx.below hb
  replace hyy := hyy.below hb
  replace hy := hy.below hb
  replace hqx := hqx.below hb
  replace hqy := hqy.below hb
  replace hq := hq.below hb
  replace hdx := hdx.below hb
  replace hdy := hdy.below hb
  replace hd := hd.below hb
  replace hex := hex.below hb
  replace hey := hey.below hb
  replace he := he.below hb
  replace hgx := hgx.below hb
  replace hgy := hgy.below hb
  replace hg := hg.below hb
  replace hix := hix.below hb
  replace hiy := hiy.below hb
  replace hi := hi.below hb
  replace hjx := hjx.below hb
  replace hjy := hjy.below hb
  replace hj := hj.below hb
  replace hkx := hkx.below hb
  replace hky := hky.below hb
  replace hk := hk.below hb
  replace hnx := hnx.below hb
  replace hny := hny.below hb
  replace hn := hn.below hb
  replace hbf := hbf.trans (hb.mono hbf.size)
  clear hb
  first | refine hK.out _ _ ⟨hba, hbv, hbx, hby⟩ (fun _ => ?_) | (go_wp2_with fail; refine hK.out _ _ ⟨hba, hbv, hbx, hby⟩ (fun _ => ?_))
  clear hK K
  (try simp only [Act.put, List.setIfInBounds_toArray, List.set_cons_zero, List.set_cons_succ])
  repeat (first | (refine seq_take (v := ?_) (by rfl) ?_ ?_; rotate_left; (· intro w hSw; (try dsimp only at hSw); obtain ⟨⟨ea0, ea1, ea2, _, _, _⟩, ⟨ev0, ev1, ev2, _, _, _⟩, ⟨ex0, ex1, ex2, _, _, _⟩, ⟨ey0, ey1, ey2, _, _, _⟩⟩ := hSw; go_simp; all_goals with_reducible rfl); (try simp only [Act.put, List.setIfInBounds_toArray, List.set_cons_zero, List.set_cons_succ])) | (refine seq_leave (by rfl) ?_; (try simp only [Act.put, List.setIfInBounds_toArray, List.set_cons_zero, List.set_cons_succ])))
  refine seq_step (by rfl) (fun K hK => ?_)
  go_simp
  go_at_call 29
  (with_reducible refine (floor_any _ a 121 _ ha hqa (by decide) (by decide)).mono ?_)
  rintro e w32 hq9
  obtain ⟨oB, oxO, oxL, oxC, oyO, oyL, oyC, rfl, hS, hox, hoy, ho, hb⟩ := hq9.out
  have HoS := Lib.hid hS; clear hS
  replace hba := hba.kept hb
  replace hbv := hbv.kept hb
  replace hbx := hbx.kept hb
  replace hby := hby.kept hb
  replace hbq := hbq.kept hb
  replace hax := hax.below hb
  replace hay := hay.below hb
  replace ha := ha.below hb
  replace hvx := hvx.below hb
  replace hvy := hvy.below hb
  replace hv := hv.below hb
  replace hxx := hxx.below hb
  replace hxy := hxy.below hb
  replace hx := hx.below hb
  replace hyx := hyx.below hb
  replace hyy := hyy.below hb
  replace hy := hy.below hb
  replace hqx := hqx.below hb
  replace hqy := hqy.below hb
  replace hq := hq.below hb
  replace hdx := hdx.below hb
  replace hdy := hdy.below hb
  replace hd := hd.below hb
  replace hex := hex.below hb
  replace hey := hey.below hb
  replace he := he.below hb
  replace hgx := hgx.below hb
  replace hgy := hgy.below hb
  replace hg := hg.below hb
  replace hix := hix.below hb
  replace hiy := hiy.below hb
  replace hi := hi.below hb
  replace hjx := hjx.below hb
  replace hjy := hjy.below hb
  replace hj := hj.below hb
  replace hkx := hkx.below hb
  replace hky := hky.below hb
  replace hk := hk.below hb
  replace hnx := hnx.below hb
  replace hny := hny.below hb
  replace hn := hn.below hb
  replace hbf := hbf.trans (hb.mono hbf.size)
  clear hb
  first | refine hK.out _ _ ⟨hba, hbv, hbx, hby⟩ (fun _ => ?_) | (go_wp2_with fail; refine hK.out _ _ ⟨hba, hbv, hbx, hby⟩ (fun _ => ?_))
  clear hK K
  (try simp only [Act.put, List.setIfInBounds_toArray, List.set_cons_zero, List.set_cons_succ])
  refine seq_step (by rfl) (fun K hK => ?_)
  go_simp
  go_at_call 46
  (with_reducible refine (rqfloor_any _ a 121 _ hx hqa (by decide) (by decide)).mono ?_)
  rintro e w33 hq9
  obtain ⟨pB, pxO, pxL, pxC, pyO, pyL, pyC, rfl, hS, hpx, hpy, hp, hb⟩ := hq9.out
  have HpS := Lib.hid hS; clear hS
  replace hba := hba.kept hb
  replace hbv := hbv.kept hb
  replace hbx := hbx.kept hb
  replace hby := hby.kept hb
  replace hbq := hbq.kept hb
  replace hax := hax.below hb
  replace hay := hay.below hb
  replace ha := ha.below hb
  replace hvx := hvx.below hb
  replace hvy := hvy.below hb
  replace hv := hv.below hb
  replace hxx := hxx.below hb
  replace hxy := hxy.below hb
  replace hx := hx.below hb
  replace hyx := hyx.below hb
  replace hyy := hyy.below hb
  replace hy := hy.below hb
  replace hqx := hqx.below hb
  replace hqy := hqy.below hb
  replace hq := hq.below hb
  replace hdx := hdx.below hb
  replace hdy := hdy.below hb
  replace hd := hd.below hb
  replace hex := hex.below hb
  replace hey := hey.below hb
  replace he := he.below hb
  replace hgx := hgx.below hb
  replace hgy := hgy.below hb
  replace hg := hg.below hb
  replace hix := hix.below hb
  replace hiy := hiy.below hb
  replace hi := hi.below hb
  replace hjx := hjx.below hb
  replace hjy := hjy.below hb
  replace hj := hj.below hb
  replace hkx := hkx.below hb
  replace hky := hky.below hb
  replace hk := hk.below hb
  replace hnx := hnx.below hb
  replace hny := hny.below hb
  replace hn := hn.below hb
  replace hox := hox.below hb
  replace hoy := hoy.below hb
  replace ho := ho.below hb
  replace hbf := hbf.trans (hb.mono hbf.size)
  clear hb
  first | refine hK.out _ _ ⟨hba, hbv, hbx, hby⟩ (fun _ => ?_) | (go_wp2_with fail; refine hK.out _ _ ⟨hba, hbv, hbx, hby⟩ (fun _ => ?_))
  clear hK K
  (try simp only [Act.put, List.setIfInBounds_toArray, List.set_cons_zero, List.set_cons_succ])
  refine seq_step (by rfl) (fun K hK => ?_)
  go_simp
  go_at_call 13
  (with_reducible refine (same2_any _ _ _ _ ho hp Qfl).mono ?_)
  rintro e w34 ⟨rfl, hb⟩
  replace hba := hba.kept hb
  replace hbv := hbv.kept hb
  replace hbx := hbx.kept hb
  replace hby := hby.kept hb
  replace hbq := hbq.kept hb
  replace hax := hax.below hb
  replace hay := hay.below hb
  replace ha := ha.below hb
  replace hvx := hvx.below hb
  replace hvy := hvy.below hb
  replace hv := hv.below hb
  replace hxx := hxx.below hb
  replace hxy := hxy.below hb
  replace hx := hx.below hb
  replace hyx := hyx.below hb
  replace hyy := hyy.below hb
  replace hy := hy.below hb
  replace hqx := hqx.below hb
  replace hqy := hqy.below hb
  replace hq := hq.below hb
  replace hdx := hdx.below hb
  replace hdy := hdy.below hb
  replace hd := hd.below hb
  replace hex := hex.below hb
  replace hey := hey.below hb
  replace he := he.below hb
  replace hgx := hgx.below hb
  replace hgy := hgy.below hb
  replace hg := hg.below hb
  replace hix := hix.below hb
  replace hiy := hiy.below hb
  replace hi := hi.below hb
  replace hjx := hjx.below hb
  replace hjy := hjy.below hb
  replace hj := hj.below hb
  replace hkx := hkx.below hb
  replace hky := hky.below hb
  replace hk := hk.below hb
  replace hnx := hnx.below hb
  replace hny := hny.below hb
  replace hn := hn.below hb
  replace hox := hox.below hb
  replace hoy := hoy.below hb
  replace ho := ho.below hb
  replace hpx := hpx.below hb
  replace hpy := hpy.below hb
  replace hp := hp.below hb
  replace hbf := hbf.trans (hb.mono hbf.size)
  clear hb
  first | refine hK.out _ _ ⟨hba, hbv, hbx, hby⟩ (fun _ => ?_) | (go_wp2_with fail; refine hK.out _ _ ⟨hba, hbv, hbx, hby⟩ (fun _ => ?_))
  clear hK K
  (try simp only [Act.put, List.setIfInBounds_toArray, List.set_cons_zero, List.set_cons_succ])
  repeat (first | (refine seq_take (v := ?_) (by rfl) ?_ ?_; rotate_left; (· intro w hSw; (try dsimp only at hSw); obtain ⟨⟨ea0, ea1, ea2, _, _, _⟩, ⟨ev0, ev1, ev2, _, _, _⟩, ⟨ex0, ex1, ex2, _, _, _⟩, ⟨ey0, ey1, ey2, _, _, _⟩⟩ := hSw; go_simp; all_goals with_reducible rfl); (try simp only [Act.put, List.setIfInBounds_toArray, List.set_cons_zero, List.set_cons_succ])) | (refine seq_leave (by rfl) ?_; (try simp only [Act.put, List.setIfInBounds_toArray, List.set_cons_zero, List.set_cons_succ])))
  refine seq_step (by rfl) (fun K hK => ?_)
  go_simp
  go_at_call 30
  (with_reducible refine (ceil_any _ a 121 _ ha hqa (by decide) (by decide)).mono ?_)
  rintro e w35 hq9
  obtain ⟨rB, rxO, rxL, rxC, ryO, ryL, ryC, rfl, hS, hrx, hry, hr, hb⟩ := hq9.out
  have HrS := Lib.hid hS; clear hS
  replace hba := hba.kept hb
  replace hbv := hbv.kept hb
  replace hbx := hbx.kept hb
  replace hby := hby.kept hb
  replace hbq := hbq.kept hb
  replace hax := hax.below hb
  replace hay := hay.below hb
  replace ha := ha.below hb
  replace hvx := hvx.below hb
  replace hvy := hvy.below hb
  replace hv := hv.below hb
  replace hxx := hxx.below hb
  replace hxy := hxy.below hb
  replace hx := hx.below hb
  replace hyx := hyx.below hb
  replace hyy := hyy.below hb
  replace hy := hy.below hb
  replace hqx := hqx.below hb
  replace hqy := hqy.below hb
  replace hq := hq.below hb
  replace hdx := hdx.below hb
  replace hdy := hdy.below hb
  replace hd := hd.below hb
  replace hex := hex.below hb
  replace hey := hey.below hb
  replace he := he.below hb
  replace hgx := hgx.below hb
  replace hgy := hgy.below hb
  replace hg := hg.below hb
  replace hix := hix.below hb
  replace hiy := hiy.below hb
  replace hi := hi.below hb
  replace hjx := hjx.below hb
  replace hjy := hjy.below hb
  replace hj := hj.below hb
  replace hkx := hkx.below hb
  replace hky := hky.below hb
  replace hk := hk.below hb
  replace hnx := hnx.below hb
  replace hny := hny.below hb
  replace hn := hn.below hb
  replace hox := hox.below hb
  replace hoy := hoy.below hb
  replace ho := ho.below hb
  replace hpx := hpx.below hb
  replace hpy := hpy.below hb
  replace hp := hp.below hb
  replace hbf := hbf.trans (hb.mono hbf.size)
  clear hb
  first | refine hK.out _ _ ⟨hba, hbv, hbx, hby⟩ (fun _ => ?_) | (go_wp2_with fail; refine hK.out _ _ ⟨hba, hbv, hbx, hby⟩ (fun _ => ?_))
  clear hK K
  (try simp only [Act.put, List.setIfInBounds_toArray, List.set_cons_zero, List.set_cons_succ])
  refine seq_step (by rfl) (fun K hK => ?_)
  go_simp
  go_at_call 47
  (with_reducible refine (rqceil_any _ a 121 _ hx hqa (by decide) (by decide)).mono ?_)
  rintro e w36 hq9
  obtain ⟨sB, sxO, sxL, sxC, syO, syL, syC, rfl, hS, hsx, hsy, hs, hb⟩ := hq9.out
  have HsS := Lib.hid hS; clear hS
  replace hba := hba.kept hb
  replace hbv := hbv.kept hb
  replace hbx := hbx.kept hb
  replace hby := hby.kept hb
  replace hbq := hbq.kept hb
  replace hax := hax.below hb
  replace hay := hay.below hb
  replace ha := ha.below hb
  replace hvx := hvx.below hb
  replace hvy := hvy.below hb
  replace hv := hv.below hb
  replace hxx := hxx.below hb
  replace hxy := hxy.below hb
  replace hx := hx.below hb
  replace hyx := hyx.below hb
  replace hyy := hyy.below hb
  replace hy := hy.below hb
  replace hqx := hqx.below hb
  replace hqy := hqy.below hb
  replace hq := hq.below hb
  replace hdx := hdx.below hb
  replace hdy := hdy.below hb
  replace hd := hd.below hb
  replace hex := hex.below hb
  replace hey := hey.below hb
  replace he := he.below hb
  replace hgx := hgx.below hb
  replace hgy := hgy.below hb
  replace hg := hg.below hb
  replace hix := hix.below hb
  replace hiy := hiy.below hb
  replace hi := hi.below hb
  replace hjx := hjx.below hb
  replace hjy := hjy.below hb
  replace hj := hj.below hb
  replace hkx := hkx.below hb
  replace hky := hky.below hb
  replace hk := hk.below hb
  replace hnx := hnx.below hb
  replace hny := hny.below hb
  replace hn := hn.below hb
  replace hox := hox.below hb
  replace hoy := hoy.below hb
  replace ho := ho.below hb
  replace hpx := hpx.below hb
  replace hpy := hpy.below hb
  replace hp := hp.below hb
  replace hrx := hrx.below hb
  replace hry := hry.below hb
  replace hr := hr.below hb
  replace hbf := hbf.trans (hb.mono hbf.size)
  clear hb
  first | refine hK.out _ _ ⟨hba, hbv, hbx, hby⟩ (fun _ => ?_) | (go_wp2_with fail; refine hK.out _ _ ⟨hba, hbv, hbx, hby⟩ (fun _ => ?_))
  clear hK K
  (try simp only [Act.put, List.setIfInBounds_toArray, List.set_cons_zero, List.set_cons_succ])
  refine seq_step (by rfl) (fun K hK => ?_)
  go_simp
  go_at_call 13
  (with_reducible refine (same2_any _ _ _ _ hr hs Qcl).mono ?_)
  rintro e w37 ⟨rfl, hb⟩
  replace hba := hba.kept hb
  replace hbv := hbv.kept hb
  replace hbx := hbx.kept hb
  replace hby := hby.kept hb
  replace hbq := hbq.kept hb
  replace hax := hax.below hb
  replace hay := hay.below hb
  replace ha := ha.below hb
  replace hvx := hvx.below hb
  replace hvy := hvy.below hb
  replace hv := hv.below hb
  replace hxx := hxx.below hb
  replace hxy := hxy.below hb
  replace hx := hx.below hb
  replace hyx := hyx.below hb
  replace hyy := hyy.below hb
  replace hy := hy.below hb
  replace hqx := hqx.below hb
  replace hqy := hqy.below hb
  replace hq := hq.below hb
  replace hdx := hdx.below hb
  replace hdy := hdy.below hb
  replace hd := hd.below hb
  replace hex := hex.below hb
  replace hey := hey.below hb
  replace he := he.below hb
  replace hgx := hgx.below hb
  replace hgy := hgy.below hb
  replace hg := hg.below hb
  replace hix := hix.below hb
  replace hiy := hiy.below hb
  replace hi := hi.below hb
  replace hjx := hjx.below hb
  replace hjy := hjy.below hb
  replace hj := hj.below hb
  replace hkx := hkx.below hb
  replace hky := hky.below hb
  replace hk := hk.below hb
  replace hnx := hnx.below hb
  replace hny := hny.below hb
  replace hn := hn.below hb
  replace hox := hox.below hb
  replace hoy := hoy.below hb
  replace ho := ho.below hb
  replace hpx := hpx.below hb
  replace hpy := hpy.below hb
  replace hp := hp.below hb
  replace hrx := hrx.below hb
  replace hry := hry.below hb
  replace hr := hr.below hb
  replace hsx := hsx.below hb
  replace hsy := hsy.below hb
  replace hs := hs.below hb
  replace hbf := hbf.trans (hb.mono hbf.size)
  clear hb
  first | refine hK.out _ _ ⟨hba, hbv, hbx, hby⟩ (fun _ => ?_) | (go_wp2_with fail; refine hK.out _ _ ⟨hba, hbv, hbx, hby⟩ (fun _ => ?_))
  clear hK K
  (try simp only [Act.put, List.setIfInBounds_toArray, List.set_cons_zero, List.set_cons_succ])
  repeat (first | (refine seq_take (v := ?_) (by rfl) ?_ ?_; rotate_left; (· intro w hSw; (try dsimp only at hSw); obtain ⟨⟨ea0, ea1, ea2, _, _, _⟩, ⟨ev0, ev1, ev2, _, _, _⟩, ⟨ex0, ex1, ex2, _, _, _⟩, ⟨ey0, ey1, ey2, _, _, _⟩⟩ := hSw; go_simp; all_goals with_reducible rfl); (try simp only [Act.put, List.setIfInBounds_toArray, List.set_cons_zero, List.set_cons_succ])) | (refine seq_leave (by rfl) ?_; (try simp only [Act.put, List.setIfInBounds_toArray, List.set_cons_zero, List.set_cons_succ])))
  refine seq_step (by rfl) (fun K hK => ?_)
  go_simp
  go_at_call 24
  (with_reducible refine (round_any _ a 121 _ ha hqa (by decide)).mono ?_)
  rintro e w38 hq9
  obtain ⟨tB, txO, txL, txC, tyO, tyL, tyC, rfl, hS, htx, hty, ht, hb⟩ := hq9.out
  have HtS := Lib.hid hS; clear hS
  replace hba := hba.kept hb
  replace hbv := hbv.kept hb
  replace hbx := hbx.kept hb
  replace hby := hby.kept hb
  replace hbq := hbq.kept hb
  replace hax := hax.below hb
  replace hay := hay.below hb
  replace ha := ha.below hb
  replace hvx := hvx.below hb
  replace hvy := hvy.below hb
  replace hv := hv.below hb
  replace hxx := hxx.below hb
  replace hxy := hxy.below hb
  replace hx := hx.below hb
  replace hyx := hyx.below hb
  replace hyy := hyy.below hb
  replace hy := hy.below hb
  replace hqx := hqx.below hb
  replace hqy := hqy.below hb
  replace hq := hq.below hb
  replace hdx := hdx.below hb
  replace hdy := hdy.below hb
  replace hd := hd.below hb
  replace hex := hex.below hb
  replace hey := hey.below hb
  replace he := he.below hb
  replace hgx := hgx.below hb
  replace hgy := hgy.below hb
  replace hg := hg.below hb
  replace hix := hix.below hb
  replace hiy := hiy.below hb
  replace hi := hi.below hb
  replace hjx := hjx.below hb
  replace hjy := hjy.below hb
  replace hj := hj.below hb
  replace hkx := hkx.below hb
  replace hky := hky.below hb
  replace hk := hk.below hb
  replace hnx := hnx.below hb
  replace hny := hny.below hb
  replace hn := hn.below hb
  replace hox := hox.below hb
  replace hoy := hoy.below hb
  replace ho := ho.below hb
  replace hpx := hpx.below hb
  replace hpy := hpy.below hb
  replace hp := hp.below hb
  replace hrx := hrx.below hb
  replace hry := hry.below hb
  replace hr := hr.below hb
  replace hsx := hsx.below hb
  replace hsy := hsy.below hb
  replace hs := hs.below hb
  replace hbf := hbf.trans (hb.mono hbf.size)
  clear hb
  first | refine hK.out _ _ ⟨hba, hbv, hbx, hby⟩ (fun _ => ?_) | (go_wp2_with fail; refine hK.out _ _ ⟨hba, hbv, hbx, hby⟩ (fun _ => ?_))
  clear hK K
  (try simp only [Act.put, List.setIfInBounds_toArray, List.set_cons_zero, List.set_cons_succ])
  refine seq_step (by rfl) (fun K hK => ?_)
  go_simp
  go_at_call 48
  (with_reducible refine (rqround_any _ a 121 _ hx hqa (by decide)).mono ?_)
  rintro e w39 hq9
  obtain ⟨uB, uxO, uxL, uxC, uyO, uyL, uyC, rfl, hS, hux, huy, hu, hb⟩ := hq9.out
  have HuS := Lib.hid hS; clear hS
  replace hba := hba.kept hb
  replace hbv := hbv.kept hb
  replace hbx := hbx.kept hb
  replace hby := hby.kept hb
  replace hbq := hbq.kept hb
  replace hax := hax.below hb
  replace hay := hay.below hb
  replace ha := ha.below hb
  replace hvx := hvx.below hb
  replace hvy := hvy.below hb
  replace hv := hv.below hb
  replace hxx := hxx.below hb
  replace hxy := hxy.below hb
  replace hx := hx.below hb
  replace hyx := hyx.below hb
  replace hyy := hyy.below hb
  replace hy := hy.below hb
  replace hqx := hqx.below hb
  replace hqy := hqy.below hb
  replace hq := hq.below hb
  replace hdx := hdx.below hb
  replace hdy := hdy.below hb
  replace hd := hd.below hb
  replace hex := hex.below hb
  replace hey := hey.below hb
  replace he := he.below hb
  replace hgx := hgx.below hb
  replace hgy := hgy.below hb
  replace hg := hg.below hb
  replace hix := hix.below hb
  replace hiy := hiy.below hb
  replace hi := hi.below hb
  replace hjx := hjx.below hb
  replace hjy := hjy.below hb
  replace hj := hj.below hb
  replace hkx := hkx.below hb
  replace hky := hky.below hb
  replace hk := hk.below hb
  replace hnx := hnx.below hb
  replace hny := hny.below hb
  replace hn := hn.below hb
  replace hox := hox.below hb
  replace hoy := hoy.below hb
  replace ho := ho.below hb
  replace hpx := hpx.below hb
  replace hpy := hpy.below hb
  replace hp := hp.below hb
  replace hrx := hrx.below hb
  replace hry := hry.below hb
  replace hr := hr.below hb
  replace hsx := hsx.below hb
  replace hsy := hsy.below hb
  replace hs := hs.below hb
  replace htx := htx.below hb
  replace hty := hty.below hb
  replace ht := ht.below hb
  replace hbf := hbf.trans (hb.mono hbf.size)
  clear hb
  first | refine hK.out _ _ ⟨hba, hbv, hbx, hby⟩ (fun _ => ?_) | (go_wp2_with fail; refine hK.out _ _ ⟨hba, hbv, hbx, hby⟩ (fun _ => ?_))
  clear hK K
  (try simp only [Act.put, List.setIfInBounds_toArray, List.set_cons_zero, List.set_cons_succ])
  refine seq_step (by rfl) (fun K hK => ?_)
  go_simp
  go_at_call 13
  (with_reducible refine (same2_any _ _ _ _ ht hu Qrd).mono ?_)
  rintro e w40 ⟨rfl, hb⟩
  replace hba := hba.kept hb
  replace hbv := hbv.kept hb
  replace hbx := hbx.kept hb
  replace hby := hby.kept hb
  replace hbq := hbq.kept hb
  replace hax := hax.below hb
  replace hay := hay.below hb
  replace ha := ha.below hb
  replace hvx := hvx.below hb
  replace hvy := hvy.below hb
  replace hv := hv.below hb
  replace hxx := hxx.below hb
  replace hxy := hxy.below hb
  replace hx := hx.below hb
  replace hyx := hyx.below hb
  replace hyy := hyy.below hb
  replace hy := hy.below hb
  replace hqx := hqx.below hb
  replace hqy := hqy.below hb
  replace hq := hq.below hb
  replace hdx := hdx.below hb
  replace hdy := hdy.below hb
  replace hd := hd.below hb
  replace hex := hex.below hb
  replace hey := hey.below hb
  replace he := he.below hb
  replace hgx := hgx.below hb
  replace hgy := hgy.below hb
  replace hg := hg.below hb
  replace hix := hix.below hb
  replace hiy := hiy.below hb
  replace hi := hi.below hb
  replace hjx := hjx.below hb
  replace hjy := hjy.below hb
  replace hj := hj.below hb
  replace hkx := hkx.below hb
  replace hky := hky.below hb
  replace hk := hk.below hb
  replace hnx := hnx.below hb
  replace hny := hny.below hb
  replace hn := hn.below hb
  replace hox := hox.below hb
  replace hoy := hoy.below hb
  replace ho := ho.below hb
  replace hpx := hpx.below hb
  replace hpy := hpy.below hb
  replace hp := hp.below hb
  replace hrx := hrx.below hb
  replace hry := hry.below hb
  replace hr := hr.below hb
  replace hsx := hsx.below hb
  replace hsy := hsy.below hb
  replace hs := hs.below hb
  replace htx := htx.below hb
  replace hty := hty.below hb
  replace ht := ht.below hb
  replace hux := hux.below hb
  replace huy := huy.below hb
  replace hu := hu.below hb
  replace hbf := hbf.trans (hb.mono hbf.size)
  clear hb
  first | refine hK.out _ _ ⟨hba, hbv, hbx, hby⟩ (fun _ => ?_) | (go_wp2_with fail; refine hK.out _ _ ⟨hba, hbv, hbx, hby⟩ (fun _ => ?_))
  clear hK K
  (try simp only [Act.put, List.setIfInBounds_toArray, List.set_cons_zero, List.set_cons_succ])
  repeat (first | (refine seq_take (v := ?_) (by rfl) ?_ ?_; rotate_left; (· intro w hSw; (try dsimp only at hSw); obtain ⟨⟨ea0, ea1, ea2, _, _, _⟩, ⟨ev0, ev1, ev2, _, _, _⟩, ⟨ex0, ex1, ex2, _, _, _⟩, ⟨ey0, ey1, ey2, _, _, _⟩⟩ := hSw; go_simp; all_goals with_reducible rfl); (try simp only [Act.put, List.setIfInBounds_toArray, List.set_cons_zero, List.set_cons_succ])) | (refine seq_leave (by rfl) ?_; (try simp only [Act.put, List.setIfInBounds_toArray, List.set_cons_zero, List.set_cons_succ])))
  refine seq_step (by rfl) (fun K hK => ?_)
  go_simp
  go_at_call 27
  (with_reducible refine (whole_b _ a o9 _ ha HO9).mono ?_)
  rintro e w41 ⟨rfl, hb⟩
  replace hba := hba.kept hb
  replace hbv := hbv.kept hb
  replace hbx := hbx.kept hb
  replace hby := hby.kept hb
  replace hbq := hbq.kept hb
  replace hax := hax.below hb
  replace hay := hay.below hb
  replace ha := ha.below hb
  replace hvx := hvx.below hb
  replace hvy := hvy.below hb
  replace hv := hv.below hb
  replace hxx := hxx.below hb
  replace hxy := hxy.below hb
  replace hx := hx.below hb
  replace hyx := hyx.below hb
  replace hyy := hyy.below hb
  replace hy := hy.below hb
  replace hqx := hqx.below hb
  replace hqy := hqy.below hb
  replace hq := hq.below hb
  replace hdx := hdx.below hb
  replace hdy := hdy.below hb
  replace hd := hd.below hb
  replace hex := hex.below hb
  replace hey := hey.below hb
  replace he := he.below hb
  replace hgx := hgx.below hb
  replace hgy := hgy.below hb
  replace hg := hg.below hb
  replace hix := hix.below hb
  replace hiy := hiy.below hb
  replace hi := hi.below hb
  replace hjx := hjx.below hb
  replace hjy := hjy.below hb
  replace hj := hj.below hb
  replace hkx := hkx.below hb
  replace hky := hky.below hb
  replace hk := hk.below hb
  replace hnx := hnx.below hb
  replace hny := hny.below hb
  replace hn := hn.below hb
  replace hox := hox.below hb
  replace hoy := hoy.below hb
  replace ho := ho.below hb
  replace hpx := hpx.below hb
  replace hpy := hpy.below hb
  replace hp := hp.below hb
  replace hrx := hrx.below hb
  replace hry := hry.below hb
  replace hr := hr.below hb
  replace hsx := hsx.below hb
  replace hsy := hsy.below hb
  replace hs := hs.below hb
  replace htx := htx.below hb
  replace hty := hty.below hb
  replace ht := ht.below hb
  replace hux := hux.below hb
  replace huy := huy.below hb
  replace hu := hu.below hb
  replace hbf := hbf.trans (hb.mono hbf.size)
  clear hb
  first | refine hK.out _ _ ⟨hba, hbv, hbx, hby⟩ (fun _ => ?_) | (go_wp2_with fail; refine hK.out _ _ ⟨hba, hbv, hbx, hby⟩ (fun _ => ?_))
  clear hK K
  (try simp only [Act.put, List.setIfInBounds_toArray, List.set_cons_zero, List.set_cons_succ])
  repeat (first | (refine seq_take (v := ?_) (by rfl) ?_ ?_; rotate_left; (· intro w hSw; (try dsimp only at hSw); obtain ⟨⟨ea0, ea1, ea2, _, _, _⟩, ⟨ev0, ev1, ev2, _, _, _⟩, ⟨ex0, ex1, ex2, _, _, _⟩, ⟨ey0, ey1, ey2, _, _, _⟩⟩ := hSw; go_simp; all_goals with_reducible rfl); (try simp only [Act.put, List.setIfInBounds_toArray, List.set_cons_zero, List.set_cons_succ])) | (refine seq_leave (by rfl) ?_; (try simp only [Act.put, List.setIfInBounds_toArray, List.set_cons_zero, List.set_cons_succ])))
  refine seq_step (by rfl) (fun K hK => ?_)
  go_simp
  go_at_call 26
  (with_reducible refine (neg_b _ a xB _ ha HNX).mono ?_)
  rintro e w42 ⟨rfl, hb⟩
  replace hba := hba.kept hb
  replace hbv := hbv.kept hb
  replace hbx := hbx.kept hb
  replace hby := hby.kept hb
  replace hbq := hbq.kept hb
  replace hax := hax.below hb
  replace hay := hay.below hb
  replace ha := ha.below hb
  replace hvx := hvx.below hb
  replace hvy := hvy.below hb
  replace hv := hv.below hb
  replace hxx := hxx.below hb
  replace hxy := hxy.below hb
  replace hx := hx.below hb
  replace hyx := hyx.below hb
  replace hyy := hyy.below hb
  replace hy := hy.below hb
  replace hqx := hqx.below hb
  replace hqy := hqy.below hb
  replace hq := hq.below hb
  replace hdx := hdx.below hb
  replace hdy := hdy.below hb
  replace hd := hd.below hb
  replace hex := hex.below hb
  replace hey := hey.below hb
  replace he := he.below hb
  replace hgx := hgx.below hb
  replace hgy := hgy.below hb
  replace hg := hg.below hb
  replace hix := hix.below hb
  replace hiy := hiy.below hb
  replace hi := hi.below hb
  replace hjx := hjx.below hb
  replace hjy := hjy.below hb
  replace hj := hj.below hb
  replace hkx := hkx.below hb
  replace hky := hky.below hb
  replace hk := hk.below hb
  replace hnx := hnx.below hb
  replace hny := hny.below hb
  replace hn := hn.below hb
  replace hox := hox.below hb
  replace hoy := hoy.below hb
  replace ho := ho.below hb
  replace hpx := hpx.below hb
  replace hpy := hpy.below hb
  replace hp := hp.below hb
  replace hrx := hrx.below hb
  replace hry := hry.below hb
  replace hr := hr.below hb
  replace hsx := hsx.below hb
  replace hsy := hsy.below hb
  replace hs := hs.below hb
  replace htx := htx.below hb
  replace hty := hty.below hb
  replace ht := ht.below hb
  replace hux := hux.below hb
  replace huy := huy.below hb
  replace hu := hu.below hb
  replace hbf := hbf.trans (hb.mono hbf.size)
  clear hb
  first | refine hK.out _ _ ⟨hba, hbv, hbx, hby⟩ (fun _ => ?_) | (go_wp2_with fail; refine hK.out _ _ ⟨hba, hbv, hbx, hby⟩ (fun _ => ?_))
  clear hK K
  (try simp only [Act.put, List.setIfInBounds_toArray, List.set_cons_zero, List.set_cons_succ])
  repeat (first | (refine seq_take (v := ?_) (by rfl) ?_ ?_; rotate_left; (· intro w hSw; (try dsimp only at hSw); obtain ⟨⟨ea0, ea1, ea2, _, _, _⟩, ⟨ev0, ev1, ev2, _, _, _⟩, ⟨ex0, ex1, ex2, _, _, _⟩, ⟨ey0, ey1, ey2, _, _, _⟩⟩ := hSw; go_simp; all_goals with_reducible rfl); (try simp only [Act.put, List.setIfInBounds_toArray, List.set_cons_zero, List.set_cons_succ])) | (refine seq_leave (by rfl) ?_; (try simp only [Act.put, List.setIfInBounds_toArray, List.set_cons_zero, List.set_cons_succ])))
  refine seq_step (by rfl) (fun K hK => ?_)
  go_simp
  go_at_call 22
  (with_reducible refine (num_any _ a _ ha).mono ?_)
  rintro e w43 ⟨r9, rfl, hc, hb⟩
  obtain ⟨cO, cL, cC, rfl⟩ := hc.form
  replace hba := hba.kept hb
  replace hbv := hbv.kept hb
  replace hbx := hbx.kept hb
  replace hby := hby.kept hb
  replace hbq := hbq.kept hb
  replace hax := hax.below hb
  replace hay := hay.below hb
  replace ha := ha.below hb
  replace hvx := hvx.below hb
  replace hvy := hvy.below hb
  replace hv := hv.below hb
  replace hxx := hxx.below hb
  replace hxy := hxy.below hb
  replace hx := hx.below hb
  replace hyx := hyx.below hb
  replace hyy := hyy.below hb
  replace hy := hy.below hb
  replace hqx := hqx.below hb
  replace hqy := hqy.below hb
  replace hq := hq.below hb
  replace hdx := hdx.below hb
  replace hdy := hdy.below hb
  replace hd := hd.below hb
  replace hex := hex.below hb
  replace hey := hey.below hb
  replace he := he.below hb
  replace hgx := hgx.below hb
  replace hgy := hgy.below hb
  replace hg := hg.below hb
  replace hix := hix.below hb
  replace hiy := hiy.below hb
  replace hi := hi.below hb
  replace hjx := hjx.below hb
  replace hjy := hjy.below hb
  replace hj := hj.below hb
  replace hkx := hkx.below hb
  replace hky := hky.below hb
  replace hk := hk.below hb
  replace hnx := hnx.below hb
  replace hny := hny.below hb
  replace hn := hn.below hb
  replace hox := hox.below hb
  replace hoy := hoy.below hb
  replace ho := ho.below hb
  replace hpx := hpx.below hb
  replace hpy := hpy.below hb
  replace hp := hp.below hb
  replace hrx := hrx.below hb
  replace hry := hry.below hb
  replace hr := hr.below hb
  replace hsx := hsx.below hb
  replace hsy := hsy.below hb
  replace hs := hs.below hb
  replace htx := htx.below hb
  replace hty := hty.below hb
  replace ht := ht.below hb
  replace hux := hux.below hb
  replace huy := huy.below hb
  replace hu := hu.below hb
  replace hbf := hbf.trans (hb.mono hbf.size)
  clear hb
  first | refine hK.out _ _ ⟨hba, hbv, hbx, hby⟩ (fun _ => ?_) | (go_wp2_with fail; refine hK.out _ _ ⟨hba, hbv, hbx, hby⟩ (fun _ => ?_))
  clear hK K
  (try simp only [Act.put, List.setIfInBounds_toArray, List.set_cons_zero, List.set_cons_succ])
  refine seq_step (by rfl) (fun K hK => ?_)
  go_simp
  go_at_call 19
  (with_reducible refine (text_s _ a.num.natAbs N1 _ hc g3 HN1).mono ?_)
  rintro e w44 ⟨rfl, hb⟩
  replace hba := hba.kept hb
  replace hbv := hbv.kept hb
  replace hbx := hbx.kept hb
  replace hby := hby.kept hb
  replace hbq := hbq.kept hb
  replace hax := hax.below hb
  replace hay := hay.below hb
  replace ha := ha.below hb
  replace hvx := hvx.below hb
  replace hvy := hvy.below hb
  replace hv := hv.below hb
  replace hxx := hxx.below hb
  replace hxy := hxy.below hb
  replace hx := hx.below hb
  replace hyx := hyx.below hb
  replace hyy := hyy.below hb
  replace hy := hy.below hb
  replace hqx := hqx.below hb
  replace hqy := hqy.below hb
  replace hq := hq.below hb
  replace hdx := hdx.below hb
  replace hdy := hdy.below hb
  replace hd := hd.below hb
  replace hex := hex.below hb
  replace hey := hey.below hb
  replace he := he.below hb
  replace hgx := hgx.below hb
  replace hgy := hgy.below hb
  replace hg := hg.below hb
  replace hix := hix.below hb
  replace hiy := hiy.below hb
  replace hi := hi.below hb
  replace hjx := hjx.below hb
  replace hjy := hjy.below hb
  replace hj := hj.below hb
  replace hkx := hkx.below hb
  replace hky := hky.below hb
  replace hk := hk.below hb
  replace hnx := hnx.below hb
  replace hny := hny.below hb
  replace hn := hn.below hb
  replace hox := hox.below hb
  replace hoy := hoy.below hb
  replace ho := ho.below hb
  replace hpx := hpx.below hb
  replace hpy := hpy.below hb
  replace hp := hp.below hb
  replace hrx := hrx.below hb
  replace hry := hry.below hb
  replace hr := hr.below hb
  replace hsx := hsx.below hb
  replace hsy := hsy.below hb
  replace hs := hs.below hb
  replace htx := htx.below hb
  replace hty := hty.below hb
  replace ht := ht.below hb
  replace hux := hux.below hb
  replace huy := huy.below hb
  replace hu := hu.below hb
  replace hc := hc.below hb
  replace hbf := hbf.trans (hb.mono hbf.size)
  clear hb
  first | refine hK.out _ _ ⟨hba, hbv, hbx, hby⟩ (fun _ => ?_) | (go_wp2_with fail; refine hK.out _ _ ⟨hba, hbv, hbx, hby⟩ (fun _ => ?_))
  clear hK K
  (try simp only [Act.put, List.setIfInBounds_toArray, List.set_cons_zero, List.set_cons_succ])
  refine seq_step (by rfl) (fun K hK => ?_)
  go_simp
  go_at_call 43
  (with_reducible refine (rtext_s _ a.num.natAbs N1 _ hxx g1 HN1).mono ?_)
  rintro e w45 ⟨rfl, hb⟩
  replace hba := hba.kept hb
  replace hbv := hbv.kept hb
  replace hbx := hbx.kept hb
  replace hby := hby.kept hb
  replace hbq := hbq.kept hb
  replace hax := hax.below hb
  replace hay := hay.below hb
  replace ha := ha.below hb
  replace hvx := hvx.below hb
  replace hvy := hvy.below hb
  replace hv := hv.below hb
  replace hxx := hxx.below hb
  replace hxy := hxy.below hb
  replace hx := hx.below hb
  replace hyx := hyx.below hb
  replace hyy := hyy.below hb
  replace hy := hy.below hb
  replace hqx := hqx.below hb
  replace hqy := hqy.below hb
  replace hq := hq.below hb
  replace hdx := hdx.below hb
  replace hdy := hdy.below hb
  replace hd := hd.below hb
  replace hex := hex.below hb
  replace hey := hey.below hb
  replace he := he.below hb
  replace hgx := hgx.below hb
  replace hgy := hgy.below hb
  replace hg := hg.below hb
  replace hix := hix.below hb
  replace hiy := hiy.below hb
  replace hi := hi.below hb
  replace hjx := hjx.below hb
  replace hjy := hjy.below hb
  replace hj := hj.below hb
  replace hkx := hkx.below hb
  replace hky := hky.below hb
  replace hk := hk.below hb
  replace hnx := hnx.below hb
  replace hny := hny.below hb
  replace hn := hn.below hb
  replace hox := hox.below hb
  replace hoy := hoy.below hb
  replace ho := ho.below hb
  replace hpx := hpx.below hb
  replace hpy := hpy.below hb
  replace hp := hp.below hb
  replace hrx := hrx.below hb
  replace hry := hry.below hb
  replace hr := hr.below hb
  replace hsx := hsx.below hb
  replace hsy := hsy.below hb
  replace hs := hs.below hb
  replace htx := htx.below hb
  replace hty := hty.below hb
  replace ht := ht.below hb
  replace hux := hux.below hb
  replace huy := huy.below hb
  replace hu := hu.below hb
  replace hc := hc.below hb
  replace hbf := hbf.trans (hb.mono hbf.size)
  clear hb
  first | refine hK.out _ _ ⟨hba, hbv, hbx, hby⟩ (fun _ => ?_) | (go_wp2_with fail; refine hK.out _ _ ⟨hba, hbv, hbx, hby⟩ (fun _ => ?_))
  clear hK K
  (try simp only [Act.put, List.setIfInBounds_toArray, List.set_cons_zero, List.set_cons_succ])
  repeat (first | (refine seq_take (v := ?_) (by rfl) ?_ ?_; rotate_left; (· intro w hSw; (try dsimp only at hSw); obtain ⟨⟨ea0, ea1, ea2, _, _, _⟩, ⟨ev0, ev1, ev2, _, _, _⟩, ⟨ex0, ex1, ex2, _, _, _⟩, ⟨ey0, ey1, ey2, _, _, _⟩⟩ := hSw; go_simp; all_goals with_reducible rfl); (try simp only [Act.put, List.setIfInBounds_toArray, List.set_cons_zero, List.set_cons_succ])) | (refine seq_leave (by rfl) ?_; (try simp only [Act.put, List.setIfInBounds_toArray, List.set_cons_zero, List.set_cons_succ])))
  refine seq_step (by rfl) (fun K hK => ?_)
  go_simp
  go_at_call 23
  (with_reducible refine (den_any _ a _ ha).mono ?_)
  rintro e w46 ⟨r9, rfl, hw, hb⟩
  obtain ⟨wO, wL, wC, rfl⟩ := hw.form
  replace hba := hba.kept hb
  replace hbv := hbv.kept hb
  replace hbx := hbx.kept hb
  replace hby := hby.kept hb
  replace hbq := hbq.kept hb
  replace hax := hax.below hb
  replace hay := hay.below hb
  replace ha := ha.below hb
  replace hvx := hvx.below hb
  replace hvy := hvy.below hb
  replace hv := hv.below hb
  replace hxx := hxx.below hb
  replace hxy := hxy.below hb
  replace hx := hx.below hb
  replace hyx := hyx.below hb
  replace hyy := hyy.below hb
  replace hy := hy.below hb
  replace hqx := hqx.below hb
  replace hqy := hqy.below hb
  replace hq := hq.below hb
  replace hdx := hdx.below hb
  replace hdy := hdy.below hb
  replace hd := hd.below hb
  replace hex := hex.below hb
  replace hey := hey.below hb
  replace he := he.below hb
  replace hgx := hgx.below hb
  replace hgy := hgy.below hb
  replace hg := hg.below hb
  replace hix := hix.below hb
  replace hiy := hiy.below hb
  replace hi := hi.below hb
  replace hjx := hjx.below hb
  replace hjy := hjy.below hb
  replace hj := hj.below hb
  replace hkx := hkx.below hb
  replace hky := hky.below hb
  replace hk := hk.below hb
  replace hnx := hnx.below hb
  replace hny := hny.below hb
  replace hn := hn.below hb
  replace hox := hox.below hb
  replace hoy := hoy.below hb
  replace ho := ho.below hb
  replace hpx := hpx.below hb
  replace hpy := hpy.below hb
  replace hp := hp.below hb
  replace hrx := hrx.below hb
  replace hry := hry.below hb
  replace hr := hr.below hb
  replace hsx := hsx.below hb
  replace hsy := hsy.below hb
  replace hs := hs.below hb
  replace htx := htx.below hb
  replace hty := hty.below hb
  replace ht := ht.below hb
  replace hux := hux.below hb
  replace huy := huy.below hb
  replace hu := hu.below hb
  replace hc := hc.below hb
  replace hbf := hbf.trans (hb.mono hbf.size)
  clear hb
  first | refine hK.out _ _ ⟨hba, hbv, hbx, hby⟩ (fun _ => ?_) | (go_wp2_with fail; refine hK.out _ _ ⟨hba, hbv, hbx, hby⟩ (fun _ => ?_))
  clear hK K
  (try simp only [Act.put, List.setIfInBounds_toArray, List.set_cons_zero, List.set_cons_succ])
  refine seq_step (by rfl) (fun K hK => ?_)
  go_simp
  go_at_call 19
  (with_reducible refine (text_s _ a.den D1 _ hw g4 HD1).mono ?_)
  rintro e w47 ⟨rfl, hb⟩
  replace hba := hba.kept hb
  replace hbv := hbv.kept hb
  replace hbx := hbx.kept hb
  replace hby := hby.kept hb
  replace hbq := hbq.kept hb
  replace hax := hax.below hb
  replace hay := hay.below hb
  replace ha := ha.below hb
  replace hvx := hvx.below hb
  replace hvy := hvy.below hb
  replace hv := hv.below hb
  replace hxx := hxx.below hb
  replace hxy := hxy.below hb
  replace hx := hx.below hb
  replace hyx := hyx.below hb
  replace hyy := hyy.below hb
  replace hy := hy.below hb
  replace hqx := hqx.below hb
  replace hqy := hqy.below hb
  replace hq := hq.below hb
  replace hdx := hdx.below hb
  replace hdy := hdy.below hb
  replace hd := hd.below hb
  replace hex := hex.below hb
  replace hey := hey.below hb
  replace he := he.below hb
  replace hgx := hgx.below hb
  replace hgy := hgy.below hb
  replace hg := hg.below hb
  replace hix := hix.below hb
  replace hiy := hiy.below hb
  replace hi := hi.below hb
  replace hjx := hjx.below hb
  replace hjy := hjy.below hb
  replace hj := hj.below hb
  replace hkx := hkx.below hb
  replace hky := hky.below hb
  replace hk := hk.below hb
  replace hnx := hnx.below hb
  replace hny := hny.below hb
  replace hn := hn.below hb
  replace hox := hox.below hb
  replace hoy := hoy.below hb
  replace ho := ho.below hb
  replace hpx := hpx.below hb
  replace hpy := hpy.below hb
  replace hp := hp.below hb
  replace hrx := hrx.below hb
  replace hry := hry.below hb
  replace hr := hr.below hb
  replace hsx := hsx.below hb
  replace hsy := hsy.below hb
  replace hs := hs.below hb
  replace htx := htx.below hb
  replace hty := hty.below hb
  replace ht := ht.below hb
  replace hux := hux.below hb
  replace huy := huy.below hb
  replace hu := hu.below hb
  replace hc := hc.below hb
  replace hw := hw.below hb
  replace hbf := hbf.trans (hb.mono hbf.size)
  clear hb
  first | refine hK.out _ _ ⟨hba, hbv, hbx, hby⟩ (fun _ => ?_) | (go_wp2_with fail; refine hK.out _ _ ⟨hba, hbv, hbx, hby⟩ (fun _ => ?_))
  clear hK K
  (try simp only [Act.put, List.setIfInBounds_toArray, List.set_cons_zero, List.set_cons_succ])
  refine seq_step (by rfl) (fun K hK => ?_)
  go_simp
  go_at_call 43
  (with_reducible refine (rtext_s _ a.den D1 _ hxy g2 HD1).mono ?_)
  rintro e w48 ⟨rfl, hb⟩
  replace hba := hba.kept hb
  replace hbv := hbv.kept hb
  replace hbx := hbx.kept hb
  replace hby := hby.kept hb
  replace hbq := hbq.kept hb
  replace hax := hax.below hb
  replace hay := hay.below hb
  replace ha := ha.below hb
  replace hvx := hvx.below hb
  replace hvy := hvy.below hb
  replace hv := hv.below hb
  replace hxx := hxx.below hb
  replace hxy := hxy.below hb
  replace hx := hx.below hb
  replace hyx := hyx.below hb
  replace hyy := hyy.below hb
  replace hy := hy.below hb
  replace hqx := hqx.below hb
  replace hqy := hqy.below hb
  replace hq := hq.below hb
  replace hdx := hdx.below hb
  replace hdy := hdy.below hb
  replace hd := hd.below hb
  replace hex := hex.below hb
  replace hey := hey.below hb
  replace he := he.below hb
  replace hgx := hgx.below hb
  replace hgy := hgy.below hb
  replace hg := hg.below hb
  replace hix := hix.below hb
  replace hiy := hiy.below hb
  replace hi := hi.below hb
  replace hjx := hjx.below hb
  replace hjy := hjy.below hb
  replace hj := hj.below hb
  replace hkx := hkx.below hb
  replace hky := hky.below hb
  replace hk := hk.below hb
  replace hnx := hnx.below hb
  replace hny := hny.below hb
  replace hn := hn.below hb
  replace hox := hox.below hb
  replace hoy := hoy.below hb
  replace ho := ho.below hb
  replace hpx := hpx.below hb
  replace hpy := hpy.below hb
  replace hp := hp.below hb
  replace hrx := hrx.below hb
  replace hry := hry.below hb
  replace hr := hr.below hb
  replace hsx := hsx.below hb
  replace hsy := hsy.below hb
  replace hs := hs.below hb
  replace htx := htx.below hb
  replace hty := hty.below hb
  replace ht := ht.below hb
  replace hux := hux.below hb
  replace huy := huy.below hb
  replace hu := hu.below hb
  replace hc := hc.below hb
  replace hw := hw.below hb
  replace hbf := hbf.trans (hb.mono hbf.size)
  clear hb
  first | refine hK.out _ _ ⟨hba, hbv, hbx, hby⟩ (fun _ => ?_) | (go_wp2_with fail; refine hK.out _ _ ⟨hba, hbv, hbx, hby⟩ (fun _ => ?_))
  clear hK K
  (try simp only [Act.put, List.setIfInBounds_toArray, List.set_cons_zero, List.set_cons_succ])
  repeat (first | (refine seq_take (v := ?_) (by rfl) ?_ ?_; rotate_left; (· intro w hSw; (try dsimp only at hSw); obtain ⟨⟨ea0, ea1, ea2, _, _, _⟩, ⟨ev0, ev1, ev2, _, _, _⟩, ⟨ex0, ex1, ex2, _, _, _⟩, ⟨ey0, ey1, ey2, _, _, _⟩⟩ := hSw; go_simp; all_goals with_reducible rfl); (try simp only [Act.put, List.setIfInBounds_toArray, List.set_cons_zero, List.set_cons_succ])) | (refine seq_leave (by rfl) ?_; (try simp only [Act.put, List.setIfInBounds_toArray, List.set_cons_zero, List.set_cons_succ])))
  refine seq_step (by rfl) (fun K hK => ?_)
  go_simp
  go_at_call 49
  (with_reducible refine (big_no _ a _ ha hqa5 hd1 hd2).mono ?_)
  rintro e w49 ⟨rfl, hb⟩
  replace hba := hba.kept hb
  replace hbv := hbv.kept hb
  replace hbx := hbx.kept hb
  replace hby := hby.kept hb
  replace hbq := hbq.kept hb
  replace hax := hax.below hb
  replace hay := hay.below hb
  replace ha := ha.below hb
  replace hvx := hvx.below hb
  replace hvy := hvy.below hb
  replace hv := hv.below hb
  replace hxx := hxx.below hb
  replace hxy := hxy.below hb
  replace hx := hx.below hb
  replace hyx := hyx.below hb
  replace hyy := hyy.below hb
  replace hy := hy.below hb
  replace hqx := hqx.below hb
  replace hqy := hqy.below hb
  replace hq := hq.below hb
  replace hdx := hdx.below hb
  replace hdy := hdy.below hb
  replace hd := hd.below hb
  replace hex := hex.below hb
  replace hey := hey.below hb
  replace he := he.below hb
  replace hgx := hgx.below hb
  replace hgy := hgy.below hb
  replace hg := hg.below hb
  replace hix := hix.below hb
  replace hiy := hiy.below hb
  replace hi := hi.below hb
  replace hjx := hjx.below hb
  replace hjy := hjy.below hb
  replace hj := hj.below hb
  replace hkx := hkx.below hb
  replace hky := hky.below hb
  replace hk := hk.below hb
  replace hnx := hnx.below hb
  replace hny := hny.below hb
  replace hn := hn.below hb
  replace hox := hox.below hb
  replace hoy := hoy.below hb
  replace ho := ho.below hb
  replace hpx := hpx.below hb
  replace hpy := hpy.below hb
  replace hp := hp.below hb
  replace hrx := hrx.below hb
  replace hry := hry.below hb
  replace hr := hr.below hb
  replace hsx := hsx.below hb
  replace hsy := hsy.below hb
  replace hs := hs.below hb
  replace htx := htx.below hb
  replace hty := hty.below hb
  replace ht := ht.below hb
  replace hux := hux.below hb
  replace huy := huy.below hb
  replace hu := hu.below hb
  replace hc := hc.below hb
  replace hw := hw.below hb
  replace hbf := hbf.trans (hb.mono hbf.size)
  clear hb
  first | refine hK.out _ _ ⟨hba, hbv, hbx, hby⟩ (fun _ => ?_) | (go_wp2_with fail; refine hK.out _ _ ⟨hba, hbv, hbx, hby⟩ (fun _ => ?_))
  clear hK K
  (try simp only [Act.put, List.setIfInBounds_toArray, List.set_cons_zero, List.set_cons_succ])
  repeat (first | (refine seq_take (v := ?_) (by rfl) ?_ ?_; rotate_left; (· intro w hSw; (try dsimp only at hSw); obtain ⟨⟨ea0, ea1, ea2, _, _, _⟩, ⟨ev0, ev1, ev2, _, _, _⟩, ⟨ex0, ex1, ex2, _, _, _⟩, ⟨ey0, ey1, ey2, _, _, _⟩⟩ := hSw; go_simp; all_goals with_reducible rfl); (try simp only [Act.put, List.setIfInBounds_toArray, List.set_cons_zero, List.set_cons_succ])) | (refine seq_leave (by rfl) ?_; (try simp only [Act.put, List.setIfInBounds_toArray, List.set_cons_zero, List.set_cons_succ])))
  refine seq_end ?_
  go_wp2_with fail
  go_ret
  exact ⟨rfl, hbf⟩

set_option maxRecDepth 100000 in
set_option maxHeartbeats 1000000 in
/-- RatTells, qval m ≠ 0. -/
theorem ratTells_div (l m : List UInt8) (w : World) (hl : l.length ≤ 120) (hm : m.length ≤ 120) (hb0 : qval m ≠ 0) :
    Calls Tryd.prog 8 #[.string ⟨l.toArray⟩, .string ⟨m.toArray⟩] w fun e w' => e = .returned (.bool true) ∧ Below w.heap.size w w' := by
  have k1 : ¬ (120 : Int) < ((l.length : Nat) : Int) := by omega
  have k2 : ¬ (120 : Int) < ((m.length : Nat) : Int) := by omega
  have hd1 := dec_lim (K := 121) (qval_lt (l := l) (K := 121) (by omega)).1 (by decide) (by decide)
  have hd2 := dec_lim (K := 121) (qval_lt (l := l) (K := 121) (by omega)).2 (by decide) (by decide)
  have hqa := QB.val (l := l) (K := 121) (by omega)
  obtain ⟨a, hae⟩ : ∃ a, a = qval l := ⟨_, rfl⟩
  obtain ⟨ka, hac⟩ : ∃ c, c = qcode l := ⟨_, rfl⟩
  rw [← hae] at hqa hd1 hd2
  have HaE := Lib.hid hae
  have HaC := Lib.hid hac
  clear hae hac
  have hqb := QB.val (l := m) (K := 121) (by omega)
  obtain ⟨b, hbe⟩ : ∃ a, a = qval m := ⟨_, rfl⟩
  obtain ⟨kb, hbc⟩ : ∃ c, c = qcode m := ⟨_, rfl⟩
  rw [← hbe] at hqb hb0
  have HbE := Lib.hid hbe
  have HbC := Lib.hid hbc
  clear hbe hbc
  have hqa3 := hqa.mono (show 121 ≤ 30000 by decide)
  have hqb3 := hqb.mono (show 121 ≤ 30000 by decide)
  go_enter Tryd.func8, Tryd.ntmps8
  go_wp2_with fail
  refine (alive2_any _).mono ?_
  rintro e w1 ⟨rfl, hb⟩
  have hbf := hb
  clear hb
  go_wp2_with fail
  refine (qparse_main l _ a ka HaE HaC (by omega)).mono ?_
  rintro e w2 hq9
  obtain ⟨aB, axO, axL, axC, ayO, ayL, ayC, rfl, hS, hax, hay, ha, hb⟩ := hq9.out
  have HaS := Lib.hid hS; clear hS
  replace hbf := hbf.trans (hb.mono hbf.size)
  clear hb
  obtain ⟨w3, hwE⟩ : ∃ W, W = (w2.alloc (.cells #[.bool aB, .slice axO axL axC, .slice ayO ayL ayC] 27)) := ⟨_, rfl⟩
  have hb : Below w2.heap.size w2 w3 := by rw [hwE]; exact ((Below.refl _ w2).alloc (Nat.le_refl _) _)
  obtain ⟨pa, hpa⟩ : ∃ p, p = w2.heap.size := ⟨_, rfl⟩
  have hba : Box3 w3 pa (Value.bool aB) (Value.slice axO axL axC) (Value.slice ayO ayL ayC) := by rw [hwE, hpa]; exact ⟨by go_simp, by go_simp, by go_simp, by go_simp, by go_simp, by go_simp⟩
  have HP : Hid (w.heap.size ≤ pa) := Lib.hid (by have h9 := hbf.size; omega)
  have HW := Lib.hid hwE; clear hwE
  go_upto_region 4 with fail
  rw [← HW.out, ← hpa]
  clear hpa HW
  replace hax := hax.below hb
  replace hay := hay.below hb
  replace ha := ha.below hb
  replace hbf := hbf.trans (hb.mono hbf.size)
  clear hb
  go_wp2_with fail
  refine (qparse_main m _ b kb HbE HbC (by omega)).mono ?_
  rintro e w4 hq9
  obtain ⟨vB, vxO, vxL, vxC, vyO, vyL, vyC, rfl, hS, hvx, hvy, hv, hb⟩ := hq9.out
  have HvS := Lib.hid hS; clear hS
  replace hba := hba.kept hb
  replace hax := hax.below hb
  replace hay := hay.below hb
  replace ha := ha.below hb
  replace hbf := hbf.trans (hb.mono hbf.size)
  clear hb
  obtain ⟨w5, hwE⟩ : ∃ W, W = (w4.alloc (.cells #[.bool vB, .slice vxO vxL vxC, .slice vyO vyL vyC] 27)) := ⟨_, rfl⟩
  have hb : Below w4.heap.size w4 w5 := by rw [hwE]; exact ((Below.refl _ w4).alloc (Nat.le_refl _) _)
  obtain ⟨pv, hpv⟩ : ∃ p, p = w4.heap.size := ⟨_, rfl⟩
  have hbv : Box3 w5 pv (Value.bool vB) (Value.slice vxO vxL vxC) (Value.slice vyO vyL vyC) := by rw [hwE, hpv]; exact ⟨by go_simp, by go_simp, by go_simp, by go_simp, by go_simp, by go_simp⟩
  replace HP : Hid (w.heap.size ≤ pa ∧ pa < pv) := Lib.hid (by have h1 := HP.out; have h9 := hbf.size; have h2a := hba.lt; omega)
  have HW := Lib.hid hwE; clear hwE
  go_upto_region 5 with fail
  rw [← HW.out, ← hpv]
  clear hpv HW
  replace hba := hba.kept hb
  replace hax := hax.below hb
  replace hay := hay.below hb
  replace ha := ha.below hb
  replace hvx := hvx.below hb
  replace hvy := hvy.below hb
  replace hv := hv.below hb
  replace hbf := hbf.trans (hb.mono hbf.size)
  clear hb
  go_wp2_with fail
  refine (rqparse_main l _ a ka HaE HaC (by omega)).mono ?_
  rintro e w6 hq9
  obtain ⟨xB, xxO, xxL, xxC, xyO, xyL, xyC, rfl, hS, hxx, hxy, hx, hb⟩ := hq9.out
  have HxS := Lib.hid hS; clear hS
  replace hba := hba.kept hb
  replace hbv := hbv.kept hb
  replace hax := hax.below hb
  replace hay := hay.below hb
  replace ha := ha.below hb
  replace hvx := hvx.below hb
  replace hvy := hvy.below hb
  replace hv := hv.below hb
  replace hbf := hbf.trans (hb.mono hbf.size)
  clear hb
  obtain ⟨w7, hwE⟩ : ∃ W, W = (w6.alloc (.cells #[.bool xB, .slice xxO xxL xxC, .slice xyO xyL xyC] 38)) := ⟨_, rfl⟩
  have hb : Below w6.heap.size w6 w7 := by rw [hwE]; exact ((Below.refl _ w6).alloc (Nat.le_refl _) _)
  obtain ⟨px, hpx⟩ : ∃ p, p = w6.heap.size := ⟨_, rfl⟩
  have hbx : Box3 w7 px (Value.bool xB) (Value.slice xxO xxL xxC) (Value.slice xyO xyL xyC) := by rw [hwE, hpx]; exact ⟨by go_simp, by go_simp, by go_simp, by go_simp, by go_simp, by go_simp⟩
  replace HP : Hid (w.heap.size ≤ pa ∧ pa < pv ∧ pv < px) := Lib.hid (by have h1 := HP.out; have h9 := hbf.size; have h2v := hbv.lt; omega)
  have HW := Lib.hid hwE; clear hwE
  go_upto_region 6 with fail
  rw [← HW.out, ← hpx]
  clear hpx HW
  replace hba := hba.kept hb
  replace hbv := hbv.kept hb
  replace hax := hax.below hb
  replace hay := hay.below hb
  replace ha := ha.below hb
  replace hvx := hvx.below hb
  replace hvy := hvy.below hb
  replace hv := hv.below hb
  replace hxx := hxx.below hb
  replace hxy := hxy.below hb
  replace hx := hx.below hb
  replace hbf := hbf.trans (hb.mono hbf.size)
  clear hb
  go_wp2_with fail
  refine (rqparse_main m _ b kb HbE HbC (by omega)).mono ?_
  rintro e w8 hq9
  obtain ⟨yB, yxO, yxL, yxC, yyO, yyL, yyC, rfl, hS, hyx, hyy, hy, hb⟩ := hq9.out
  have HyS := Lib.hid hS; clear hS
  replace hba := hba.kept hb
  replace hbv := hbv.kept hb
  replace hbx := hbx.kept hb
  replace hax := hax.below hb
  replace hay := hay.below hb
  replace ha := ha.below hb
  replace hvx := hvx.below hb
  replace hvy := hvy.below hb
  replace hv := hv.below hb
  replace hxx := hxx.below hb
  replace hxy := hxy.below hb
  replace hx := hx.below hb
  replace hbf := hbf.trans (hb.mono hbf.size)
  clear hb
  obtain ⟨w9, hwE⟩ : ∃ W, W = (w8.alloc (.cells #[.bool yB, .slice yxO yxL yxC, .slice yyO yyL yyC] 38)) := ⟨_, rfl⟩
  have hb : Below w8.heap.size w8 w9 := by rw [hwE]; exact ((Below.refl _ w8).alloc (Nat.le_refl _) _)
  obtain ⟨py, hpy⟩ : ∃ p, p = w8.heap.size := ⟨_, rfl⟩
  have hby : Box3 w9 py (Value.bool yB) (Value.slice yxO yxL yxC) (Value.slice yyO yyL yyC) := by rw [hwE, hpy]; exact ⟨by go_simp, by go_simp, by go_simp, by go_simp, by go_simp, by go_simp⟩
  replace HP : Hid (w.heap.size ≤ pa ∧ pa < pv ∧ pv < px ∧ px < py) := Lib.hid (by have h1 := HP.out; have h9 := hbf.size; have h2x := hbx.lt; omega)
  have HW := Lib.hid hwE; clear hwE
  go_upto_region 7 with fail
  rw [← HW.out, ← hpy]
  clear hpy HW
  replace hba := hba.kept hb
  replace hbv := hbv.kept hb
  replace hbx := hbx.kept hb
  replace hax := hax.below hb
  replace hay := hay.below hb
  replace ha := ha.below hb
  replace hvx := hvx.below hb
  replace hvy := hvy.below hb
  replace hv := hv.below hb
  replace hxx := hxx.below hb
  replace hxy := hxy.below hb
  replace hx := hx.below hb
  replace hyx := hyx.below hb
  replace hyy := hyy.below hb
  replace hy := hy.below hb
  replace hbf := hbf.trans (hb.mono hbf.size)
  clear hb
  have ea0 := hba.c0
  have ea1 := hba.c1
  have ea2 := hba.c2
  have ex0 := hbx.c0
  have ex1 := hbx.c1
  have ex2 := hbx.c2
  go_wp2_with fail
  refine (same2_any _ _ a _ ha hx hqa3).mono ?_
  rintro e w10 ⟨rfl, hb⟩
  clear ea0 ea1 ea2 ex0 ex1 ex2
  replace hba := hba.kept hb
  replace hbv := hbv.kept hb
  replace hbx := hbx.kept hb
  replace hby := hby.kept hb
  replace hax := hax.below hb
  replace hay := hay.below hb
  replace ha := ha.below hb
  replace hvx := hvx.below hb
  replace hvy := hvy.below hb
  replace hv := hv.below hb
  replace hxx := hxx.below hb
  replace hxy := hxy.below hb
  replace hx := hx.below hb
  replace hyx := hyx.below hb
  replace hyy := hyy.below hb
  replace hy := hy.below hb
  replace hbf := hbf.trans (hb.mono hbf.size)
  clear hb
  have ev0 := hbv.c0
  have ev1 := hbv.c1
  have ev2 := hbv.c2
  have ey0 := hby.c0
  have ey1 := hby.c1
  have ey2 := hby.c2
  go_wp2_with fail
  refine (same2_any _ _ b _ hv hy hqb3).mono ?_
  rintro e w11 ⟨rfl, hb⟩
  clear ev0 ev1 ev2 ey0 ey1 ey2
  replace hba := hba.kept hb
  replace hbv := hbv.kept hb
  replace hbx := hbx.kept hb
  replace hby := hby.kept hb
  replace hax := hax.below hb
  replace hay := hay.below hb
  replace ha := ha.below hb
  replace hvx := hvx.below hb
  replace hvy := hvy.below hb
  replace hv := hv.below hb
  replace hxx := hxx.below hb
  replace hxy := hxy.below hb
  replace hx := hx.below hb
  replace hyx := hyx.below hb
  replace hyy := hyy.below hb
  replace hy := hy.below hb
  replace hbf := hbf.trans (hb.mono hbf.size)
  clear hb
  have hyl := hyx.len
  have ea0 := hba.c0
  have ea1 := hba.c1
  have ea2 := hba.c2
  have ev0 := hbv.c0
  have ev1 := hbv.c1
  have ev2 := hbv.c2
  go_wp2_with fail
  refine (qdiv_ok _ _ a b 121 121 _ ha hv hqa hqb (by decide) hb0).mono ?_
  rintro e w12 hq9
  obtain ⟨qB, qxO, qxL, qxC, qyO, qyL, qyC, rfl, hS, hqx, hqy, hq, hb⟩ := hq9.out
  have HqS := Lib.hid hS; clear hS
  clear ea0 ea1 ea2 ev0 ev1 ev2
  replace hba := hba.kept hb
  replace hbv := hbv.kept hb
  replace hbx := hbx.kept hb
  replace hby := hby.kept hb
  replace hax := hax.below hb
  replace hay := hay.below hb
  replace ha := ha.below hb
  replace hvx := hvx.below hb
  replace hvy := hvy.below hb
  replace hv := hv.below hb
  replace hxx := hxx.below hb
  replace hxy := hxy.below hb
  replace hx := hx.below hb
  replace hyx := hyx.below hb
  replace hyy := hyy.below hb
  replace hy := hy.below hb
  replace hbf := hbf.trans (hb.mono hbf.size)
  clear hb
  have hdv := (hqa.div hqb hb0)
  have hdv3 := hdv.mono (show 121 + 121 ≤ 30000 by decide)
  have hyp : (0 : Int) < (yxL : Int) := by
    rw [hyl]
    have h9 : 0 < (rlimbs b.num.natAbs).length := List.length_pos_iff.2 (fun h => hb0 (q_num_zero.1 (rlimbs_eq_nil.1 h)))
    omega
  have hyp2 : 0 < yxL := by omega
  have HB0 := Lib.hid hb0
  clear hyl hb0
  obtain ⟨w13, hwE⟩ : ∃ W, W = (w12.alloc (.cells #[.bool qB, .slice qxO qxL qxC, .slice qyO qyL qyC] 27)) := ⟨_, rfl⟩
  have hb : Below w12.heap.size w12 w13 := by rw [hwE]; exact ((Below.refl _ w12).alloc (Nat.le_refl _) _)
  obtain ⟨pq, hpq⟩ : ∃ p, p = w12.heap.size := ⟨_, rfl⟩
  have hbq : Box3 w13 pq (Value.bool qB) (Value.slice qxO qxL qxC) (Value.slice qyO qyL qyC) := by rw [hwE, hpq]; exact ⟨by go_simp, by go_simp, by go_simp, by go_simp, by go_simp, by go_simp⟩
  replace HP : Hid (w.heap.size ≤ pa ∧ pa < pv ∧ pv < px ∧ px < py ∧ py < pq) := Lib.hid (by have h1 := HP.out; have h9 := hbf.size; have h2y := hby.lt; omega)
  have HW := Lib.hid hwE; clear hwE
  go_upto_region 10 with fail
  rw [← HW.out, ← hpq]
  clear hpq HW
  replace hba := hba.kept hb
  replace hbv := hbv.kept hb
  replace hbx := hbx.kept hb
  replace hby := hby.kept hb
  replace hax := hax.below hb
  replace hay := hay.below hb
  replace ha := ha.below hb
  replace hvx := hvx.below hb
  replace hvy := hvy.below hb
  replace hv := hv.below hb
  replace hxx := hxx.below hb
  replace hxy := hxy.below hb
  replace hx := hx.below hb
  replace hyx := hyx.below hb
  replace hyy := hyy.below hb
  replace hy := hy.below hb
  replace hqx := hqx.below hb
  replace hqy := hqy.below hb
  replace hq := hq.below hb
  replace hbf := hbf.trans (hb.mono hbf.size)
  clear hb
  refine wp_region_seqQ (S := fun w' => Box3 w' pq (Value.bool qB) (Value.slice qxO qxL qxC) (Value.slice qyO qyL qyC) ∧ Box3 w' px (Value.bool xB) (Value.slice xxO xxL xxC) (Value.slice xyO xyL xyC) ∧ Box3 w' py (Value.bool yB) (Value.slice yxO yxL yxC) (Value.slice yyO yyL yyC)) [(0, 16384, some 75), (1, 37778931862957161709568, some 76), (0, 2048, some 77), (4, 151115727451828646838272, some 78), (8, 302231454903657293676544, some 79), (16, 604462909807314587353088, some 80), (34, 1284483683340543498125312, some 81), (64, 2417851639229258349412352, some 82), (128, 4835703278458516698841088, some 83), (384, 14507109835375550096474112, some 84), (640, 24178516392292583494123520, some 85), (1024, 38685626227668133590614016, some 86), (3072, 116056878683004400771792896, some 87), (5120, 193428131138340667952988160, some 88), (8192, 309485009821345068724789248, some 89), (24576, 928455029464035206174343168, some 90), (40960, 1547425049106725343623905280, some 91), (74752, 2824050714619773752113627136, some 92), (132224, 4995281486647647749885919232, some 93), (262272, 9908356017561500715891818496, some 94), (557056, 19807040628566084398385987584, some 95), (1048576, 39614081257132168796771991552, some 96), (3145728, 118842243771396506390315925504, some 97), (5242880, 198070406285660843983859875840, some 98), (8388608, 316912650057057350374175809536, some 99), (8388608, 316912650057057350374175801856, some 100), (8388608, 316912650057057350374175803392, some 101), (109051904, 4119864450741745554864285417472, some 102), (159383552, 6021340351084089657109340225536, some 103), (276824064, 10458117451882892562347801444352, some 104), (546308096, 20638936334965859943118199062528, some 105), (1074790400, 40604433288560473016691274547200, some 106)] [(true, 0), (true, 1), (true, 2), (true, 3), (true, 4), (true, 5), (true, 6), (true, 7), (true, 8), (true, 9), (true, 10), (true, 11), (true, 12), (true, 13), (true, 14), (false, 15), (true, 16), (true, 17), (true, 18), (true, 19), (true, 20), (true, 21), (true, 22), (true, 23), (true, 24), (true, 25), (true, 26), (false, 27), (false, 28), (true, 29), (true, 30), (true, 31)] (by kernel_rfl) (by kernel_rfl) (by kernel_rfl) (by kernel_rfl) (by kernel_rfl) (by kernel_rfl) (fun d _ _ _ _ h => by cases d <;> exact h) ⟨hbq.drew, hbx.drew, hby.drew⟩ (fun _ => ?_)
  simp only [pickOps, List.append_eq, List.cons_append, List.nil_append, List.getElem?_toArray, List.getElem?_cons_succ, List.getElem?_cons_zero]
  have hb : Below w13.heap.size w13 w13.drew := (Below.refl _ _).drew
  generalize w13.drew = w14 at hb ⊢
  replace hba := hba.kept hb
  replace hbv := hbv.kept hb
  replace hbx := hbx.kept hb
  replace hby := hby.kept hb
  replace hbq := hbq.kept hb
  replace hax := hax.below hb
  replace hay := hay.below hb
  replace ha := ha.below hb
  replace hvx := hvx.below hb
  replace hvy := hvy.below hb
  replace hv := hv.below hb
  replace hxx := hxx.below hb
  replace hxy := hxy.below hb
  replace hx := hx.below hb
  replace hyx := hyx.below hb
  replace hyy := hyy.below hb
  replace hy := hy.below hb
  replace hqx := hqx.below hb
  replace hqy := hqy.below hb
  replace hq := hq.below hb
  replace hbf := hbf.trans (hb.mono hbf.size)
  clear hb
  repeat (first | (refine seq_take (v := ?_) (by rfl) ?_ ?_; rotate_left; (· intro w hSw; (try dsimp only at hSw); obtain ⟨⟨eq0, eq1, eq2, _, _, _⟩, ⟨ex0, ex1, ex2, _, _, _⟩, ⟨ey0, ey1, ey2, _, _, _⟩⟩ := hSw; go_simp; all_goals with_reducible rfl); (try simp only [Act.put, List.setIfInBounds_toArray, List.set_cons_zero, List.set_cons_succ])) | (refine seq_leave (by rfl) ?_; (try simp only [Act.put, List.setIfInBounds_toArray, List.set_cons_zero, List.set_cons_succ])))
  refine seq_pass (by rfl) ⟨hbq, hbx, hby⟩ ?_
  (try simp only [Act.put, List.setIfInBounds_toArray, List.set_cons_zero, List.set_cons_succ])
  repeat (first | (refine seq_take (v := ?_) (by rfl) ?_ ?_; rotate_left; (· intro w hSw; (try dsimp only at hSw); obtain ⟨⟨eq0, eq1, eq2, _, _, _⟩, ⟨ex0, ex1, ex2, _, _, _⟩, ⟨ey0, ey1, ey2, _, _, _⟩⟩ := hSw; go_simp; all_goals with_reducible rfl); (try simp only [Act.put, List.setIfInBounds_toArray, List.set_cons_zero, List.set_cons_succ])) | (refine seq_leave (by rfl) ?_; (try simp only [Act.put, List.setIfInBounds_toArray, List.set_cons_zero, List.set_cons_succ])))
  refine seq_step (by rfl) (fun K hK => ?_)
  go_simp
  go_at_call 42
  (with_reducible refine (rqdiv_any _ _ a b 121 121 _ hx hy hqa hqb (by decide) HB0.out).mono ?_)
  rintro e w15 hq9
  obtain ⟨zB, zxO, zxL, zxC, zyO, zyL, zyC, rfl, hS, hzx, hzy, hz, hb⟩ := hq9.out
  have HzS := Lib.hid hS; clear hS
  replace hba := hba.kept hb
  replace hbv := hbv.kept hb
  replace hbx := hbx.kept hb
  replace hby := hby.kept hb
  replace hbq := hbq.kept hb
  replace hax := hax.below hb
  replace hay := hay.below hb
  replace ha := ha.below hb
  replace hvx := hvx.below hb
  replace hvy := hvy.below hb
  replace hv := hv.below hb
  replace hxx := hxx.below hb
  replace hxy := hxy.below hb
  replace hx := hx.below hb
  replace hyx := hyx.below hb
  replace hyy := hyy.below hb
  replace hy := hy.below hb
  replace hqx := hqx.below hb
  replace hqy := hqy.below hb
  replace hq := hq.below hb
  replace hbf := hbf.trans (hb.mono hbf.size)
  clear hb
  first | refine hK.out _ _ ⟨hbq, hbx, hby⟩ (fun _ => ?_) | (go_wp2_with fail; refine hK.out _ _ ⟨hbq, hbx, hby⟩ (fun _ => ?_))
  clear hK K
  (try simp only [Act.put, List.setIfInBounds_toArray, List.set_cons_zero, List.set_cons_succ])
  refine seq_step (by rfl) (fun K hK => ?_)
  go_simp
  go_at_call 13
  (with_reducible refine (same2_any _ _ (a / b) _ hq hz hdv3).mono ?_)
  rintro e w16 ⟨rfl, hb⟩
  replace hba := hba.kept hb
  replace hbv := hbv.kept hb
  replace hbx := hbx.kept hb
  replace hby := hby.kept hb
  replace hbq := hbq.kept hb
  replace hax := hax.below hb
  replace hay := hay.below hb
  replace ha := ha.below hb
  replace hvx := hvx.below hb
  replace hvy := hvy.below hb
  replace hv := hv.below hb
  replace hxx := hxx.below hb
  replace hxy := hxy.below hb
  replace hx := hx.below hb
  replace hyx := hyx.below hb
  replace hyy := hyy.below hb
  replace hy := hy.below hb
  replace hqx := hqx.below hb
  replace hqy := hqy.below hb
  replace hq := hq.below hb
  replace hzx := hzx.below hb
  replace hzy := hzy.below hb
  replace hz := hz.below hb
  replace hbf := hbf.trans (hb.mono hbf.size)
  clear hb
  first | refine hK.out _ _ ⟨hbq, hbx, hby⟩ (fun _ => ?_) | (go_wp2_with fail; refine hK.out _ _ ⟨hbq, hbx, hby⟩ (fun _ => ?_))
  clear hK K
  (try simp only [Act.put, List.setIfInBounds_toArray, List.set_cons_zero, List.set_cons_succ])
  repeat (first | (refine seq_take (v := ?_) (by rfl) ?_ ?_; rotate_left; (· intro w hSw; (try dsimp only at hSw); obtain ⟨⟨eq0, eq1, eq2, _, _, _⟩, ⟨ex0, ex1, ex2, _, _, _⟩, ⟨ey0, ey1, ey2, _, _, _⟩⟩ := hSw; go_simp; all_goals with_reducible rfl); (try simp only [Act.put, List.setIfInBounds_toArray, List.set_cons_zero, List.set_cons_succ])) | (refine seq_leave (by rfl) ?_; (try simp only [Act.put, List.setIfInBounds_toArray, List.set_cons_zero, List.set_cons_succ])))
  refine seq_end ?_
  clear hyp hyp2
  obtain ⟨N1, hN1⟩ : ∃ t, t = str (dec a.num.natAbs) := ⟨_, rfl⟩
  obtain ⟨D1, hD1⟩ : ∃ t, t = str (dec a.den) := ⟨_, rfl⟩
  obtain ⟨o9, ho9⟩ : ∃ o, o = decide (a.den = 1) := ⟨_, rfl⟩
  have hDo : (D1 == [49]) = o9 := by rw [hD1, ho9]; exact text_one _
  have HN1 := Lib.hid hN1.symm
  have HD1 := Lib.hid hD1.symm
  have HO9 := Lib.hid ho9.symm
  clear hN1 hD1 ho9
  have hra1 := rlimbs_of_limbs hqa.1
  have hra2 := rlimbs_of_limbs hqa.2
  have hla1 := hqa.1
  have hla2 := hqa.2
  have g1 : (rlimbs a.num.natAbs).length ≤ 100000 := by omega
  have g2 : (rlimbs a.den).length ≤ 100000 := by omega
  have g3 : (limbs a.num.natAbs).length ≤ 100000 := by omega
  have g4 : (limbs a.den).length ≤ 100000 := by omega
  have ex0 := hbx.c0
  have ex1 := hbx.c1
  have ex2 := hbx.c2
  have ey0 := hby.c0
  have ey1 := hby.c1
  have ey2 := hby.c2
  go_upto_region 12 with fail
  clear ex0 ex1 ex2 ey0 ey1 ey2
  have ex0 := hbx.c0
  have ex1 := hbx.c1
  have ex2 := hbx.c2
  go_wp2_with fail
  refine (rtext_s _ a.den D1 _ hxy g2 HD1).mono ?_
  rintro e w17 ⟨rfl, hb⟩
  clear ex0 ex1 ex2
  replace hba := hba.kept hb
  replace hbv := hbv.kept hb
  replace hbx := hbx.kept hb
  replace hby := hby.kept hb
  replace hbq := hbq.kept hb
  replace hax := hax.below hb
  replace hay := hay.below hb
  replace ha := ha.below hb
  replace hvx := hvx.below hb
  replace hvy := hvy.below hb
  replace hv := hv.below hb
  replace hxx := hxx.below hb
  replace hxy := hxy.below hb
  replace hx := hx.below hb
  replace hyx := hyx.below hb
  replace hyy := hyy.below hb
  replace hy := hy.below hb
  replace hqx := hqx.below hb
  replace hqy := hqy.below hb
  replace hq := hq.below hb
  replace hzx := hzx.below hb
  replace hzy := hzy.below hb
  replace hz := hz.below hb
  replace hbf := hbf.trans (hb.mono hbf.size)
  clear hb
  obtain ⟨c4, hc4⟩ : ∃ k, k = qcmp a b := ⟨_, rfl⟩
  obtain ⟨s9, hs9⟩ : ∃ s, s = decide (a = b) := ⟨_, rfl⟩
  have hcs : (c4 == 0) = s9 := by rw [hc4, hs9]; exact qcmp_same a b
  have C4 := Lib.hid hc4.symm
  have S9 := Lib.hid hs9.symm
  clear hc4 hs9
  have HNX : Hid (decide (a < 0) = xB) := Lib.hid HxS.out.symm
  have Qad := (hqa.add hqb).mono (show 121 + 121 + 1 ≤ 30000 by decide)
  have Qsb := (hqa.sub hqb).mono (show 121 + 121 + 1 ≤ 30000 by decide)
  have Qml := (hqa.mul hqb).mono (show 121 + 121 ≤ 30000 by decide)
  have Qfl := hqa.floor.mono (show 121 + 1 ≤ 30000 by decide)
  have Qcl := hqa.neg.floor.neg.mono (show 121 + 1 ≤ 30000 by decide)
  have Qrd := hqa.round.mono (show 121 + 2 ≤ 30000 by decide)
  have Qnb := hqb.neg
  have SUB : Hid (a - b = a + -b) := Lib.hid (qsub_is a b)
  have hqa5 := hqa.mono (show 121 ≤ 100000 by decide)
  have ex0 := hbx.c0
  have ex1 := hbx.c1
  have ex2 := hbx.c2
  go_upto_region 13 with fail
  clear ex0 ex1 ex2
  simp only [List.append_eq, List.cons_append, List.nil_append]
  refine wp_region_seqQ (S := fun w' => Box3 w' pa (Value.bool aB) (Value.slice axO axL axC) (Value.slice ayO ayL ayC) ∧ Box3 w' pv (Value.bool vB) (Value.slice vxO vxL vxC) (Value.slice vyO vyL vyC) ∧ Box3 w' px (Value.bool xB) (Value.slice xxO xxL xxC) (Value.slice xyO xyL xyC) ∧ Box3 w' py (Value.bool yB) (Value.slice yxO yxL yxC) (Value.slice yyO yyL yyC)) [(0, 32, some 111), (0, 128, some 112), (3, 7788445287802241442795744493830144, some 113), (0, 512, some 114), (0, 2048, some 115), (28, 62307562302417931542365955950641152, some 116), (36, 93461343453626897313548933925961728, some 117), (96, 166153499473114484112975882535043072, some 118), (128, 332306998946228968225951765070086176, some 119), (128, 332306998946228968225951765070086272, some 120), (896, 2326148992623602777581662355490603008, some 121), (128, 332306998946228968225951765070086656, some 122), (128, 332306998946228968225951765070088192, some 123), (7296, 16283042948365219443071636488434221056, some 124), (8320, 21599954931504882934686864729555599360, some 125), (17536, 45526058855633368646955391814601801728, some 126), (32896, 85402898729180844834069603623012139008, some 127), (73728, 170141183460469231731687303715884105728, some 128), (131072, 340282366920938463463374607431768211488, some 129), (131072, 340282366920938463463374607431768211584, some 130), (917504, 2381976568446569244243622252022377480192, some 131), (131072, 340282366920938463463374607431768211968, some 132), (131072, 340282366920938463463374607431768213504, some 133), (7471104, 16673835979125984709705355764156642361344, some 134), (9568256, 24840612785228507832826346342519079436288, some 135), (16908288, 43896425332801061786775324358698099277824, some 136), (50331648, 87112285931760246646623899502532662132736, some 137), (67108864, 174224571863520493293247799005065324265504, some 138), (67108864, 174224571863520493293247799005065324265600, some 139), (469762048, 1219572003044643453052734593035457269858304, some 140), (67108864, 174224571863520493293247799005065324265984, some 141), (67108864, 174224571863520493293247799005065324267520, some 142), (2751463424, 5749410871496176278677177367167155700760576, some 143), (5435817984, 14112190320945159956753071719410291265503232, some 144), (9193914368, 23868766345302307581174948463693949424369664, some 145), (17246978048, 44775714968924766776364684344301788336226304, some 146), (51539607552, 89202980794122492566142873090593446023921664, some 147), (68719476736, 178405961588244985132285746181186892047843360, some 148), (68719476736, 178405961588244985132285746181186892047843456, some 149), (481036337152, 1248841731117714895926000223268308244334903296, some 150), (68719476736, 178405961588244985132285746181186892047843840, some 151), (68719476736, 178405961588244985132285746181186892047845376, some 152), (3917010173952, 8741892117824004271482001562878157710344323072, some 153), (5016521801728, 13023635195941883914656859471226643119492562944, some 154), (8864812498944, 23014369044883603082064861257373109074171789312, some 155), (26388279066624, 45671926166590716193865151022383844364247891968, some 156), (35184372088832, 91343852333181432387730302044767688728495783968, some 157), (105553116266496, 274031556999544297163190906134303066185487351808, some 158), (35184372088832, 91343852333181432387730302044767688728495784448, some 159), (457396837154816, 822094670998632891489572718402909198556462055424, some 160), (738871813865472, 1918220898996810080142336342940121463298411462656, some 161), (1161084278931456, 3014347126994987268795099967477333728040360869888, some 162), (3377699720527872, 5846006549323611672814739330865132078623730171904, some 163), (4503599627370496, 11692013098647223345629478661730264157247460343840, some 164), (13510798882111488, 35076039295941670036888435985190792471742381031424, some 165), (4503599627370496, 11692013098647223345629478661730264157247460344320, some 166), (58546795155816448, 105228117887825010110665307955572377415227143094272, some 167), (94575592174780416, 245532275071591690258219051896335547302196667219968, some 168), (148618787703226368, 385836432255358370405772795837098717189166191345664, some 169), (432345564227567616, 748288838313422294120286634350736906063837462003712, some 170), (576460752303423488, 1496577676626844588240573268701473812127674924007456, some 171), (1729382256910270464, 4489733029880533764721719806104421436383024772022272, some 172), (576460752303423488, 1496577676626844588240573268701473812127674924007936, some 173), (7493989779944505344, 13469199089641601294165159418313264309149074316066816, some 174), (12105675798371893248, 31428131209163736353052038642730950054681173404155904, some 175), (19023204826012975104, 49387063328685871411938917867148635800213272492244992, some 176), (55340232221128654848, 95780971304118053647396689196894323976171195136475136, some 177), (73786976294838206464, 191561942608236107294793378393788647952342390272950304, some 178), (221360928884514619392, 574685827824708321884380135181365943857027170818850816, some 179), (73786976294838206464, 191561942608236107294793378393788647952342390272983040, some 180), (959230691832896684032, 2490305253907069394832313919119252423380451073548353536, some 181), (1254378597012249509888, 3256553024340013824011487432694407015189820634640154624, some 182), (2656331146614175432704, 6129982163463555433433388108601236734474956488734408704, some 183), (4722366482869645213696, 12259964326927110866866776217202473468949912977468817440, some 184), (14167099448608935641088, 36779892980781332600600328651607420406849738932406452224, some 185), (4722366482869645213696, 12259964326927110866866776217202473468949912977468817920, some 186), (42501298345826806923264, 110339678942343997801800985954822261220549216797219356672, some 187), (99169696140262549487616, 257459250865469328204202300561251942847948172526845165568, some 188), (155838093934698292051968, 404578822788594658606603615167681624475347128256470974464, some 189), (321120920835135874531328, 784637716923335095479473677900958302012794430558004314112, some 190), (604462909807314587353088, 1569275433846670190958947355801916604025588861116008628256, some 191), (1813388729421943762059264, 4707826301540010572876842067405749812076766583348025884672, some 192), (3022314549036572936765440, 7846377169233350954794736779009583020127944305580043141120, some 193), (604462909807314587353088, 1569275433846670190958947355801916604025588861116008628736, some 194), (10275869466724347985002496, 26677682375393393246302105048632582268435010638972146679808, some 195), (24782979302099898081476608, 51786089316940116301645262741463247932844432416828284731392, some 196), (44125792415933964876775424, 114557106670806923940003156973539912093867986861468629860352, some 197), (77975715365143581768548352, 202436530966220454633704208898447241919300963083965113040896, some 198), (193428131138340667952988160, 401734511064747568885490523085290650630550748445698208825344, some 199), (309485009821345068724781056, 803469022129495137770981046170581301261101496891396417650720, some 200), (928455029464035206174343168, 2410407066388485413312943138511743903783304490674189252952064, some 201), (1547425049106725343623905280, 4017345110647475688854905230852906506305507484456982088253440, some 202), (309485009821345068724781056, 803469022129495137770981046170581301261101496891396417651200, some 203), (5261245166962866168321277952, 13658973376201417342106677784899882121438725447153739100061696, some 204), (12688885402675147817716023296, 26514477730273339546442374523629182941616349397416081782472704, some 205), (22592405716958190016909017088, 58653238615453145057281616370452434992060409273071938488500224, some 206), (39923566266953513865496756224, 103647503854704872772456554956004987862682093098990137876938752, some 207), (99035203142830421991929937920, 205688069665150755269371147819668813122841983204197482918576128, some 208), (158456325028528675187087900672, 411376139330301510538742295639337626245683966408394965837152288, some 209), (475368975085586025561263702016, 1234128417990904531616226886918012878737051899225184897511456768, some 210), (792281625142643375935439503360, 2056880696651507552693711478196688131228419832041974829185761280, some 211), (1426106925256758076683791106048, 3702385253972713594848680660754038636211155697675554692534370304, some 212), (5070602400912917605986812821503, 6582018229284824168619876730229402019930943462534319453394436096, some 4)] [(true, 0), (true, 1), (true, 3), (true, 4), (false, 2), (false, 5), (true, 6), (true, 7), (true, 8), (true, 9), (true, 11), (true, 12), (false, 10), (false, 13), (true, 14), (true, 15), (true, 16), (true, 17), (true, 18), (true, 19), (true, 21), (true, 22), (false, 20), (false, 23), (false, 24), (true, 25), (true, 26), (true, 27), (true, 28), (true, 30), (true, 31), (false, 29), (false, 32), (false, 33), (false, 34), (true, 35), (true, 36), (true, 37), (true, 38), (true, 40), (true, 41), (false, 39), (false, 42), (false, 43), (true, 44), (true, 45), (true, 46), (true, 48), (false, 47), (false, 49), (false, 50), (true, 51), (true, 52), (true, 53), (true, 55), (false, 54), (false, 56), (false, 57), (true, 58), (true, 59), (true, 60), (true, 62), (false, 61), (false, 63), (false, 64), (true, 65), (true, 66), (true, 67), (true, 69), (false, 68), (true, 70), (true, 71), (true, 72), (true, 73), (true, 75), (true, 76), (false, 74), (true, 77), (true, 78), (true, 79), (true, 80), (true, 83), (true, 84), (false, 81), (false, 82), (false, 85), (true, 86), (true, 87), (true, 88), (true, 89), (true, 92), (true, 93), (false, 90), (false, 91), (false, 94), (true, 95), (true, 96), (true, 97), (true, 98), (false, 99), (true, 100), (true, 101), (true, 102)] (by kernel_rfl) (by kernel_rfl) (by kernel_rfl) (by kernel_rfl) (by kernel_rfl) (by kernel_rfl) (fun d _ _ _ _ h => by cases d <;> exact h) ⟨hba.drew, hbv.drew, hbx.drew, hby.drew⟩ (fun _ => ?_)
  simp only [pickOps, List.append_eq, List.cons_append, List.nil_append, List.getElem?_toArray, List.getElem?_cons_succ, List.getElem?_cons_zero]
  have hb : Below w17.heap.size w17 w17.drew := (Below.refl _ _).drew
  generalize w17.drew = w18 at hb ⊢
  replace hba := hba.kept hb
  replace hbv := hbv.kept hb
  replace hbx := hbx.kept hb
  replace hby := hby.kept hb
  replace hbq := hbq.kept hb
  replace hax := hax.below hb
  replace hay := hay.below hb
  replace ha := ha.below hb
  replace hvx := hvx.below hb
  replace hvy := hvy.below hb
  replace hv := hv.below hb
  replace hxx := hxx.below hb
  replace hxy := hxy.below hb
  replace hx := hx.below hb
  replace hyx := hyx.below hb
  replace hyy := hyy.below hb
  replace hy := hy.below hb
  replace hqx := hqx.below hb
  replace hqy := hqy.below hb
  replace hq := hq.below hb
  replace hzx := hzx.below hb
  replace hzy := hzy.below hb
  replace hz := hz.below hb
  replace hbf := hbf.trans (hb.mono hbf.size)
  clear hb
  repeat (first | (refine seq_take (v := ?_) (by rfl) ?_ ?_; rotate_left; (· intro w hSw; (try dsimp only at hSw); obtain ⟨⟨ea0, ea1, ea2, _, _, _⟩, ⟨ev0, ev1, ev2, _, _, _⟩, ⟨ex0, ex1, ex2, _, _, _⟩, ⟨ey0, ey1, ey2, _, _, _⟩⟩ := hSw; go_simp; all_goals with_reducible rfl); (try simp only [Act.put, List.setIfInBounds_toArray, List.set_cons_zero, List.set_cons_succ])) | (refine seq_leave (by rfl) ?_; (try simp only [Act.put, List.setIfInBounds_toArray, List.set_cons_zero, List.set_cons_succ])))
  refine seq_step (by rfl) (fun K hK => ?_)
  go_simp
  go_at_call 28
  (with_reducible refine (cmp_c _ _ a b c4 121 121 _ ha hv hqa hqb (by decide) C4).mono ?_)
  rintro e w19 ⟨rfl, hb⟩
  replace hba := hba.kept hb
  replace hbv := hbv.kept hb
  replace hbx := hbx.kept hb
  replace hby := hby.kept hb
  replace hbq := hbq.kept hb
  replace hax := hax.below hb
  replace hay := hay.below hb
  replace ha := ha.below hb
  replace hvx := hvx.below hb
  replace hvy := hvy.below hb
  replace hv := hv.below hb
  replace hxx := hxx.below hb
  replace hxy := hxy.below hb
  replace hx := hx.below hb
  replace hyx := hyx.below hb
  replace hyy := hyy.below hb
  replace hy := hy.below hb
  replace hqx := hqx.below hb
  replace hqy := hqy.below hb
  replace hq := hq.below hb
  replace hzx := hzx.below hb
  replace hzy := hzy.below hb
  replace hz := hz.below hb
  replace hbf := hbf.trans (hb.mono hbf.size)
  clear hb
  first | refine hK.out _ _ ⟨hba, hbv, hbx, hby⟩ (fun _ => ?_) | (go_wp2_with fail; refine hK.out _ _ ⟨hba, hbv, hbx, hby⟩ (fun _ => ?_))
  clear hK K
  (try simp only [Act.put, List.setIfInBounds_toArray, List.set_cons_zero, List.set_cons_succ])
  refine seq_step (by rfl) (fun K hK => ?_)
  go_simp
  go_at_call 37
  (with_reducible refine (rcmp_c _ _ a b c4 121 121 _ hx hy hqa hqb (by decide) C4).mono ?_)
  rintro e w20 ⟨rfl, hb⟩
  replace hba := hba.kept hb
  replace hbv := hbv.kept hb
  replace hbx := hbx.kept hb
  replace hby := hby.kept hb
  replace hbq := hbq.kept hb
  replace hax := hax.below hb
  replace hay := hay.below hb
  replace ha := ha.below hb
  replace hvx := hvx.below hb
  replace hvy := hvy.below hb
  replace hv := hv.below hb
  replace hxx := hxx.below hb
  replace hxy := hxy.below hb
  replace hx := hx.below hb
  replace hyx := hyx.below hb
  replace hyy := hyy.below hb
  replace hy := hy.below hb
  replace hqx := hqx.below hb
  replace hqy := hqy.below hb
  replace hq := hq.below hb
  replace hzx := hzx.below hb
  replace hzy := hzy.below hb
  replace hz := hz.below hb
  replace hbf := hbf.trans (hb.mono hbf.size)
  clear hb
  first | refine hK.out _ _ ⟨hba, hbv, hbx, hby⟩ (fun _ => ?_) | (go_wp2_with fail; refine hK.out _ _ ⟨hba, hbv, hbx, hby⟩ (fun _ => ?_))
  clear hK K
  (try simp only [Act.put, List.setIfInBounds_toArray, List.set_cons_zero, List.set_cons_succ])
  repeat (first | (refine seq_take (v := ?_) (by rfl) ?_ ?_; rotate_left; (· intro w hSw; (try dsimp only at hSw); obtain ⟨⟨ea0, ea1, ea2, _, _, _⟩, ⟨ev0, ev1, ev2, _, _, _⟩, ⟨ex0, ex1, ex2, _, _, _⟩, ⟨ey0, ey1, ey2, _, _, _⟩⟩ := hSw; go_simp; all_goals with_reducible rfl); (try simp only [Act.put, List.setIfInBounds_toArray, List.set_cons_zero, List.set_cons_succ])) | (refine seq_leave (by rfl) ?_; (try simp only [Act.put, List.setIfInBounds_toArray, List.set_cons_zero, List.set_cons_succ])))
  refine seq_step (by rfl) (fun K hK => ?_)
  go_simp
  go_at_call 20
  (with_reducible refine (same_b _ _ a b s9 121 121 _ ha hv hqa hqb (by decide) S9).mono ?_)
  rintro e w21 ⟨rfl, hb⟩
  replace hba := hba.kept hb
  replace hbv := hbv.kept hb
  replace hbx := hbx.kept hb
  replace hby := hby.kept hb
  replace hbq := hbq.kept hb
  replace hax := hax.below hb
  replace hay := hay.below hb
  replace ha := ha.below hb
  replace hvx := hvx.below hb
  replace hvy := hvy.below hb
  replace hv := hv.below hb
  replace hxx := hxx.below hb
  replace hxy := hxy.below hb
  replace hx := hx.below hb
  replace hyx := hyx.below hb
  replace hyy := hyy.below hb
  replace hy := hy.below hb
  replace hqx := hqx.below hb
  replace hqy := hqy.below hb
  replace hq := hq.below hb
  replace hzx := hzx.below hb
  replace hzy := hzy.below hb
  replace hz := hz.below hb
  replace hbf := hbf.trans (hb.mono hbf.size)
  clear hb
  first | refine hK.out _ _ ⟨hba, hbv, hbx, hby⟩ (fun _ => ?_) | (go_wp2_with fail; refine hK.out _ _ ⟨hba, hbv, hbx, hby⟩ (fun _ => ?_))
  clear hK K
  (try simp only [Act.put, List.setIfInBounds_toArray, List.set_cons_zero, List.set_cons_succ])
  refine seq_step (by rfl) (fun K hK => ?_)
  go_simp
  go_at_call 37
  (with_reducible refine (rcmp_c _ _ a b c4 121 121 _ hx hy hqa hqb (by decide) C4).mono ?_)
  rintro e w22 ⟨rfl, hb⟩
  replace hba := hba.kept hb
  replace hbv := hbv.kept hb
  replace hbx := hbx.kept hb
  replace hby := hby.kept hb
  replace hbq := hbq.kept hb
  replace hax := hax.below hb
  replace hay := hay.below hb
  replace ha := ha.below hb
  replace hvx := hvx.below hb
  replace hvy := hvy.below hb
  replace hv := hv.below hb
  replace hxx := hxx.below hb
  replace hxy := hxy.below hb
  replace hx := hx.below hb
  replace hyx := hyx.below hb
  replace hyy := hyy.below hb
  replace hy := hy.below hb
  replace hqx := hqx.below hb
  replace hqy := hqy.below hb
  replace hq := hq.below hb
  replace hzx := hzx.below hb
  replace hzy := hzy.below hb
  replace hz := hz.below hb
  replace hbf := hbf.trans (hb.mono hbf.size)
  clear hb
  first | refine hK.out _ _ ⟨hba, hbv, hbx, hby⟩ (fun _ => ?_) | (go_wp2_with fail; refine hK.out _ _ ⟨hba, hbv, hbx, hby⟩ (fun _ => ?_))
  clear hK K
  (try simp only [Act.put, List.setIfInBounds_toArray, List.set_cons_zero, List.set_cons_succ])
  repeat (first | (refine seq_take (v := ?_) (by rfl) ?_ ?_; rotate_left; (· intro w hSw; (try dsimp only at hSw); obtain ⟨⟨ea0, ea1, ea2, _, _, _⟩, ⟨ev0, ev1, ev2, _, _, _⟩, ⟨ex0, ex1, ex2, _, _, _⟩, ⟨ey0, ey1, ey2, _, _, _⟩⟩ := hSw; go_simp; all_goals with_reducible rfl); (try simp only [Act.put, List.setIfInBounds_toArray, List.set_cons_zero, List.set_cons_succ])) | (refine seq_leave (by rfl) ?_; (try simp only [Act.put, List.setIfInBounds_toArray, List.set_cons_zero, List.set_cons_succ])))
  refine seq_step (by rfl) (fun K hK => ?_)
  go_simp
  go_at_call 33
  (with_reducible refine (qadd_any _ _ a b 121 121 _ ha hv hqa hqb (by decide)).mono ?_)
  rintro e w23 hq9
  obtain ⟨dB, dxO, dxL, dxC, dyO, dyL, dyC, rfl, hS, hdx, hdy, hd, hb⟩ := hq9.out
  have HdS := Lib.hid hS; clear hS
  replace hba := hba.kept hb
  replace hbv := hbv.kept hb
  replace hbx := hbx.kept hb
  replace hby := hby.kept hb
  replace hbq := hbq.kept hb
  replace hax := hax.below hb
  replace hay := hay.below hb
  replace ha := ha.below hb
  replace hvx := hvx.below hb
  replace hvy := hvy.below hb
  replace hv := hv.below hb
  replace hxx := hxx.below hb
  replace hxy := hxy.below hb
  replace hx := hx.below hb
  replace hyx := hyx.below hb
  replace hyy := hyy.below hb
  replace hy := hy.below hb
  replace hqx := hqx.below hb
  replace hqy := hqy.below hb
  replace hq := hq.below hb
  replace hzx := hzx.below hb
  replace hzy := hzy.below hb
  replace hz := hz.below hb
  replace hbf := hbf.trans (hb.mono hbf.size)
  clear hb
  first | refine hK.out _ _ ⟨hba, hbv, hbx, hby⟩ (fun _ => ?_) | (go_wp2_with fail; refine hK.out _ _ ⟨hba, hbv, hbx, hby⟩ (fun _ => ?_))
  clear hK K
  (try simp only [Act.put, List.setIfInBounds_toArray, List.set_cons_zero, List.set_cons_succ])
  refine seq_step (by rfl) (fun K hK => ?_)
  go_simp
  go_at_call 36
  (with_reducible refine (rqadd_any _ _ a b 121 121 _ hx hy hqa hqb (by decide)).mono ?_)
  rintro e w24 hq9
  obtain ⟨eB, exO, exL, exC, eyO, eyL, eyC, rfl, hS, hex, hey, he, hb⟩ := hq9.out
  have HeS := Lib.hid hS; clear hS
  replace hba := hba.kept hb
  replace hbv := hbv.kept hb
  replace hbx := hbx.kept hb
  replace hby := hby.kept hb
  replace hbq := hbq.kept hb
  replace hax := hax.below hb
  replace hay := hay.below hb
  replace ha := ha.below hb
  replace hvx := hvx.below hb
  replace hvy := hvy.below hb
  replace hv := hv.below hb
  replace hxx := hxx.below hb
  replace hxy := hxy.below hb
  replace hx := hx.below hb
  replace hyx := hyx.below hb
  replace hyy := hyy.below hb
  replace hy := hy.below hb
  replace hqx := hqx.below hb
  replace hqy := hqy.below hb
  replace hq := hq.below hb
  replace hzx := hzx.below hb
  replace hzy := hzy.below hb
  replace hz := hz.below hb
  replace hdx := hdx.below hb
  replace hdy := hdy.below hb
  replace hd := hd.below hb
  replace hbf := hbf.trans (hb.mono hbf.size)
  clear hb
  first | refine hK.out _ _ ⟨hba, hbv, hbx, hby⟩ (fun _ => ?_) | (go_wp2_with fail; refine hK.out _ _ ⟨hba, hbv, hbx, hby⟩ (fun _ => ?_))
  clear hK K
  (try simp only [Act.put, List.setIfInBounds_toArray, List.set_cons_zero, List.set_cons_succ])
  refine seq_step (by rfl) (fun K hK => ?_)
  go_simp
  go_at_call 13
  (with_reducible refine (same2_any _ _ (a + b) _ hd he Qad).mono ?_)
  rintro e w25 ⟨rfl, hb⟩
  replace hba := hba.kept hb
  replace hbv := hbv.kept hb
  replace hbx := hbx.kept hb
  replace hby := hby.kept hb
  replace hbq := hbq.kept hb
  replace hax := hax.below hb
  replace hay := hay.below hb
  replace ha := ha.below hb
  replace hvx := hvx.below hb
  replace hvy := hvy.below hb
  replace hv := hv.below hb
  replace hxx := hxx.below hb
  replace hxy := hxy.below hb
  replace hx := hx.below hb
  replace hyx := hyx.below hb
  replace hyy := hyy.below hb
  replace hy := hy.below hb
  replace hqx := hqx.below hb
  replace hqy := hqy.below hb
  replace hq := hq.below hb
  replace hzx := hzx.below hb
  replace hzy := hzy.below hb
  replace hz := hz.below hb
  replace hdx := hdx.below hb
  replace hdy := hdy.below hb
  replace hd := hd.below hb
  replace hex := hex.below hb
  replace hey := hey.below hb
  replace he := he.below hb
  replace hbf := hbf.trans (hb.mono hbf.size)
  clear hb
  first | refine hK.out _ _ ⟨hba, hbv, hbx, hby⟩ (fun _ => ?_) | (go_wp2_with fail; refine hK.out _ _ ⟨hba, hbv, hbx, hby⟩ (fun _ => ?_))
  clear hK K
  (try simp only [Act.put, List.setIfInBounds_toArray, List.set_cons_zero, List.set_cons_succ])
  repeat (first | (refine seq_take (v := ?_) (by rfl) ?_ ?_; rotate_left; (· intro w hSw; (try dsimp only at hSw); obtain ⟨⟨ea0, ea1, ea2, _, _, _⟩, ⟨ev0, ev1, ev2, _, _, _⟩, ⟨ex0, ex1, ex2, _, _, _⟩, ⟨ey0, ey1, ey2, _, _, _⟩⟩ := hSw; go_simp; all_goals with_reducible rfl); (try simp only [Act.put, List.setIfInBounds_toArray, List.set_cons_zero, List.set_cons_succ])) | (refine seq_leave (by rfl) ?_; (try simp only [Act.put, List.setIfInBounds_toArray, List.set_cons_zero, List.set_cons_succ])))
  refine seq_step (by rfl) (fun K hK => ?_)
  go_simp
  go_at_call 25
  (with_reducible refine (qsub_any _ _ a b 121 121 _ ha hv hqa hqb (by decide)).mono ?_)
  rintro e w26 hq9
  obtain ⟨gB, gxO, gxL, gxC, gyO, gyL, gyC, rfl, hS, hgx, hgy, hg, hb⟩ := hq9.out
  have HgS := Lib.hid hS; clear hS
  replace hba := hba.kept hb
  replace hbv := hbv.kept hb
  replace hbx := hbx.kept hb
  replace hby := hby.kept hb
  replace hbq := hbq.kept hb
  replace hax := hax.below hb
  replace hay := hay.below hb
  replace ha := ha.below hb
  replace hvx := hvx.below hb
  replace hvy := hvy.below hb
  replace hv := hv.below hb
  replace hxx := hxx.below hb
  replace hxy := hxy.below hb
  replace hx := hx.below hb
  replace hyx := hyx.below hb
  replace hyy := hyy.below hb
  replace hy := hy.below hb
  replace hqx := hqx.below hb
  replace hqy := hqy.below hb
  replace hq := hq.below hb
  replace hzx := hzx.below hb
  replace hzy := hzy.below hb
  replace hz := hz.below hb
  replace hdx := hdx.below hb
  replace hdy := hdy.below hb
  replace hd := hd.below hb
  replace hex := hex.below hb
  replace hey := hey.below hb
  replace he := he.below hb
  replace hbf := hbf.trans (hb.mono hbf.size)
  clear hb
  first | refine hK.out _ _ ⟨hba, hbv, hbx, hby⟩ (fun _ => ?_) | (go_wp2_with fail; refine hK.out _ _ ⟨hba, hbv, hbx, hby⟩ (fun _ => ?_))
  clear hK K
  (try simp only [Act.put, List.setIfInBounds_toArray, List.set_cons_zero, List.set_cons_succ])
  refine seq_step (by rfl) (fun K hK => ?_)
  go_simp
  go_at_call 44
  (with_reducible refine (rqminus_any _ b 121 _ hy hqb (by decide)).mono ?_)
  rintro e w27 hq9
  obtain ⟨iB, ixO, ixL, ixC, iyO, iyL, iyC, rfl, hS, hix, hiy, hi, hb⟩ := hq9.out
  have HiS := Lib.hid hS; clear hS
  replace hba := hba.kept hb
  replace hbv := hbv.kept hb
  replace hbx := hbx.kept hb
  replace hby := hby.kept hb
  replace hbq := hbq.kept hb
  replace hax := hax.below hb
  replace hay := hay.below hb
  replace ha := ha.below hb
  replace hvx := hvx.below hb
  replace hvy := hvy.below hb
  replace hv := hv.below hb
  replace hxx := hxx.below hb
  replace hxy := hxy.below hb
  replace hx := hx.below hb
  replace hyx := hyx.below hb
  replace hyy := hyy.below hb
  replace hy := hy.below hb
  replace hqx := hqx.below hb
  replace hqy := hqy.below hb
  replace hq := hq.below hb
  replace hzx := hzx.below hb
  replace hzy := hzy.below hb
  replace hz := hz.below hb
  replace hdx := hdx.below hb
  replace hdy := hdy.below hb
  replace hd := hd.below hb
  replace hex := hex.below hb
  replace hey := hey.below hb
  replace he := he.below hb
  replace hgx := hgx.below hb
  replace hgy := hgy.below hb
  replace hg := hg.below hb
  replace hbf := hbf.trans (hb.mono hbf.size)
  clear hb
  first | refine hK.out _ _ ⟨hba, hbv, hbx, hby⟩ (fun _ => ?_) | (go_wp2_with fail; refine hK.out _ _ ⟨hba, hbv, hbx, hby⟩ (fun _ => ?_))
  clear hK K
  (try simp only [Act.put, List.setIfInBounds_toArray, List.set_cons_zero, List.set_cons_succ])
  refine seq_step (by rfl) (fun K hK => ?_)
  go_simp
  go_at_call 36
  (with_reducible refine (rqadd_any _ _ a (-b) 121 121 _ hx hi hqa Qnb (by decide)).mono ?_)
  rintro e w28 hq9
  obtain ⟨jB, jxO, jxL, jxC, jyO, jyL, jyC, rfl, hS, hjx, hjy, hj, hb⟩ := hq9.out
  have HjS := Lib.hid hS; clear hS
  replace hba := hba.kept hb
  replace hbv := hbv.kept hb
  replace hbx := hbx.kept hb
  replace hby := hby.kept hb
  replace hbq := hbq.kept hb
  replace hax := hax.below hb
  replace hay := hay.below hb
  replace ha := ha.below hb
  replace hvx := hvx.below hb
  replace hvy := hvy.below hb
  replace hv := hv.below hb
  replace hxx := hxx.below hb
  replace hxy := hxy.below hb
  replace hx := hx.below hb
  replace hyx := hyx.below hb
  replace hyy := hyy.below hb
  replace hy := hy.below hb
  replace hqx := hqx.below hb
  replace hqy := hqy.below hb
  replace hq := hq.below hb
  replace hzx := hzx.below hb
  replace hzy := hzy.below hb
  replace hz := hz.below hb
  replace hdx := hdx.below hb
  replace hdy := hdy.below hb
  replace hd := hd.below hb
  replace hex := hex.below hb
  replace hey := hey.below hb
  replace he := he.below hb
  replace hgx := hgx.below hb
  replace hgy := hgy.below hb
  replace hg := hg.below hb
  replace hix := hix.below hb
  replace hiy := hiy.below hb
  replace hi := hi.below hb
  replace hbf := hbf.trans (hb.mono hbf.size)
  clear hb
  rw [← SUB.out] at hj
  first | refine hK.out _ _ ⟨hba, hbv, hbx, hby⟩ (fun _ => ?_) | (go_wp2_with fail; refine hK.out _ _ ⟨hba, hbv, hbx, hby⟩ (fun _ => ?_))
  clear hK K
  (try simp only [Act.put, List.setIfInBounds_toArray, List.set_cons_zero, List.set_cons_succ])
  refine seq_step (by rfl) (fun K hK => ?_)
  go_simp
  go_at_call 13
  (with_reducible refine (same2_any _ _ (a - b) _ hg hj Qsb).mono ?_)
  rintro e w29 ⟨rfl, hb⟩
  replace hba := hba.kept hb
  replace hbv := hbv.kept hb
  replace hbx := hbx.kept hb
  replace hby := hby.kept hb
  replace hbq := hbq.kept hb
  replace hax := hax.below hb
  replace hay := hay.below hb
  replace ha := ha.below hb
  replace hvx := hvx.below hb
  replace hvy := hvy.below hb
  replace hv := hv.below hb
  replace hxx := hxx.below hb
  replace hxy := hxy.below hb
  replace hx := hx.below hb
  replace hyx := hyx.below hb
  replace hyy := hyy.below hb
  replace hy := hy.below hb
  replace hqx := hqx.below hb
  replace hqy := hqy.below hb
  replace hq := hq.below hb
  replace hzx := hzx.below hb
  replace hzy := hzy.below hb
  replace hz := hz.below hb
  replace hdx := hdx.below hb
  replace hdy := hdy.below hb
  replace hd := hd.below hb
  replace hex := hex.below hb
  replace hey := hey.below hb
  replace he := he.below hb
  replace hgx := hgx.below hb
  replace hgy := hgy.below hb
  replace hg := hg.below hb
  replace hix := hix.below hb
  replace hiy := hiy.below hb
  replace hi := hi.below hb
  replace hjx := hjx.below hb
  replace hjy := hjy.below hb
  replace hj := hj.below hb
  replace hbf := hbf.trans (hb.mono hbf.size)
  clear hb
  first | refine hK.out _ _ ⟨hba, hbv, hbx, hby⟩ (fun _ => ?_) | (go_wp2_with fail; refine hK.out _ _ ⟨hba, hbv, hbx, hby⟩ (fun _ => ?_))
  clear hK K
  (try simp only [Act.put, List.setIfInBounds_toArray, List.set_cons_zero, List.set_cons_succ])
  repeat (first | (refine seq_take (v := ?_) (by rfl) ?_ ?_; rotate_left; (· intro w hSw; (try dsimp only at hSw); obtain ⟨⟨ea0, ea1, ea2, _, _, _⟩, ⟨ev0, ev1, ev2, _, _, _⟩, ⟨ex0, ex1, ex2, _, _, _⟩, ⟨ey0, ey1, ey2, _, _, _⟩⟩ := hSw; go_simp; all_goals with_reducible rfl); (try simp only [Act.put, List.setIfInBounds_toArray, List.set_cons_zero, List.set_cons_succ])) | (refine seq_leave (by rfl) ?_; (try simp only [Act.put, List.setIfInBounds_toArray, List.set_cons_zero, List.set_cons_succ])))
  refine seq_step (by rfl) (fun K hK => ?_)
  go_simp
  go_at_call 32
  (with_reducible refine (qmul_any _ _ a b 121 121 _ ha hv hqa hqb (by decide)).mono ?_)
  rintro e w30 hq9
  obtain ⟨kB, kxO, kxL, kxC, kyO, kyL, kyC, rfl, hS, hkx, hky, hk, hb⟩ := hq9.out
  have HkS := Lib.hid hS; clear hS
  replace hba := hba.kept hb
  replace hbv := hbv.kept hb
  replace hbx := hbx.kept hb
  replace hby := hby.kept hb
  replace hbq := hbq.kept hb
  replace hax := hax.below hb
  replace hay := hay.below hb
  replace ha := ha.below hb
  replace hvx := hvx.below hb
  replace hvy := hvy.below hb
  replace hv := hv.below hb
  replace hxx := hxx.below hb
  replace hxy := hxy.below hb
  replace hx := hx.below hb
  replace hyx := hyx.below hb
  replace hyy := hyy.below hb
  replace hy := hy.below hb
  replace hqx := hqx.below hb
  replace hqy := hqy.below hb
  replace hq := hq.below hb
  replace hzx := hzx.below hb
  replace hzy := hzy.below hb
  replace hz := hz.below hb
  replace hdx := hdx.below hb
  replace hdy := hdy.below hb
  replace hd := hd.below hb
  replace hex := hex.below hb
  replace hey := hey.below hb
  replace he := he.below hb
  replace hgx := hgx.below hb
  replace hgy := hgy.below hb
  replace hg := hg.below hb
  replace hix := hix.below hb
  replace hiy := hiy.below hb
  replace hi := hi.below hb
  replace hjx := hjx.below hb
  replace hjy := hjy.below hb
  replace hj := hj.below hb
  replace hbf := hbf.trans (hb.mono hbf.size)
  clear hb
  first | refine hK.out _ _ ⟨hba, hbv, hbx, hby⟩ (fun _ => ?_) | (go_wp2_with fail; refine hK.out _ _ ⟨hba, hbv, hbx, hby⟩ (fun _ => ?_))
  clear hK K
  (try simp only [Act.put, List.setIfInBounds_toArray, List.set_cons_zero, List.set_cons_succ])
  refine seq_step (by rfl) (fun K hK => ?_)
  go_simp
  go_at_call 45
  (with_reducible refine (rqmul_any _ _ a b 121 121 _ hx hy hqa hqb (by decide)).mono ?_)
  rintro e w31 hq9
  obtain ⟨nB, nxO, nxL, nxC, nyO, nyL, nyC, rfl, hS, hnx, hny, hn, hb⟩ := hq9.out
  have HnS := Lib.hid hS; clear hS
  replace hba := hba.kept hb
  replace hbv := hbv.kept hb
  replace hbx := hbx.kept hb
  replace hby := hby.kept hb
  replace hbq := hbq.kept hb
  replace hax := hax.below hb
  replace hay := hay.below hb
  replace ha := ha.below hb
  replace hvx := hvx.below hb
  replace hvy := hvy.below hb
  replace hv := hv.below hb
  replace hxx := hxx.below hb
  replace hxy := hxy.below hb
  replace hx := hx.below hb
  replace hyx := hyx.below hb
  replace hyy := hyy.below hb
  replace hy := hy.below hb
  replace hqx := hqx.below hb
  replace hqy := hqy.below hb
  replace hq := hq.below hb
  replace hzx := hzx.below hb
  replace hzy := hzy.below hb
  replace hz := hz.below hb
  replace hdx := hdx.below hb
  replace hdy := hdy.below hb
  replace hd := hd.below hb
  replace hex := hex.below hb
  replace hey := hey.below hb
  replace he := he.below hb
  replace hgx := hgx.below hb
  replace hgy := hgy.below hb
  replace hg := hg.below hb
  replace hix := hix.below hb
  replace hiy := hiy.below hb
  replace hi := hi.below hb
  replace hjx := hjx.below hb
  replace hjy := hjy.below hb
  replace hj := hj.below hb
  replace hkx := hkx.below hb
  replace hky := hky.below hb
  replace hk := hk.below hb
  replace hbf := hbf.trans (hb.mono hbf.size)
  clear hb
  first | refine hK.out _ _ ⟨hba, hbv, hbx, hby⟩ (fun _ => ?_) | (go_wp2_with fail; refine hK.out _ _ ⟨hba, hbv, hbx, hby⟩ (fun _ => ?_))
  clear hK K
  (try simp only [Act.put, List.setIfInBounds_toArray, List.set_cons_zero, List.set_cons_succ])
  refine seq_step (by rfl) (fun K hK => ?_)
  go_simp
  go_at_call 13
  (with_reducible refine (same2_any _ _ (a * b) _ hk hn Qml).mono ?_)
  rintro e w32 ⟨rfl, hb⟩
  replace hba := hba.kept hb
  replace hbv := hbv.kept hb
  replace hbx := hbx.kept hb
  replace hby := hby.kept hb
  replace hbq := hbq.kept hb
  replace hax := hax.below hb
  replace hay := hay.below hb
  replace ha := ha.below hb
  replace hvx := hvx.below hb
  replace hvy := hvy.below hb
  replace hv := hv.below hb
  replace hxx := hxx.below hb
  replace hxy := hxy.below hb
  replace hx := hx.below hb
  replace hyx := hyx.below hb
  replace hyy := hyy.below hb
  replace hy := hy.below hb
  replace hqx := hqx.below hb
  replace hqy := hqy.below hb
  replace hq := hq.below hb
  replace hzx := hzx.below hb
  replace hzy := hzy.below hb
  replace hz := hz.below hb
  replace hdx := hdx.below hb
  replace hdy := hdy.below hb
  replace hd := hd.below hb
  replace hex := hex.below hb
  replace hey := hey.below hb
  replace he := he.below hb
  replace hgx := hgx.below hb
  replace hgy := hgy.below hb
  replace hg := hg.below hb
  replace hix := hix.below hb
  replace hiy := hiy.below hb
  replace hi := hi.below hb
  replace hjx := hjx.below hb
  replace hjy := hjy.below hb
  replace hj := hj.below hb
  replace hkx := hkx.below hb
  replace hky := hky.below hb
  replace hk := hk.below hb
  replace hnx := hnx.below hb
  replace hny := hny.below hb
  replace hn := hn.below hb
  replace hbf := hbf.trans (hb.mono hbf.size)
  clear hb
  first | refine hK.out _ _ ⟨hba, hbv, hbx, hby⟩ (fun _ => ?_) | (go_wp2_with fail; refine hK.out _ _ ⟨hba, hbv, hbx, hby⟩ (fun _ => ?_))
  clear hK K
  (try simp only [Act.put, List.setIfInBounds_toArray, List.set_cons_zero, List.set_cons_succ])
  repeat (first | (refine seq_take (v := ?_) (by rfl) ?_ ?_; rotate_left; (· intro w hSw; (try dsimp only at hSw); obtain ⟨⟨ea0, ea1, ea2, _, _, _⟩, ⟨ev0, ev1, ev2, _, _, _⟩, ⟨ex0, ex1, ex2, _, _, _⟩, ⟨ey0, ey1, ey2, _, _, _⟩⟩ := hSw; go_simp; all_goals with_reducible rfl); (try simp only [Act.put, List.setIfInBounds_toArray, List.set_cons_zero, List.set_cons_succ])) | (refine seq_leave (by rfl) ?_; (try simp only [Act.put, List.setIfInBounds_toArray, List.set_cons_zero, List.set_cons_succ])))
  refine seq_step (by rfl) (fun K hK => ?_)
  go_simp
  go_at_call 29
  (with_reducible refine (floor_any _ a 121 _ ha hqa (by decide) (by decide)).mono ?_)
  rintro e w33 hq9
  obtain ⟨oB, oxO, oxL, oxC, oyO, oyL, oyC, rfl, hS, hox, hoy, ho, hb⟩ := hq9.out
  have HoS := Lib.hid hS; clear hS
  replace hba := hba.kept hb
  replace hbv := hbv.kept hb
  replace hbx := hbx.kept hb
  replace hby := hby.kept hb
  replace hbq := hbq.kept hb
  replace hax := hax.below hb
  replace hay := hay.below hb
  replace ha := ha.below hb
  replace hvx := hvx.below hb
  replace hvy := hvy.below hb
  replace hv := hv.below hb
  replace hxx := hxx.below hb
  replace hxy := hxy.below hb
  replace hx := hx.below hb
  replace hyx := hyx.below hb
  replace hyy := hyy.below hb
  replace hy := hy.below hb
  replace hqx := hqx.below hb
  replace hqy := hqy.below hb
  replace hq := hq.below hb
  replace hzx := hzx.below hb
  replace hzy := hzy.below hb
  replace hz := hz.below hb
  replace hdx := hdx.below hb
  replace hdy := hdy.below hb
  replace hd := hd.below hb
  replace hex := hex.below hb
  replace hey := hey.below hb
  replace he := he.below hb
  replace hgx := hgx.below hb
  replace hgy := hgy.below hb
  replace hg := hg.below hb
  replace hix := hix.below hb
  replace hiy := hiy.below hb
  replace hi := hi.below hb
  replace hjx := hjx.below hb
  replace hjy := hjy.below hb
  replace hj := hj.below hb
  replace hkx := hkx.below hb
  replace hky := hky.below hb
  replace hk := hk.below hb
  replace hnx := hnx.below hb
  replace hny := hny.below hb
  replace hn := hn.below hb
  replace hbf := hbf.trans (hb.mono hbf.size)
  clear hb
  first | refine hK.out _ _ ⟨hba, hbv, hbx, hby⟩ (fun _ => ?_) | (go_wp2_with fail; refine hK.out _ _ ⟨hba, hbv, hbx, hby⟩ (fun _ => ?_))
  clear hK K
  (try simp only [Act.put, List.setIfInBounds_toArray, List.set_cons_zero, List.set_cons_succ])
  refine seq_step (by rfl) (fun K hK => ?_)
  go_simp
  go_at_call 46
  (with_reducible refine (rqfloor_any _ a 121 _ hx hqa (by decide) (by decide)).mono ?_)
  rintro e w34 hq9
  obtain ⟨pB, pxO, pxL, pxC, pyO, pyL, pyC, rfl, hS, hpx, hpy, hp, hb⟩ := hq9.out
  have HpS := Lib.hid hS; clear hS
  replace hba := hba.kept hb
  replace hbv := hbv.kept hb
  replace hbx := hbx.kept hb
  replace hby := hby.kept hb
  replace hbq := hbq.kept hb
  replace hax := hax.below hb
  replace hay := hay.below hb
  replace ha := ha.below hb
  replace hvx := hvx.below hb
  replace hvy := hvy.below hb
  replace hv := hv.below hb
  replace hxx := hxx.below hb
  replace hxy := hxy.below hb
  replace hx := hx.below hb
  replace hyx := hyx.below hb
  replace hyy := hyy.below hb
  replace hy := hy.below hb
  replace hqx := hqx.below hb
  replace hqy := hqy.below hb
  replace hq := hq.below hb
  replace hzx := hzx.below hb
  replace hzy := hzy.below hb
  replace hz := hz.below hb
  replace hdx := hdx.below hb
  replace hdy := hdy.below hb
  replace hd := hd.below hb
  replace hex := hex.below hb
  replace hey := hey.below hb
  replace he := he.below hb
  replace hgx := hgx.below hb
  replace hgy := hgy.below hb
  replace hg := hg.below hb
  replace hix := hix.below hb
  replace hiy := hiy.below hb
  replace hi := hi.below hb
  replace hjx := hjx.below hb
  replace hjy := hjy.below hb
  replace hj := hj.below hb
  replace hkx := hkx.below hb
  replace hky := hky.below hb
  replace hk := hk.below hb
  replace hnx := hnx.below hb
  replace hny := hny.below hb
  replace hn := hn.below hb
  replace hox := hox.below hb
  replace hoy := hoy.below hb
  replace ho := ho.below hb
  replace hbf := hbf.trans (hb.mono hbf.size)
  clear hb
  first | refine hK.out _ _ ⟨hba, hbv, hbx, hby⟩ (fun _ => ?_) | (go_wp2_with fail; refine hK.out _ _ ⟨hba, hbv, hbx, hby⟩ (fun _ => ?_))
  clear hK K
  (try simp only [Act.put, List.setIfInBounds_toArray, List.set_cons_zero, List.set_cons_succ])
  refine seq_step (by rfl) (fun K hK => ?_)
  go_simp
  go_at_call 13
  (with_reducible refine (same2_any _ _ _ _ ho hp Qfl).mono ?_)
  rintro e w35 ⟨rfl, hb⟩
  replace hba := hba.kept hb
  replace hbv := hbv.kept hb
  replace hbx := hbx.kept hb
  replace hby := hby.kept hb
  replace hbq := hbq.kept hb
  replace hax := hax.below hb
  replace hay := hay.below hb
  replace ha := ha.below hb
  replace hvx := hvx.below hb
  replace hvy := hvy.below hb
  replace hv := hv.below hb
  replace hxx := hxx.below hb
  replace hxy := hxy.below hb
  replace hx := hx.below hb
  replace hyx := hyx.below hb
  replace hyy := hyy.below hb
  replace hy := hy.below hb
  replace hqx := hqx.below hb
  replace hqy := hqy.below hb
  replace hq := hq.below hb
  replace hzx := hzx.below hb
  replace hzy := hzy.below hb
  replace hz := hz.below hb
  replace hdx := hdx.below hb
  replace hdy := hdy.below hb
  replace hd := hd.below hb
  replace hex := hex.below hb
  replace hey := hey.below hb
  replace he := he.below hb
  replace hgx := hgx.below hb
  replace hgy := hgy.below hb
  replace hg := hg.below hb
  replace hix := hix.below hb
  replace hiy := hiy.below hb
  replace hi := hi.below hb
  replace hjx := hjx.below hb
  replace hjy := hjy.below hb
  replace hj := hj.below hb
  replace hkx := hkx.below hb
  replace hky := hky.below hb
  replace hk := hk.below hb
  replace hnx := hnx.below hb
  replace hny := hny.below hb
  replace hn := hn.below hb
  replace hox := hox.below hb
  replace hoy := hoy.below hb
  replace ho := ho.below hb
  replace hpx := hpx.below hb
  replace hpy := hpy.below hb
  replace hp := hp.below hb
  replace hbf := hbf.trans (hb.mono hbf.size)
  clear hb
  first | refine hK.out _ _ ⟨hba, hbv, hbx, hby⟩ (fun _ => ?_) | (go_wp2_with fail; refine hK.out _ _ ⟨hba, hbv, hbx, hby⟩ (fun _ => ?_))
  clear hK K
  (try simp only [Act.put, List.setIfInBounds_toArray, List.set_cons_zero, List.set_cons_succ])
  repeat (first | (refine seq_take (v := ?_) (by rfl) ?_ ?_; rotate_left; (· intro w hSw; (try dsimp only at hSw); obtain ⟨⟨ea0, ea1, ea2, _, _, _⟩, ⟨ev0, ev1, ev2, _, _, _⟩, ⟨ex0, ex1, ex2, _, _, _⟩, ⟨ey0, ey1, ey2, _, _, _⟩⟩ := hSw; go_simp; all_goals with_reducible rfl); (try simp only [Act.put, List.setIfInBounds_toArray, List.set_cons_zero, List.set_cons_succ])) | (refine seq_leave (by rfl) ?_; (try simp only [Act.put, List.setIfInBounds_toArray, List.set_cons_zero, List.set_cons_succ])))
  refine seq_step (by rfl) (fun K hK => ?_)
  go_simp
  go_at_call 30
  (with_reducible refine (ceil_any _ a 121 _ ha hqa (by decide) (by decide)).mono ?_)
  rintro e w36 hq9
  obtain ⟨rB, rxO, rxL, rxC, ryO, ryL, ryC, rfl, hS, hrx, hry, hr, hb⟩ := hq9.out
  have HrS := Lib.hid hS; clear hS
  replace hba := hba.kept hb
  replace hbv := hbv.kept hb
  replace hbx := hbx.kept hb
  replace hby := hby.kept hb
  replace hbq := hbq.kept hb
  replace hax := hax.below hb
  replace hay := hay.below hb
  replace ha := ha.below hb
  replace hvx := hvx.below hb
  replace hvy := hvy.below hb
  replace hv := hv.below hb
  replace hxx := hxx.below hb
  replace hxy := hxy.below hb
  replace hx := hx.below hb
  replace hyx := hyx.below hb
  replace hyy := hyy.below hb
  replace hy := hy.below hb
  replace hqx := hqx.below hb
  replace hqy := hqy.below hb
  replace hq := hq.below hb
  replace hzx := hzx.below hb
  replace hzy := hzy.below hb
  replace hz := hz.below hb
  replace hdx := hdx.below hb
  replace hdy := hdy.below hb
  replace hd := hd.below hb
  replace hex := hex.below hb
  replace hey := hey.below hb
  replace he := he.below hb
  replace hgx := hgx.below hb
  replace hgy := hgy.below hb
  replace hg := hg.below hb
  replace hix := hix.below hb
  replace hiy := hiy.below hb
  replace hi := hi.below hb
  replace hjx := hjx.below hb
  replace hjy := hjy.below hb
  replace hj := hj.below hb
  replace hkx := hkx.below hb
  replace hky := hky.below hb
  replace hk := hk.below hb
  replace hnx := hnx.below hb
  replace hny := hny.below hb
  replace hn := hn.below hb
  replace hox := hox.below hb
  replace hoy := hoy.below hb
  replace ho := ho.below hb
  replace hpx := hpx.below hb
  replace hpy := hpy.below hb
  replace hp := hp.below hb
  replace hbf := hbf.trans (hb.mono hbf.size)
  clear hb
  first | refine hK.out _ _ ⟨hba, hbv, hbx, hby⟩ (fun _ => ?_) | (go_wp2_with fail; refine hK.out _ _ ⟨hba, hbv, hbx, hby⟩ (fun _ => ?_))
  clear hK K
  (try simp only [Act.put, List.setIfInBounds_toArray, List.set_cons_zero, List.set_cons_succ])
  refine seq_step (by rfl) (fun K hK => ?_)
  go_simp
  go_at_call 47
  (with_reducible refine (rqceil_any _ a 121 _ hx hqa (by decide) (by decide)).mono ?_)
  rintro e w37 hq9
  obtain ⟨sB, sxO, sxL, sxC, syO, syL, syC, rfl, hS, hsx, hsy, hs, hb⟩ := hq9.out
  have HsS := Lib.hid hS; clear hS
  replace hba := hba.kept hb
  replace hbv := hbv.kept hb
  replace hbx := hbx.kept hb
  replace hby := hby.kept hb
  replace hbq := hbq.kept hb
  replace hax := hax.below hb
  replace hay := hay.below hb
  replace ha := ha.below hb
  replace hvx := hvx.below hb
  replace hvy := hvy.below hb
  replace hv := hv.below hb
  replace hxx := hxx.below hb
  replace hxy := hxy.below hb
  replace hx := hx.below hb
  replace hyx := hyx.below hb
  replace hyy := hyy.below hb
  replace hy := hy.below hb
  replace hqx := hqx.below hb
  replace hqy := hqy.below hb
  replace hq := hq.below hb
  replace hzx := hzx.below hb
  replace hzy := hzy.below hb
  replace hz := hz.below hb
  replace hdx := hdx.below hb
  replace hdy := hdy.below hb
  replace hd := hd.below hb
  replace hex := hex.below hb
  replace hey := hey.below hb
  replace he := he.below hb
  replace hgx := hgx.below hb
  replace hgy := hgy.below hb
  replace hg := hg.below hb
  replace hix := hix.below hb
  replace hiy := hiy.below hb
  replace hi := hi.below hb
  replace hjx := hjx.below hb
  replace hjy := hjy.below hb
  replace hj := hj.below hb
  replace hkx := hkx.below hb
  replace hky := hky.below hb
  replace hk := hk.below hb
  replace hnx := hnx.below hb
  replace hny := hny.below hb
  replace hn := hn.below hb
  replace hox := hox.below hb
  replace hoy := hoy.below hb
  replace ho := ho.below hb
  replace hpx := hpx.below hb
  replace hpy := hpy.below hb
  replace hp := hp.below hb
  replace hrx := hrx.below hb
  replace hry := hry.below hb
  replace hr := hr.below hb
  replace hbf := hbf.trans (hb.mono hbf.size)
  clear hb
  first | refine hK.out _ _ ⟨hba, hbv, hbx, hby⟩ (fun _ => ?_) | (go_wp2_with fail; refine hK.out _ _ ⟨hba, hbv, hbx, hby⟩ (fun _ => ?_))
  clear hK K
  (try simp only [Act.put, List.setIfInBounds_toArray, List.set_cons_zero, List.set_cons_succ])
  refine seq_step (by rfl) (fun K hK => ?_)
  go_simp
  go_at_call 13
  (with_reducible refine (same2_any _ _ _ _ hr hs Qcl).mono ?_)
  rintro e w38 ⟨rfl, hb⟩
  replace hba := hba.kept hb
  replace hbv := hbv.kept hb
  replace hbx := hbx.kept hb
  replace hby := hby.kept hb
  replace hbq := hbq.kept hb
  replace hax := hax.below hb
  replace hay := hay.below hb
  replace ha := ha.below hb
  replace hvx := hvx.below hb
  replace hvy := hvy.below hb
  replace hv := hv.below hb
  replace hxx := hxx.below hb
  replace hxy := hxy.below hb
  replace hx := hx.below hb
  replace hyx := hyx.below hb
  replace hyy := hyy.below hb
  replace hy := hy.below hb
  replace hqx := hqx.below hb
  replace hqy := hqy.below hb
  replace hq := hq.below hb
  replace hzx := hzx.below hb
  replace hzy := hzy.below hb
  replace hz := hz.below hb
  replace hdx := hdx.below hb
  replace hdy := hdy.below hb
  replace hd := hd.below hb
  replace hex := hex.below hb
  replace hey := hey.below hb
  replace he := he.below hb
  replace hgx := hgx.below hb
  replace hgy := hgy.below hb
  replace hg := hg.below hb
  replace hix := hix.below hb
  replace hiy := hiy.below hb
  replace hi := hi.below hb
  replace hjx := hjx.below hb
  replace hjy := hjy.below hb
  replace hj := hj.below hb
  replace hkx := hkx.below hb
  replace hky := hky.below hb
  replace hk := hk.below hb
  replace hnx := hnx.below hb
  replace hny := hny.below hb
  replace hn := hn.below hb
  replace hox := hox.below hb
  replace hoy := hoy.below hb
  replace ho := ho.below hb
  replace hpx := hpx.below hb
  replace hpy := hpy.below hb
  replace hp := hp.below hb
  replace hrx := hrx.below hb
  replace hry := hry.below hb
  replace hr := hr.below hb
  replace hsx := hsx.below hb
  replace hsy := hsy.below hb
  replace hs := hs.below hb
  replace hbf := hbf.trans (hb.mono hbf.size)
  clear hb
  first | refine hK.out _ _ ⟨hba, hbv, hbx, hby⟩ (fun _ => ?_) | (go_wp2_with fail; refine hK.out _ _ ⟨hba, hbv, hbx, hby⟩ (fun _ => ?_))
  clear hK K
  (try simp only [Act.put, List.setIfInBounds_toArray, List.set_cons_zero, List.set_cons_succ])
  repeat (first | (refine seq_take (v := ?_) (by rfl) ?_ ?_; rotate_left; (· intro w hSw; (try dsimp only at hSw); obtain ⟨⟨ea0, ea1, ea2, _, _, _⟩, ⟨ev0, ev1, ev2, _, _, _⟩, ⟨ex0, ex1, ex2, _, _, _⟩, ⟨ey0, ey1, ey2, _, _, _⟩⟩ := hSw; go_simp; all_goals with_reducible rfl); (try simp only [Act.put, List.setIfInBounds_toArray, List.set_cons_zero, List.set_cons_succ])) | (refine seq_leave (by rfl) ?_; (try simp only [Act.put, List.setIfInBounds_toArray, List.set_cons_zero, List.set_cons_succ])))
  refine seq_step (by rfl) (fun K hK => ?_)
  go_simp
  go_at_call 24
  (with_reducible refine (round_any _ a 121 _ ha hqa (by decide)).mono ?_)
  rintro e w39 hq9
  obtain ⟨tB, txO, txL, txC, tyO, tyL, tyC, rfl, hS, htx, hty, ht, hb⟩ := hq9.out
  have HtS := Lib.hid hS; clear hS
  replace hba := hba.kept hb
  replace hbv := hbv.kept hb
  replace hbx := hbx.kept hb
  replace hby := hby.kept hb
  replace hbq := hbq.kept hb
  replace hax := hax.below hb
  replace hay := hay.below hb
  replace ha := ha.below hb
  replace hvx := hvx.below hb
  replace hvy := hvy.below hb
  replace hv := hv.below hb
  replace hxx := hxx.below hb
  replace hxy := hxy.below hb
  replace hx := hx.below hb
  replace hyx := hyx.below hb
  replace hyy := hyy.below hb
  replace hy := hy.below hb
  replace hqx := hqx.below hb
  replace hqy := hqy.below hb
  replace hq := hq.below hb
  replace hzx := hzx.below hb
  replace hzy := hzy.below hb
  replace hz := hz.below hb
  replace hdx := hdx.below hb
  replace hdy := hdy.below hb
  replace hd := hd.below hb
  replace hex := hex.below hb
  replace hey := hey.below hb
  replace he := he.below hb
  replace hgx := hgx.below hb
  replace hgy := hgy.below hb
  replace hg := hg.below hb
  replace hix := hix.below hb
  replace hiy := hiy.below hb
  replace hi := hi.below hb
  replace hjx := hjx.below hb
  replace hjy := hjy.below hb
  replace hj := hj.below hb
  replace hkx := hkx.below hb
  replace hky := hky.below hb
  replace hk := hk.below hb
  replace hnx := hnx.below hb
  replace hny := hny.below hb
  replace hn := hn.below hb
  replace hox := hox.below hb
  replace hoy := hoy.below hb
  replace ho := ho.below hb
  replace hpx := hpx.below hb
  replace hpy := hpy.below hb
  replace hp := hp.below hb
  replace hrx := hrx.below hb
  replace hry := hry.below hb
  replace hr := hr.below hb
  replace hsx := hsx.below hb
  replace hsy := hsy.below hb
  replace hs := hs.below hb
  replace hbf := hbf.trans (hb.mono hbf.size)
  clear hb
  first | refine hK.out _ _ ⟨hba, hbv, hbx, hby⟩ (fun _ => ?_) | (go_wp2_with fail; refine hK.out _ _ ⟨hba, hbv, hbx, hby⟩ (fun _ => ?_))
  clear hK K
  (try simp only [Act.put, List.setIfInBounds_toArray, List.set_cons_zero, List.set_cons_succ])
  refine seq_step (by rfl) (fun K hK => ?_)
  go_simp
  go_at_call 48
  (with_reducible refine (rqround_any _ a 121 _ hx hqa (by decide)).mono ?_)
  rintro e w40 hq9
  obtain ⟨uB, uxO, uxL, uxC, uyO, uyL, uyC, rfl, hS, hux, huy, hu, hb⟩ := hq9.out
  have HuS := Lib.hid hS; clear hS
  replace hba := hba.kept hb
  replace hbv := hbv.kept hb
  replace hbx := hbx.kept hb
  replace hby := hby.kept hb
  replace hbq := hbq.kept hb
  replace hax := hax.below hb
  replace hay := hay.below hb
  replace ha := ha.below hb
  replace hvx := hvx.below hb
  replace hvy := hvy.below hb
  replace hv := hv.below hb
  replace hxx := hxx.below hb
  replace hxy := hxy.below hb
  replace hx := hx.below hb
  replace hyx := hyx.below hb
  replace hyy := hyy.below hb
  replace hy := hy.below hb
  replace hqx := hqx.below hb
  replace hqy := hqy.below hb
  replace hq := hq.below hb
  replace hzx := hzx.below hb
  replace hzy := hzy.below hb
  replace hz := hz.below hb
  replace hdx := hdx.below hb
  replace hdy := hdy.below hb
  replace hd := hd.below hb
  replace hex := hex.below hb
  replace hey := hey.below hb
  replace he := he.below hb
  replace hgx := hgx.below hb
  replace hgy := hgy.below hb
  replace hg := hg.below hb
  replace hix := hix.below hb
  replace hiy := hiy.below hb
  replace hi := hi.below hb
  replace hjx := hjx.below hb
  replace hjy := hjy.below hb
  replace hj := hj.below hb
  replace hkx := hkx.below hb
  replace hky := hky.below hb
  replace hk := hk.below hb
  replace hnx := hnx.below hb
  replace hny := hny.below hb
  replace hn := hn.below hb
  replace hox := hox.below hb
  replace hoy := hoy.below hb
  replace ho := ho.below hb
  replace hpx := hpx.below hb
  replace hpy := hpy.below hb
  replace hp := hp.below hb
  replace hrx := hrx.below hb
  replace hry := hry.below hb
  replace hr := hr.below hb
  replace hsx := hsx.below hb
  replace hsy := hsy.below hb
  replace hs := hs.below hb
  replace htx := htx.below hb
  replace hty := hty.below hb
  replace ht := ht.below hb
  replace hbf := hbf.trans (hb.mono hbf.size)
  clear hb
  first | refine hK.out _ _ ⟨hba, hbv, hbx, hby⟩ (fun _ => ?_) | (go_wp2_with fail; refine hK.out _ _ ⟨hba, hbv, hbx, hby⟩ (fun _ => ?_))
  clear hK K
  (try simp only [Act.put, List.setIfInBounds_toArray, List.set_cons_zero, List.set_cons_succ])
  refine seq_step (by rfl) (fun K hK => ?_)
  go_simp
  go_at_call 13
  (with_reducible refine (same2_any _ _ _ _ ht hu Qrd).mono ?_)
  rintro e w41 ⟨rfl, hb⟩
  replace hba := hba.kept hb
  replace hbv := hbv.kept hb
  replace hbx := hbx.kept hb
  replace hby := hby.kept hb
  replace hbq := hbq.kept hb
  replace hax := hax.below hb
  replace hay := hay.below hb
  replace ha := ha.below hb
  replace hvx := hvx.below hb
  replace hvy := hvy.below hb
  replace hv := hv.below hb
  replace hxx := hxx.below hb
  replace hxy := hxy.below hb
  replace hx := hx.below hb
  replace hyx := hyx.below hb
  replace hyy := hyy.below hb
  replace hy := hy.below hb
  replace hqx := hqx.below hb
  replace hqy := hqy.below hb
  replace hq := hq.below hb
  replace hzx := hzx.below hb
  replace hzy := hzy.below hb
  replace hz := hz.below hb
  replace hdx := hdx.below hb
  replace hdy := hdy.below hb
  replace hd := hd.below hb
  replace hex := hex.below hb
  replace hey := hey.below hb
  replace he := he.below hb
  replace hgx := hgx.below hb
  replace hgy := hgy.below hb
  replace hg := hg.below hb
  replace hix := hix.below hb
  replace hiy := hiy.below hb
  replace hi := hi.below hb
  replace hjx := hjx.below hb
  replace hjy := hjy.below hb
  replace hj := hj.below hb
  replace hkx := hkx.below hb
  replace hky := hky.below hb
  replace hk := hk.below hb
  replace hnx := hnx.below hb
  replace hny := hny.below hb
  replace hn := hn.below hb
  replace hox := hox.below hb
  replace hoy := hoy.below hb
  replace ho := ho.below hb
  replace hpx := hpx.below hb
  replace hpy := hpy.below hb
  replace hp := hp.below hb
  replace hrx := hrx.below hb
  replace hry := hry.below hb
  replace hr := hr.below hb
  replace hsx := hsx.below hb
  replace hsy := hsy.below hb
  replace hs := hs.below hb
  replace htx := htx.below hb
  replace hty := hty.below hb
  replace ht := ht.below hb
  replace hux := hux.below hb
  replace huy := huy.below hb
  replace hu := hu.below hb
  replace hbf := hbf.trans (hb.mono hbf.size)
  clear hb
  first | refine hK.out _ _ ⟨hba, hbv, hbx, hby⟩ (fun _ => ?_) | (go_wp2_with fail; refine hK.out _ _ ⟨hba, hbv, hbx, hby⟩ (fun _ => ?_))
  clear hK K
  (try simp only [Act.put, List.setIfInBounds_toArray, List.set_cons_zero, List.set_cons_succ])
  repeat (first | (refine seq_take (v := ?_) (by rfl) ?_ ?_; rotate_left; (· intro w hSw; (try dsimp only at hSw); obtain ⟨⟨ea0, ea1, ea2, _, _, _⟩, ⟨ev0, ev1, ev2, _, _, _⟩, ⟨ex0, ex1, ex2, _, _, _⟩, ⟨ey0, ey1, ey2, _, _, _⟩⟩ := hSw; go_simp; all_goals with_reducible rfl); (try simp only [Act.put, List.setIfInBounds_toArray, List.set_cons_zero, List.set_cons_succ])) | (refine seq_leave (by rfl) ?_; (try simp only [Act.put, List.setIfInBounds_toArray, List.set_cons_zero, List.set_cons_succ])))
  refine seq_step (by rfl) (fun K hK => ?_)
  go_simp
  go_at_call 27
  (with_reducible refine (whole_b _ a o9 _ ha HO9).mono ?_)
  rintro e w42 ⟨rfl, hb⟩
  replace hba := hba.kept hb
  replace hbv := hbv.kept hb
  replace hbx := hbx.kept hb
  replace hby := hby.kept hb
  replace hbq := hbq.kept hb
  replace hax := hax.below hb
  replace hay := hay.below hb
  replace ha := ha.below hb
  replace hvx := hvx.below hb
  replace hvy := hvy.below hb
  replace hv := hv.below hb
  replace hxx := hxx.below hb
  replace hxy := hxy.below hb
  replace hx := hx.below hb
  replace hyx := hyx.below hb
  replace hyy := hyy.below hb
  replace hy := hy.below hb
  replace hqx := hqx.below hb
  replace hqy := hqy.below hb
  replace hq := hq.below hb
  replace hzx := hzx.below hb
  replace hzy := hzy.below hb
  replace hz := hz.below hb
  replace hdx := hdx.below hb
  replace hdy := hdy.below hb
  replace hd := hd.below hb
  replace hex := hex.below hb
  replace hey := hey.below hb
  replace he := he.below hb
  replace hgx := hgx.below hb
  replace hgy := hgy.below hb
  replace hg := hg.below hb
  replace hix := hix.below hb
  replace hiy := hiy.below hb
  replace hi := hi.below hb
  replace hjx := hjx.below hb
  replace hjy := hjy.below hb
  replace hj := hj.below hb
  replace hkx := hkx.below hb
  replace hky := hky.below hb
  replace hk := hk.below hb
  replace hnx := hnx.below hb
  replace hny := hny.below hb
  replace hn := hn.below hb
  replace hox := hox.below hb
  replace hoy := hoy.below hb
  replace ho := ho.below hb
  replace hpx := hpx.below hb
  replace hpy := hpy.below hb
  replace hp := hp.below hb
  replace hrx := hrx.below hb
  replace hry := hry.below hb
  replace hr := hr.below hb
  replace hsx := hsx.below hb
  replace hsy := hsy.below hb
  replace hs := hs.below hb
  replace htx := htx.below hb
  replace hty := hty.below hb
  replace ht := ht.below hb
  replace hux := hux.below hb
  replace huy := huy.below hb
  replace hu := hu.below hb
  replace hbf := hbf.trans (hb.mono hbf.size)
  clear hb
  first | refine hK.out _ _ ⟨hba, hbv, hbx, hby⟩ (fun _ => ?_) | (go_wp2_with fail; refine hK.out _ _ ⟨hba, hbv, hbx, hby⟩ (fun _ => ?_))
  clear hK K
  (try simp only [Act.put, List.setIfInBounds_toArray, List.set_cons_zero, List.set_cons_succ])
  repeat (first | (refine seq_take (v := ?_) (by rfl) ?_ ?_; rotate_left; (· intro w hSw; (try dsimp only at hSw); obtain ⟨⟨ea0, ea1, ea2, _, _, _⟩, ⟨ev0, ev1, ev2, _, _, _⟩, ⟨ex0, ex1, ex2, _, _, _⟩, ⟨ey0, ey1, ey2, _, _, _⟩⟩ := hSw; go_simp; all_goals with_reducible rfl); (try simp only [Act.put, List.setIfInBounds_toArray, List.set_cons_zero, List.set_cons_succ])) | (refine seq_leave (by rfl) ?_; (try simp only [Act.put, List.setIfInBounds_toArray, List.set_cons_zero, List.set_cons_succ])))
  refine seq_step (by rfl) (fun K hK => ?_)
  go_simp
  go_at_call 26
  (with_reducible refine (neg_b _ a xB _ ha HNX).mono ?_)
  rintro e w43 ⟨rfl, hb⟩
  replace hba := hba.kept hb
  replace hbv := hbv.kept hb
  replace hbx := hbx.kept hb
  replace hby := hby.kept hb
  replace hbq := hbq.kept hb
  replace hax := hax.below hb
  replace hay := hay.below hb
  replace ha := ha.below hb
  replace hvx := hvx.below hb
  replace hvy := hvy.below hb
  replace hv := hv.below hb
  replace hxx := hxx.below hb
  replace hxy := hxy.below hb
  replace hx := hx.below hb
  replace hyx := hyx.below hb
  replace hyy := hyy.below hb
  replace hy := hy.below hb
  replace hqx := hqx.below hb
  replace hqy := hqy.below hb
  replace hq := hq.below hb
  replace hzx := hzx.below hb
  replace hzy := hzy.below hb
  replace hz := hz.below hb
  replace hdx := hdx.below hb
  replace hdy := hdy.below hb
  replace hd := hd.below hb
  replace hex := hex.below hb
  replace hey := hey.below hb
  replace he := he.below hb
  replace hgx := hgx.below hb
  replace hgy := hgy.below hb
  replace hg := hg.below hb
  replace hix := hix.below hb
  replace hiy := hiy.below hb
  replace hi := hi.below hb
  replace hjx := hjx.below hb
  replace hjy := hjy.below hb
  replace hj := hj.below hb
  replace hkx := hkx.below hb
  replace hky := hky.below hb
  replace hk := hk.below hb
  replace hnx := hnx.below hb
  replace hny := hny.below hb
  replace hn := hn.below hb
  replace hox := hox.below hb
  replace hoy := hoy.below hb
  replace ho := ho.below hb
  replace hpx := hpx.below hb
  replace hpy := hpy.below hb
  replace hp := hp.below hb
  replace hrx := hrx.below hb
  replace hry := hry.below hb
  replace hr := hr.below hb
  replace hsx := hsx.below hb
  replace hsy := hsy.below hb
  replace hs := hs.below hb
  replace htx := htx.below hb
  replace hty := hty.below hb
  replace ht := ht.below hb
  replace hux := hux.below hb
  replace huy := huy.below hb
  replace hu := hu.below hb
  replace hbf := hbf.trans (hb.mono hbf.size)
  clear hb
  first | refine hK.out _ _ ⟨hba, hbv, hbx, hby⟩ (fun _ => ?_) | (go_wp2_with fail; refine hK.out _ _ ⟨hba, hbv, hbx, hby⟩ (fun _ => ?_))
  clear hK K
  (try simp only [Act.put, List.setIfInBounds_toArray, List.set_cons_zero, List.set_cons_succ])
  repeat (first | (refine seq_take (v := ?_) (by rfl) ?_ ?_; rotate_left; (· intro w hSw; (try dsimp only at hSw); obtain ⟨⟨ea0, ea1, ea2, _, _, _⟩, ⟨ev0, ev1, ev2, _, _, _⟩, ⟨ex0, ex1, ex2, _, _, _⟩, ⟨ey0, ey1, ey2, _, _, _⟩⟩ := hSw; go_simp; all_goals with_reducible rfl); (try simp only [Act.put, List.setIfInBounds_toArray, List.set_cons_zero, List.set_cons_succ])) | (refine seq_leave (by rfl) ?_; (try simp only [Act.put, List.setIfInBounds_toArray, List.set_cons_zero, List.set_cons_succ])))
  refine seq_step (by rfl) (fun K hK => ?_)
  go_simp
  go_at_call 22
  (with_reducible refine (num_any _ a _ ha).mono ?_)
  rintro e w44 ⟨r9, rfl, hc, hb⟩
  obtain ⟨cO, cL, cC, rfl⟩ := hc.form
  replace hba := hba.kept hb
  replace hbv := hbv.kept hb
  replace hbx := hbx.kept hb
  replace hby := hby.kept hb
  replace hbq := hbq.kept hb
  replace hax := hax.below hb
  replace hay := hay.below hb
  replace ha := ha.below hb
  replace hvx := hvx.below hb
  replace hvy := hvy.below hb
  replace hv := hv.below hb
  replace hxx := hxx.below hb
  replace hxy := hxy.below hb
  replace hx := hx.below hb
  replace hyx := hyx.below hb
  replace hyy := hyy.below hb
  replace hy := hy.below hb
  replace hqx := hqx.below hb
  replace hqy := hqy.below hb
  replace hq := hq.below hb
  replace hzx := hzx.below hb
  replace hzy := hzy.below hb
  replace hz := hz.below hb
  replace hdx := hdx.below hb
  replace hdy := hdy.below hb
  replace hd := hd.below hb
  replace hex := hex.below hb
  replace hey := hey.below hb
  replace he := he.below hb
  replace hgx := hgx.below hb
  replace hgy := hgy.below hb
  replace hg := hg.below hb
  replace hix := hix.below hb
  replace hiy := hiy.below hb
  replace hi := hi.below hb
  replace hjx := hjx.below hb
  replace hjy := hjy.below hb
  replace hj := hj.below hb
  replace hkx := hkx.below hb
  replace hky := hky.below hb
  replace hk := hk.below hb
  replace hnx := hnx.below hb
  replace hny := hny.below hb
  replace hn := hn.below hb
  replace hox := hox.below hb
  replace hoy := hoy.below hb
  replace ho := ho.below hb
  replace hpx := hpx.below hb
  replace hpy := hpy.below hb
  replace hp := hp.below hb
  replace hrx := hrx.below hb
  replace hry := hry.below hb
  replace hr := hr.below hb
  replace hsx := hsx.below hb
  replace hsy := hsy.below hb
  replace hs := hs.below hb
  replace htx := htx.below hb
  replace hty := hty.below hb
  replace ht := ht.below hb
  replace hux := hux.below hb
  replace huy := huy.below hb
  replace hu := hu.below hb
  replace hbf := hbf.trans (hb.mono hbf.size)
  clear hb
  first | refine hK.out _ _ ⟨hba, hbv, hbx, hby⟩ (fun _ => ?_) | (go_wp2_with fail; refine hK.out _ _ ⟨hba, hbv, hbx, hby⟩ (fun _ => ?_))
  clear hK K
  (try simp only [Act.put, List.setIfInBounds_toArray, List.set_cons_zero, List.set_cons_succ])
  refine seq_step (by rfl) (fun K hK => ?_)
  go_simp
  go_at_call 19
  (with_reducible refine (text_s _ a.num.natAbs N1 _ hc g3 HN1).mono ?_)
  rintro e w45 ⟨rfl, hb⟩
  replace hba := hba.kept hb
  replace hbv := hbv.kept hb
  replace hbx := hbx.kept hb
  replace hby := hby.kept hb
  replace hbq := hbq.kept hb
  replace hax := hax.below hb
  replace hay := hay.below hb
  replace ha := ha.below hb
  replace hvx := hvx.below hb
  replace hvy := hvy.below hb
  replace hv := hv.below hb
  replace hxx := hxx.below hb
  replace hxy := hxy.below hb
  replace hx := hx.below hb
  replace hyx := hyx.below hb
  replace hyy := hyy.below hb
  replace hy := hy.below hb
  replace hqx := hqx.below hb
  replace hqy := hqy.below hb
  replace hq := hq.below hb
  replace hzx := hzx.below hb
  replace hzy := hzy.below hb
  replace hz := hz.below hb
  replace hdx := hdx.below hb
  replace hdy := hdy.below hb
  replace hd := hd.below hb
  replace hex := hex.below hb
  replace hey := hey.below hb
  replace he := he.below hb
  replace hgx := hgx.below hb
  replace hgy := hgy.below hb
  replace hg := hg.below hb
  replace hix := hix.below hb
  replace hiy := hiy.below hb
  replace hi := hi.below hb
  replace hjx := hjx.below hb
  replace hjy := hjy.below hb
  replace hj := hj.below hb
  replace hkx := hkx.below hb
  replace hky := hky.below hb
  replace hk := hk.below hb
  replace hnx := hnx.below hb
  replace hny := hny.below hb
  replace hn := hn.below hb
  replace hox := hox.below hb
  replace hoy := hoy.below hb
  replace ho := ho.below hb
  replace hpx := hpx.below hb
  replace hpy := hpy.below hb
  replace hp := hp.below hb
  replace hrx := hrx.below hb
  replace hry := hry.below hb
  replace hr := hr.below hb
  replace hsx := hsx.below hb
  replace hsy := hsy.below hb
  replace hs := hs.below hb
  replace htx := htx.below hb
  replace hty := hty.below hb
  replace ht := ht.below hb
  replace hux := hux.below hb
  replace huy := huy.below hb
  replace hu := hu.below hb
  replace hc := hc.below hb
  replace hbf := hbf.trans (hb.mono hbf.size)
  clear hb
  first | refine hK.out _ _ ⟨hba, hbv, hbx, hby⟩ (fun _ => ?_) | (go_wp2_with fail; refine hK.out _ _ ⟨hba, hbv, hbx, hby⟩ (fun _ => ?_))
  clear hK K
  (try simp only [Act.put, List.setIfInBounds_toArray, List.set_cons_zero, List.set_cons_succ])
  refine seq_step (by rfl) (fun K hK => ?_)
  go_simp
  go_at_call 43
  (with_reducible refine (rtext_s _ a.num.natAbs N1 _ hxx g1 HN1).mono ?_)
  rintro e w46 ⟨rfl, hb⟩
  replace hba := hba.kept hb
  replace hbv := hbv.kept hb
  replace hbx := hbx.kept hb
  replace hby := hby.kept hb
  replace hbq := hbq.kept hb
  replace hax := hax.below hb
  replace hay := hay.below hb
  replace ha := ha.below hb
  replace hvx := hvx.below hb
  replace hvy := hvy.below hb
  replace hv := hv.below hb
  replace hxx := hxx.below hb
  replace hxy := hxy.below hb
  replace hx := hx.below hb
  replace hyx := hyx.below hb
  replace hyy := hyy.below hb
  replace hy := hy.below hb
  replace hqx := hqx.below hb
  replace hqy := hqy.below hb
  replace hq := hq.below hb
  replace hzx := hzx.below hb
  replace hzy := hzy.below hb
  replace hz := hz.below hb
  replace hdx := hdx.below hb
  replace hdy := hdy.below hb
  replace hd := hd.below hb
  replace hex := hex.below hb
  replace hey := hey.below hb
  replace he := he.below hb
  replace hgx := hgx.below hb
  replace hgy := hgy.below hb
  replace hg := hg.below hb
  replace hix := hix.below hb
  replace hiy := hiy.below hb
  replace hi := hi.below hb
  replace hjx := hjx.below hb
  replace hjy := hjy.below hb
  replace hj := hj.below hb
  replace hkx := hkx.below hb
  replace hky := hky.below hb
  replace hk := hk.below hb
  replace hnx := hnx.below hb
  replace hny := hny.below hb
  replace hn := hn.below hb
  replace hox := hox.below hb
  replace hoy := hoy.below hb
  replace ho := ho.below hb
  replace hpx := hpx.below hb
  replace hpy := hpy.below hb
  replace hp := hp.below hb
  replace hrx := hrx.below hb
  replace hry := hry.below hb
  replace hr := hr.below hb
  replace hsx := hsx.below hb
  replace hsy := hsy.below hb
  replace hs := hs.below hb
  replace htx := htx.below hb
  replace hty := hty.below hb
  replace ht := ht.below hb
  replace hux := hux.below hb
  replace huy := huy.below hb
  replace hu := hu.below hb
  replace hc := hc.below hb
  replace hbf := hbf.trans (hb.mono hbf.size)
  clear hb
  first | refine hK.out _ _ ⟨hba, hbv, hbx, hby⟩ (fun _ => ?_) | (go_wp2_with fail; refine hK.out _ _ ⟨hba, hbv, hbx, hby⟩ (fun _ => ?_))
  clear hK K
  (try simp only [Act.put, List.setIfInBounds_toArray, List.set_cons_zero, List.set_cons_succ])
  repeat (first | (refine seq_take (v := ?_) (by rfl) ?_ ?_; rotate_left; (· intro w hSw; (try dsimp only at hSw); obtain ⟨⟨ea0, ea1, ea2, _, _, _⟩, ⟨ev0, ev1, ev2, _, _, _⟩, ⟨ex0, ex1, ex2, _, _, _⟩, ⟨ey0, ey1, ey2, _, _, _⟩⟩ := hSw; go_simp; all_goals with_reducible rfl); (try simp only [Act.put, List.setIfInBounds_toArray, List.set_cons_zero, List.set_cons_succ])) | (refine seq_leave (by rfl) ?_; (try simp only [Act.put, List.setIfInBounds_toArray, List.set_cons_zero, List.set_cons_succ])))
  refine seq_step (by rfl) (fun K hK => ?_)
  go_simp
  go_at_call 23
  (with_reducible refine (den_any _ a _ ha).mono ?_)
  rintro e w47 ⟨r9, rfl, hw, hb⟩
  obtain ⟨wO, wL, wC, rfl⟩ := hw.form
  replace hba := hba.kept hb
  replace hbv := hbv.kept hb
  replace hbx := hbx.kept hb
  replace hby := hby.kept hb
  replace hbq := hbq.kept hb
  replace hax := hax.below hb
  replace hay := hay.below hb
  replace ha := ha.below hb
  replace hvx := hvx.below hb
  replace hvy := hvy.below hb
  replace hv := hv.below hb
  replace hxx := hxx.below hb
  replace hxy := hxy.below hb
  replace hx := hx.below hb
  replace hyx := hyx.below hb
  replace hyy := hyy.below hb
  replace hy := hy.below hb
  replace hqx := hqx.below hb
  replace hqy := hqy.below hb
  replace hq := hq.below hb
  replace hzx := hzx.below hb
  replace hzy := hzy.below hb
  replace hz := hz.below hb
  replace hdx := hdx.below hb
  replace hdy := hdy.below hb
  replace hd := hd.below hb
  replace hex := hex.below hb
  replace hey := hey.below hb
  replace he := he.below hb
  replace hgx := hgx.below hb
  replace hgy := hgy.below hb
  replace hg := hg.below hb
  replace hix := hix.below hb
  replace hiy := hiy.below hb
  replace hi := hi.below hb
  replace hjx := hjx.below hb
  replace hjy := hjy.below hb
  replace hj := hj.below hb
  replace hkx := hkx.below hb
  replace hky := hky.below hb
  replace hk := hk.below hb
  replace hnx := hnx.below hb
  replace hny := hny.below hb
  replace hn := hn.below hb
  replace hox := hox.below hb
  replace hoy := hoy.below hb
  replace ho := ho.below hb
  replace hpx := hpx.below hb
  replace hpy := hpy.below hb
  replace hp := hp.below hb
  replace hrx := hrx.below hb
  replace hry := hry.below hb
  replace hr := hr.below hb
  replace hsx := hsx.below hb
  replace hsy := hsy.below hb
  replace hs := hs.below hb
  replace htx := htx.below hb
  replace hty := hty.below hb
  replace ht := ht.below hb
  replace hux := hux.below hb
  replace huy := huy.below hb
  replace hu := hu.below hb
  replace hc := hc.below hb
  replace hbf := hbf.trans (hb.mono hbf.size)
  clear hb
  first | refine hK.out _ _ ⟨hba, hbv, hbx, hby⟩ (fun _ => ?_) | (go_wp2_with fail; refine hK.out _ _ ⟨hba, hbv, hbx, hby⟩ (fun _ => ?_))
  clear hK K
  (try simp only [Act.put, List.setIfInBounds_toArray, List.set_cons_zero, List.set_cons_succ])
  refine seq_step (by rfl) (fun K hK => ?_)
  go_simp
  go_at_call 19
  (with_reducible refine (text_s _ a.den D1 _ hw g4 HD1).mono ?_)
  rintro e w48 ⟨rfl, hb⟩
  replace hba := hba.kept hb
  replace hbv := hbv.kept hb
  replace hbx := hbx.kept hb
  replace hby := hby.kept hb
  replace hbq := hbq.kept hb
  replace hax := hax.below hb
  replace hay := hay.below hb
  replace ha := ha.below hb
  replace hvx := hvx.below hb
  replace hvy := hvy.below hb
  replace hv := hv.below hb
  replace hxx := hxx.below hb
  replace hxy := hxy.below hb
  replace hx := hx.below hb
  replace hyx := hyx.below hb
  replace hyy := hyy.below hb
  replace hy := hy.below hb
  replace hqx := hqx.below hb
  replace hqy := hqy.below hb
  replace hq := hq.below hb
  replace hzx := hzx.below hb
  replace hzy := hzy.below hb
  replace hz := hz.below hb
  replace hdx := hdx.below hb
  replace hdy := hdy.below hb
  replace hd := hd.below hb
  replace hex := hex.below hb
  replace hey := hey.below hb
  replace he := he.below hb
  replace hgx := hgx.below hb
  replace hgy := hgy.below hb
  replace hg := hg.below hb
  replace hix := hix.below hb
  replace hiy := hiy.below hb
  replace hi := hi.below hb
  replace hjx := hjx.below hb
  replace hjy := hjy.below hb
  replace hj := hj.below hb
  replace hkx := hkx.below hb
  replace hky := hky.below hb
  replace hk := hk.below hb
  replace hnx := hnx.below hb
  replace hny := hny.below hb
  replace hn := hn.below hb
  replace hox := hox.below hb
  replace hoy := hoy.below hb
  replace ho := ho.below hb
  replace hpx := hpx.below hb
  replace hpy := hpy.below hb
  replace hp := hp.below hb
  replace hrx := hrx.below hb
  replace hry := hry.below hb
  replace hr := hr.below hb
  replace hsx := hsx.below hb
  replace hsy := hsy.below hb
  replace hs := hs.below hb
  replace htx := htx.below hb
  replace hty := hty.below hb
  replace ht := ht.below hb
  replace hux := hux.below hb
  replace huy := huy.below hb
  replace hu := hu.below hb
  replace hc := hc.below hb
  replace hw := hw.below hb
  replace hbf := hbf.trans (hb.mono hbf.size)
  clear hb
  first | refine hK.out _ _ ⟨hba, hbv, hbx, hby⟩ (fun _ => ?_) | (go_wp2_with fail; refine hK.out _ _ ⟨hba, hbv, hbx, hby⟩ (fun _ => ?_))
  clear hK K
  (try simp only [Act.put, List.setIfInBounds_toArray, List.set_cons_zero, List.set_cons_succ])
  refine seq_step (by rfl) (fun K hK => ?_)
  go_simp
  go_at_call 43
  (with_reducible refine (rtext_s _ a.den D1 _ hxy g2 HD1).mono ?_)
  rintro e w49 ⟨rfl, hb⟩
  replace hba := hba.kept hb
  replace hbv := hbv.kept hb
  replace hbx := hbx.kept hb
  replace hby := hby.kept hb
  replace hbq := hbq.kept hb
  replace hax := hax.below hb
  replace hay := hay.below hb
  replace ha := ha.below hb
  replace hvx := hvx.below hb
  replace hvy := hvy.below hb
  replace hv := hv.below hb
  replace hxx := hxx.below hb
  replace hxy := hxy.below hb
  replace hx := hx.below hb
  replace hyx := hyx.below hb
  replace hyy := hyy.below hb
  replace hy := hy.below hb
  replace hqx := hqx.below hb
  replace hqy := hqy.below hb
  replace hq := hq.below hb
  replace hzx := hzx.below hb
  replace hzy := hzy.below hb
  replace hz := hz.below hb
  replace hdx := hdx.below hb
  replace hdy := hdy.below hb
  replace hd := hd.below hb
  replace hex := hex.below hb
  replace hey := hey.below hb
  replace he := he.below hb
  replace hgx := hgx.below hb
  replace hgy := hgy.below hb
  replace hg := hg.below hb
  replace hix := hix.below hb
  replace hiy := hiy.below hb
  replace hi := hi.below hb
  replace hjx := hjx.below hb
  replace hjy := hjy.below hb
  replace hj := hj.below hb
  replace hkx := hkx.below hb
  replace hky := hky.below hb
  replace hk := hk.below hb
  replace hnx := hnx.below hb
  replace hny := hny.below hb
  replace hn := hn.below hb
  replace hox := hox.below hb
  replace hoy := hoy.below hb
  replace ho := ho.below hb
  replace hpx := hpx.below hb
  replace hpy := hpy.below hb
  replace hp := hp.below hb
  replace hrx := hrx.below hb
  replace hry := hry.below hb
  replace hr := hr.below hb
  replace hsx := hsx.below hb
  replace hsy := hsy.below hb
  replace hs := hs.below hb
  replace htx := htx.below hb
  replace hty := hty.below hb
  replace ht := ht.below hb
  replace hux := hux.below hb
  replace huy := huy.below hb
  replace hu := hu.below hb
  replace hc := hc.below hb
  replace hw := hw.below hb
  replace hbf := hbf.trans (hb.mono hbf.size)
  clear hb
  first | refine hK.out _ _ ⟨hba, hbv, hbx, hby⟩ (fun _ => ?_) | (go_wp2_with fail; refine hK.out _ _ ⟨hba, hbv, hbx, hby⟩ (fun _ => ?_))
  clear hK K
  (try simp only [Act.put, List.setIfInBounds_toArray, List.set_cons_zero, List.set_cons_succ])
  repeat (first | (refine seq_take (v := ?_) (by rfl) ?_ ?_; rotate_left; (· intro w hSw; (try dsimp only at hSw); obtain ⟨⟨ea0, ea1, ea2, _, _, _⟩, ⟨ev0, ev1, ev2, _, _, _⟩, ⟨ex0, ex1, ex2, _, _, _⟩, ⟨ey0, ey1, ey2, _, _, _⟩⟩ := hSw; go_simp; all_goals with_reducible rfl); (try simp only [Act.put, List.setIfInBounds_toArray, List.set_cons_zero, List.set_cons_succ])) | (refine seq_leave (by rfl) ?_; (try simp only [Act.put, List.setIfInBounds_toArray, List.set_cons_zero, List.set_cons_succ])))
  refine seq_step (by rfl) (fun K hK => ?_)
  go_simp
  go_at_call 49
  (with_reducible refine (big_no _ a _ ha hqa5 hd1 hd2).mono ?_)
  rintro e w50 ⟨rfl, hb⟩
  replace hba := hba.kept hb
  replace hbv := hbv.kept hb
  replace hbx := hbx.kept hb
  replace hby := hby.kept hb
  replace hbq := hbq.kept hb
  replace hax := hax.below hb
  replace hay := hay.below hb
  replace ha := ha.below hb
  replace hvx := hvx.below hb
  replace hvy := hvy.below hb
  replace hv := hv.below hb
  replace hxx := hxx.below hb
  replace hxy := hxy.below hb
  replace hx := hx.below hb
  replace hyx := hyx.below hb
  replace hyy := hyy.below hb
  replace hy := hy.below hb
  replace hqx := hqx.below hb
  replace hqy := hqy.below hb
  replace hq := hq.below hb
  replace hzx := hzx.below hb
  replace hzy := hzy.below hb
  replace hz := hz.below hb
  replace hdx := hdx.below hb
  replace hdy := hdy.below hb
  replace hd := hd.below hb
  replace hex := hex.below hb
  replace hey := hey.below hb
  replace he := he.below hb
  replace hgx := hgx.below hb
  replace hgy := hgy.below hb
  replace hg := hg.below hb
  replace hix := hix.below hb
  replace hiy := hiy.below hb
  replace hi := hi.below hb
  replace hjx := hjx.below hb
  replace hjy := hjy.below hb
  replace hj := hj.below hb
  replace hkx := hkx.below hb
  replace hky := hky.below hb
  replace hk := hk.below hb
  replace hnx := hnx.below hb
  replace hny := hny.below hb
  replace hn := hn.below hb
  replace hox := hox.below hb
  replace hoy := hoy.below hb
  replace ho := ho.below hb
  replace hpx := hpx.below hb
  replace hpy := hpy.below hb
  replace hp := hp.below hb
  replace hrx := hrx.below hb
  replace hry := hry.below hb
  replace hr := hr.below hb
  replace hsx := hsx.below hb
  replace hsy := hsy.below hb
  replace hs := hs.below hb
  replace htx := htx.below hb
  replace hty := hty.below hb
  replace ht := ht.below hb
  replace hux := hux.below hb
  replace huy := huy.below hb
  replace hu := hu.below hb
  replace hc := hc.below hb
  replace hw := hw.below hb
  replace hbf := hbf.trans (hb.mono hbf.size)
  clear hb
  first | refine hK.out _ _ ⟨hba, hbv, hbx, hby⟩ (fun _ => ?_) | (go_wp2_with fail; refine hK.out _ _ ⟨hba, hbv, hbx, hby⟩ (fun _ => ?_))
  clear hK K
  (try simp only [Act.put, List.setIfInBounds_toArray, List.set_cons_zero, List.set_cons_succ])
  repeat (first | (refine seq_take (v := ?_) (by rfl) ?_ ?_; rotate_left; (· intro w hSw; (try dsimp only at hSw); obtain ⟨⟨ea0, ea1, ea2, _, _, _⟩, ⟨ev0, ev1, ev2, _, _, _⟩, ⟨ex0, ex1, ex2, _, _, _⟩, ⟨ey0, ey1, ey2, _, _, _⟩⟩ := hSw; go_simp; all_goals with_reducible rfl); (try simp only [Act.put, List.setIfInBounds_toArray, List.set_cons_zero, List.set_cons_succ])) | (refine seq_leave (by rfl) ?_; (try simp only [Act.put, List.setIfInBounds_toArray, List.set_cons_zero, List.set_cons_succ])))
  refine seq_end ?_
  go_wp2_with fail
  go_ret
  exact ⟨rfl, hbf⟩

theorem ratTells_walk (a0 a1 : ByteArray) (w0 : a0.size ≤ maxLen) (w1 : a1.size ≤ maxLen) (w : World) :
    Calls Tryd.prog 8 #[.string a0, .string a1] w fun e w' => e = .returned (.bool true) ∧ Below w.heap.size w w' := by
  obtain ⟨l, rfl, _⟩ := bytes_of a0
  obtain ⟨m, rfl, _⟩ := bytes_of a1
  by_cases h : l.length ≤ 120 ∧ m.length ≤ 120
  · by_cases hb : qval m = 0
    · exact ratTells_zero l m w h.1 h.2 hb
    · exact ratTells_div l m w h.1 h.2 hb
  · exact ratTells_early l m w (by omega)

end Go.Proofs.YtacflncmbnildaaDoor
