/-
  RatRounds: the walk.
-/
import Derived.Test.YtacflncmbnildaaDoorLawS
import Derived.Test.YtacflncmbnildaaDoorMathT
namespace Go.Proofs.YtacflncmbnildaaDoor
open Go.RowKit
set_option linter.unusedVariables false
set_option linter.unusedSimpArgs false
attribute [local go_sem] field_nat

theorem same_eq (va vc : Value) (p q : Rat) (i j : Nat) (w : World) (ha : QIs w va p) (hc : QIs w vc q) (hla : QB p i) (hlc : QB q j) (hij : i + j ≤ 90000) (hpq : Hid (p = q)) :
    Calls Tryd.prog 20 #[va, vc] w fun e w' => e = .returned (.bool true) ∧ Below w.heap.size w w' := by
  have := same_q va vc p q i j w ha hc hla hlc hij
  rwa [decide_eq_true hpq.out] at this
theorem same_b (va vc : Value) (p q : Rat) (b : Bool) (i j : Nat) (w : World) (ha : QIs w va p) (hc : QIs w vc q) (hla : QB p i) (hlc : QB q j) (hij : i + j ≤ 90000) (hb : Hid (decide (p = q) = b)) :
    Calls Tryd.prog 20 #[va, vc] w fun e w' => e = .returned (.bool b) ∧ Below w.heap.size w w' := by
  have := same_q va vc p q i j w ha hc hla hlc hij
  rwa [hb.out] at this
theorem cmp_c (va vc : Value) (a c : Rat) (k : Int) (i j : Nat) (w : World) (ha : QIs w va a) (hc : QIs w vc c) (hla : QB a i) (hlc : QB c j) (hij : i + j ≤ 90000) (hk : Hid (qcmp a c = k)) :
    Calls Tryd.prog 28 #[va, vc] w fun e w' => e = .returned (.int .i64 k) ∧ Below w.heap.size w w' := by
  have := qcmp_any va vc a c i j w ha hc hla hlc hij
  rwa [hk.out] at this
theorem neg_b (va : Value) (a : Rat) (b : Bool) (w : World) (ha : QIs w va a) (hb : Hid (decide (a < 0) = b)) :
    Calls Tryd.prog 26 #[va] w fun e w' => e = .returned (.bool b) ∧ Below w.heap.size w w' := by
  have := neg_any va a w ha
  rwa [hb.out] at this
theorem whole_yes (va : Value) (a : Rat) (w : World) (ha : QIs w va a) (hb : Hid (a.den = 1)) :
    Calls Tryd.prog 27 #[va] w fun e w' => e = .returned (.bool true) ∧ Below w.heap.size w w' := by
  have := whole_any va a w ha
  rwa [decide_eq_true hb.out] at this
theorem qcode_cases (l : List UInt8) : qcode l = 0 ∨ qcode l = 2 ∨ qcode l = 3 := by
  unfold qcode
  repeat' split
  all_goals simp
theorem qneg_zero_sub (a : Rat) : 0 - a = -a := by grind

set_option maxRecDepth 100000 in
set_option maxHeartbeats 1000000 in
theorem ratRounds_early (l : List UInt8) (w : World) (h : 150 < l.length) :
    Calls Tryd.prog 5 #[.string ⟨l.toArray⟩] w fun e w' => e = .returned (.bool true) ∧ Below w.heap.size w w' := by
  have h1 : (150 : Int) < ((l.length : Nat) : Int) := by omega
  go_enter Tryd.func5, Tryd.ntmps5
  go_wp2_with (go_at_call 11; refine (alive2_any _).mono ?_; rintro e w' ⟨rfl, hb⟩)
  go_ret
  exact ⟨rfl, hb⟩

set_option maxRecDepth 100000 in
set_option maxHeartbeats 1000000 in
/-- RatRounds. -/
theorem ratRounds_main (l : List UInt8) (w : World) (hl : l.length ≤ 150) :
    Calls Tryd.prog 5 #[.string ⟨l.toArray⟩] w fun e w' => e = .returned (.bool true) ∧ Below w.heap.size w w' := by
  have h1 : ¬ (150 : Int) < ((l.length : Nat) : Int) := by omega
  have hqa := QB.val (l := l) (K := 200) (by omega)
  obtain ⟨a, hae⟩ : ∃ a, a = qval l := ⟨_, rfl⟩
  obtain ⟨c9, hce⟩ : ∃ c, c = qcode l := ⟨_, rfl⟩
  have hcc := qcode_cases l
  rw [← hce] at hcc
  rw [← hae] at hqa
  have HA := Lib.hid hae
  have HC := Lib.hid hce
  have HCC := Lib.hid hcc
  clear hae hce hcc
  go_enter Tryd.func5, Tryd.ntmps5
  go_wp2_with fail
  refine (alive2_any _).mono ?_
  rintro e w1 ⟨rfl, hb⟩
  have hbf := hb
  clear hb
  go_wp2_with fail
  refine (qparse_main l _ a c9 HA HC (by omega)).mono ?_
  rintro e w2 hq9
  obtain ⟨aB, axO, axL, axC, ayO, ayL, ayC, rfl, hS, hax, hay, ha, hb⟩ := hq9.out
  have HaS := Lib.hid hS; clear hS
  replace hbf := hbf.trans (hb.mono hbf.size)
  clear hb
  obtain ⟨w3, hwE⟩ : ∃ W, W = (w2.alloc (.cells #[.bool aB, .slice axO axL axC, .slice ayO ayL ayC] 27)) := ⟨_, rfl⟩
  have hb : Below w2.heap.size w2 w3 := by rw [hwE]; exact ((Below.refl _ w2).alloc (Nat.le_refl _) _)
  obtain ⟨pa, hpa⟩ : ∃ p, p = w2.heap.size := ⟨_, rfl⟩
  have hba : Box3 w3 pa (Value.bool aB) (Value.slice axO axL axC) (Value.slice ayO ayL ayC) := by rw [hwE, hpa]; exact ⟨by go_simp, by go_simp, by go_simp, by go_simp, by go_simp, by go_simp⟩
  have HP : Hid (w.heap.size ≤ pa) := Lib.hid (by have h9 := hbf.size; omega)
  have HW := Lib.hid hwE; clear hwE
  go_upto_region 4 with fail
  rw [← HW.out, ← hpa]
  clear hpa HW
  replace hax := hax.below hb
  replace hay := hay.below hb
  replace ha := ha.below hb
  replace hbf := hbf.trans (hb.mono hbf.size)
  clear hb
  by_cases hc0 : c9 = 0
  rotate_left
  · rcases HCC.out with rfl | rfl | rfl
    · exact (hc0 rfl).elim
    all_goals
      go_wp2_with fail
      go_ret
      exact ⟨rfl, hbf⟩
  subst hc0
  go_wp2_with fail
  refine (of_one _).mono ?_
  rintro e w4 ⟨r9, rfl, ho, hb⟩
  replace hba := hba.kept hb
  replace hax := hax.below hb
  replace hay := hay.below hb
  replace ha := ha.below hb
  replace hbf := hbf.trans (hb.mono hbf.size)
  clear hb
  obtain ⟨oO, oL, oC, rfl⟩ := ho.form
  go_wp2_with fail
  refine (of_two _).mono ?_
  rintro e w5 ⟨r9, rfl, ht, hb⟩
  replace hba := hba.kept hb
  replace hax := hax.below hb
  replace hay := hay.below hb
  replace ha := ha.below hb
  replace ho := ho.below hb
  replace hbf := hbf.trans (hb.mono hbf.size)
  clear hb
  obtain ⟨tO, tL, tC, rfl⟩ := ht.form
  go_wp2_with fail
  refine (make_ok false _ _ 1 2 _ ho ht (lim1 (by decide)) (lim1 (by decide)) (by decide)).mono ?_
  rintro e w6 hq9
  obtain ⟨hB, hxO, hxL, hxC, hyO, hyL, hyC, rfl, hS, hhx, hhy, hh, hb⟩ := hq9.out
  have HhS := Lib.hid hS; clear hS
  replace hba := hba.kept hb
  replace hax := hax.below hb
  replace hay := hay.below hb
  replace ha := ha.below hb
  replace ho := ho.below hb
  replace ht := ht.below hb
  replace hbf := hbf.trans (hb.mono hbf.size)
  clear hb
  have hhe : qOf false 1 2 = half := rfl
  rw [hhe] at hh
  have hqh := QB.half 1 (by decide)
  obtain ⟨w7, hwE⟩ : ∃ W, W = (w6.alloc (.cells #[.bool hB, .slice hxO hxL hxC, .slice hyO hyL hyC] 27)) := ⟨_, rfl⟩
  have hb : Below w6.heap.size w6 w7 := by rw [hwE]; exact ((Below.refl _ w6).alloc (Nat.le_refl _) _)
  obtain ⟨ph, hph⟩ : ∃ p, p = w6.heap.size := ⟨_, rfl⟩
  have hbh : Box3 w7 ph (Value.bool hB) (Value.slice hxO hxL hxC) (Value.slice hyO hyL hyC) := by rw [hwE, hph]; exact ⟨by go_simp, by go_simp, by go_simp, by go_simp, by go_simp, by go_simp⟩
  replace HP : Hid (w.heap.size ≤ pa ∧ pa < ph) := Lib.hid (by have h1 := HP.out; have h9 := hbf.size; have h2a := hba.lt; omega)
  have HW := Lib.hid hwE; clear hwE
  go_upto_region 7 with fail
  rw [← HW.out, ← hph]
  clear hph HW
  replace hba := hba.kept hb
  replace hax := hax.below hb
  replace hay := hay.below hb
  replace ha := ha.below hb
  replace ho := ho.below hb
  replace ht := ht.below hb
  replace hhx := hhx.below hb
  replace hhy := hhy.below hb
  replace hh := hh.below hb
  replace hbf := hbf.trans (hb.mono hbf.size)
  clear hb
  have ea0 := hba.c0
  have ea1 := hba.c1
  have ea2 := hba.c2
  go_wp2_with fail
  refine (round_any _ a 200 _ ha hqa (by decide)).mono ?_
  rintro e w8 hq9
  obtain ⟨rB, rxO, rxL, rxC, ryO, ryL, ryC, rfl, hS, hrx, hry, hr, hb⟩ := hq9.out
  have HrS := Lib.hid hS; clear hS
  clear ea0 ea1 ea2
  replace hba := hba.kept hb
  replace hbh := hbh.kept hb
  replace hax := hax.below hb
  replace hay := hay.below hb
  replace ha := ha.below hb
  replace ho := ho.below hb
  replace ht := ht.below hb
  replace hhx := hhx.below hb
  replace hhy := hhy.below hb
  replace hh := hh.below hb
  replace hbf := hbf.trans (hb.mono hbf.size)
  clear hb
  have hqr : QB (qround a) 202 := hqa.round
  obtain ⟨w9, hwE⟩ : ∃ W, W = (w8.alloc (.cells #[.bool rB, .slice rxO rxL rxC, .slice ryO ryL ryC] 27)) := ⟨_, rfl⟩
  have hb : Below w8.heap.size w8 w9 := by rw [hwE]; exact ((Below.refl _ w8).alloc (Nat.le_refl _) _)
  obtain ⟨pr, hpr⟩ : ∃ p, p = w8.heap.size := ⟨_, rfl⟩
  have hbr : Box3 w9 pr (Value.bool rB) (Value.slice rxO rxL rxC) (Value.slice ryO ryL ryC) := by rw [hwE, hpr]; exact ⟨by go_simp, by go_simp, by go_simp, by go_simp, by go_simp, by go_simp⟩
  replace HP : Hid (w.heap.size ≤ pa ∧ pa < ph ∧ ph < pr) := Lib.hid (by have h1 := HP.out; have h9 := hbf.size; have h2h := hbh.lt; omega)
  have HW := Lib.hid hwE; clear hwE
  go_upto_region 8 with fail
  rw [← HW.out, ← hpr]
  clear hpr HW
  replace hba := hba.kept hb
  replace hbh := hbh.kept hb
  replace hax := hax.below hb
  replace hay := hay.below hb
  replace ha := ha.below hb
  replace ho := ho.below hb
  replace ht := ht.below hb
  replace hhx := hhx.below hb
  replace hhy := hhy.below hb
  replace hh := hh.below hb
  replace hrx := hrx.below hb
  replace hry := hry.below hb
  replace hr := hr.below hb
  replace hbf := hbf.trans (hb.mono hbf.size)
  clear hb
  have ea0 := hba.c0
  have ea1 := hba.c1
  have ea2 := hba.c2
  have er0 := hbr.c0
  have er1 := hbr.c1
  have er2 := hbr.c2
  go_wp2_with fail
  refine (qsub_any _ _ (qround a) a 202 200 _ hr ha hqr hqa (by decide)).mono ?_
  rintro e w10 hq9
  obtain ⟨dB, dxO, dxL, dxC, dyO, dyL, dyC, rfl, hS, hdx, hdy, hd, hb⟩ := hq9.out
  have HdS := Lib.hid hS; clear hS
  clear ea0 ea1 ea2 er0 er1 er2
  replace hba := hba.kept hb
  replace hbh := hbh.kept hb
  replace hbr := hbr.kept hb
  replace hax := hax.below hb
  replace hay := hay.below hb
  replace ha := ha.below hb
  replace ho := ho.below hb
  replace ht := ht.below hb
  replace hhx := hhx.below hb
  replace hhy := hhy.below hb
  replace hh := hh.below hb
  replace hrx := hrx.below hb
  replace hry := hry.below hb
  replace hr := hr.below hb
  replace hbf := hbf.trans (hb.mono hbf.size)
  clear hb
  have hqd : QB (qround a - a) 403 := hqr.sub hqa
  obtain ⟨w11, hwE⟩ : ∃ W, W = (w10.alloc (.cells #[.bool dB, .slice dxO dxL dxC, .slice dyO dyL dyC] 27)) := ⟨_, rfl⟩
  have hb : Below w10.heap.size w10 w11 := by rw [hwE]; exact ((Below.refl _ w10).alloc (Nat.le_refl _) _)
  obtain ⟨pd, hpd⟩ : ∃ p, p = w10.heap.size := ⟨_, rfl⟩
  have hbd : Box3 w11 pd (Value.bool dB) (Value.slice dxO dxL dxC) (Value.slice dyO dyL dyC) := by rw [hwE, hpd]; exact ⟨by go_simp, by go_simp, by go_simp, by go_simp, by go_simp, by go_simp⟩
  replace HP : Hid (w.heap.size ≤ pa ∧ pa < ph ∧ ph < pr ∧ pr < pd) := Lib.hid (by have h1 := HP.out; have h9 := hbf.size; have h2r := hbr.lt; omega)
  have HW := Lib.hid hwE; clear hwE
  go_upto_region 9 with fail
  rw [← HW.out, ← hpd]
  clear hpd HW
  replace hba := hba.kept hb
  replace hbh := hbh.kept hb
  replace hbr := hbr.kept hb
  replace hax := hax.below hb
  replace hay := hay.below hb
  replace ha := ha.below hb
  replace ho := ho.below hb
  replace ht := ht.below hb
  replace hhx := hhx.below hb
  replace hhy := hhy.below hb
  replace hh := hh.below hb
  replace hrx := hrx.below hb
  replace hry := hry.below hb
  replace hr := hr.below hb
  replace hdx := hdx.below hb
  replace hdy := hdy.below hb
  replace hd := hd.below hb
  replace hbf := hbf.trans (hb.mono hbf.size)
  clear hb
  have hdl := dist_le a
  have hdh := @dist_half a
  have hq0 := QB.zero 1 (by decide)
  have hqm : QB (0 - a) 202 := hq0.sub hqa
  by_cases hn : qround a - a < 0
  case pos =>
    have hde : dist a = 0 - (qround a - a) := by unfold dist; rw [if_pos hn]
    have HDE := Lib.hid hde
    have HDH := Lib.hid hdh
    have HDL : Hid (0 - (qround a - a) ≤ half) := Lib.hid (by rw [← hde]; exact hdl)
    have HN : Hid (decide (qround a - a < 0) = true) := Lib.hid (decide_eq_true hn)
    clear hde hdh hdl hn
    have ed0 := hbd.c0
    have ed1 := hbd.c1
    have ed2 := hbd.c2
    go_wp2_with fail
    refine (neg_b _ _ true _ hd HN).mono ?_
    rintro e w12 ⟨rfl, hb⟩
    clear ed0 ed1 ed2
    replace hba := hba.kept hb
    replace hbh := hbh.kept hb
    replace hbr := hbr.kept hb
    replace hbd := hbd.kept hb
    replace hax := hax.below hb
    replace hay := hay.below hb
    replace ha := ha.below hb
    replace ho := ho.below hb
    replace ht := ht.below hb
    replace hhx := hhx.below hb
    replace hhy := hhy.below hb
    replace hh := hh.below hb
    replace hrx := hrx.below hb
    replace hry := hry.below hb
    replace hr := hr.below hb
    replace hdx := hdx.below hb
    replace hdy := hdy.below hb
    replace hd := hd.below hb
    replace hbf := hbf.trans (hb.mono hbf.size)
    clear hb
    have ed0 := hbd.c0
    have ed1 := hbd.c1
    have ed2 := hbd.c2
    go_wp2_with fail
    refine (qsub_any _ _ 0 (qround a - a) 1 403 _ (QIs.zero _) hd hq0 hqd (by decide)).mono ?_
    rintro e w13 hq9
    obtain ⟨eB, exO, exL, exC, eyO, eyL, eyC, rfl, hS, hex, hey, he, hb⟩ := hq9.out
    have HeS := Lib.hid hS; clear hS
    clear ed0 ed1 ed2
    replace hba := hba.kept hb
    replace hbh := hbh.kept hb
    replace hbr := hbr.kept hb
    replace hbd := hbd.kept hb
    replace hax := hax.below hb
    replace hay := hay.below hb
    replace ha := ha.below hb
    replace ho := ho.below hb
    replace ht := ht.below hb
    replace hhx := hhx.below hb
    replace hhy := hhy.below hb
    replace hh := hh.below hb
    replace hrx := hrx.below hb
    replace hry := hry.below hb
    replace hr := hr.below hb
    replace hdx := hdx.below hb
    replace hdy := hdy.below hb
    replace hd := hd.below hb
    replace hbf := hbf.trans (hb.mono hbf.size)
    clear hb
    have hqD : QB (0 - (qround a - a)) 500 := (hq0.sub hqd).mono (by decide)
    have ed0 := hbd.c0
    have fd0 := hbd.f0
    have ed1 := hbd.c1
    have fd1 := hbd.f1
    have ed2 := hbd.c2
    have fd2 := hbd.f2
    go_upto_region 11 with fail
    clear ed0 fd0 ed1 fd1 ed2 fd2
    obtain ⟨w14, hwE⟩ : ∃ W, W = ((w13.setCell ⟨pd, 0, none⟩ (Value.bool eB)).setCell ⟨pd, 1, none⟩ (Value.slice exO exL exC)).setCell ⟨pd, 2, none⟩ (Value.slice eyO eyL eyC) := ⟨_, rfl⟩
    rw [← hwE]
    replace hax := hax.set3 (u0 := (Value.bool eB)) (u1 := (Value.slice exO exL exC)) (u2 := (Value.slice eyO eyL eyC)) hbd; rw [← hwE] at hax
    replace hay := hay.set3 (u0 := (Value.bool eB)) (u1 := (Value.slice exO exL exC)) (u2 := (Value.slice eyO eyL eyC)) hbd; rw [← hwE] at hay
    replace ha := ha.set3 (u0 := (Value.bool eB)) (u1 := (Value.slice exO exL exC)) (u2 := (Value.slice eyO eyL eyC)) hbd; rw [← hwE] at ha
    replace ho := ho.set3 (u0 := (Value.bool eB)) (u1 := (Value.slice exO exL exC)) (u2 := (Value.slice eyO eyL eyC)) hbd; rw [← hwE] at ho
    replace ht := ht.set3 (u0 := (Value.bool eB)) (u1 := (Value.slice exO exL exC)) (u2 := (Value.slice eyO eyL eyC)) hbd; rw [← hwE] at ht
    replace hhx := hhx.set3 (u0 := (Value.bool eB)) (u1 := (Value.slice exO exL exC)) (u2 := (Value.slice eyO eyL eyC)) hbd; rw [← hwE] at hhx
    replace hhy := hhy.set3 (u0 := (Value.bool eB)) (u1 := (Value.slice exO exL exC)) (u2 := (Value.slice eyO eyL eyC)) hbd; rw [← hwE] at hhy
    replace hh := hh.set3 (u0 := (Value.bool eB)) (u1 := (Value.slice exO exL exC)) (u2 := (Value.slice eyO eyL eyC)) hbd; rw [← hwE] at hh
    replace hrx := hrx.set3 (u0 := (Value.bool eB)) (u1 := (Value.slice exO exL exC)) (u2 := (Value.slice eyO eyL eyC)) hbd; rw [← hwE] at hrx
    replace hry := hry.set3 (u0 := (Value.bool eB)) (u1 := (Value.slice exO exL exC)) (u2 := (Value.slice eyO eyL eyC)) hbd; rw [← hwE] at hry
    replace hr := hr.set3 (u0 := (Value.bool eB)) (u1 := (Value.slice exO exL exC)) (u2 := (Value.slice eyO eyL eyC)) hbd; rw [← hwE] at hr
    replace hdx := hdx.set3 (u0 := (Value.bool eB)) (u1 := (Value.slice exO exL exC)) (u2 := (Value.slice eyO eyL eyC)) hbd; rw [← hwE] at hdx
    replace hdy := hdy.set3 (u0 := (Value.bool eB)) (u1 := (Value.slice exO exL exC)) (u2 := (Value.slice eyO eyL eyC)) hbd; rw [← hwE] at hdy
    replace hd := hd.set3 (u0 := (Value.bool eB)) (u1 := (Value.slice exO exL exC)) (u2 := (Value.slice eyO eyL eyC)) hbd; rw [← hwE] at hd
    replace hex := hex.set3 (u0 := (Value.bool eB)) (u1 := (Value.slice exO exL exC)) (u2 := (Value.slice eyO eyL eyC)) hbd; rw [← hwE] at hex
    replace hey := hey.set3 (u0 := (Value.bool eB)) (u1 := (Value.slice exO exL exC)) (u2 := (Value.slice eyO eyL eyC)) hbd; rw [← hwE] at hey
    replace he := he.set3 (u0 := (Value.bool eB)) (u1 := (Value.slice exO exL exC)) (u2 := (Value.slice eyO eyL eyC)) hbd; rw [← hwE] at he
    replace hba := hba.set3o (u0 := (Value.bool eB)) (u1 := (Value.slice exO exL exC)) (u2 := (Value.slice eyO eyL eyC)) (show pa ≠ pd by have := HP.out; omega); rw [← hwE] at hba
    replace hbh := hbh.set3o (u0 := (Value.bool eB)) (u1 := (Value.slice exO exL exC)) (u2 := (Value.slice eyO eyL eyC)) (show ph ≠ pd by have := HP.out; omega); rw [← hwE] at hbh
    replace hbr := hbr.set3o (u0 := (Value.bool eB)) (u1 := (Value.slice exO exL exC)) (u2 := (Value.slice eyO eyL eyC)) (show pr ≠ pd by have := HP.out; omega); rw [← hwE] at hbr
    replace hbf := below_set3 (u0 := (Value.bool eB)) (u1 := (Value.slice exO exL exC)) (u2 := (Value.slice eyO eyL eyC)) hbf (show w.heap.size ≤ pd by have := HP.out; omega); rw [← hwE] at hbf
    replace hbd := hbd.set3 (u0 := (Value.bool eB)) (u1 := (Value.slice exO exL exC)) (u2 := (Value.slice eyO eyL eyC)); rw [← hwE] at hbd; clear hwE
    have ea0 := hba.c0
    have ea1 := hba.c1
    have ea2 := hba.c2
    go_wp2_with fail
    refine (qsub_any _ _ 0 a 1 200 _ (QIs.zero _) ha hq0 hqa (by decide)).mono ?_
    rintro e w15 hq9
    obtain ⟨mB, mxO, mxL, mxC, myO, myL, myC, rfl, hS, hmx, hmy, hm, hb⟩ := hq9.out
    have HmS := Lib.hid hS; clear hS
    clear ea0 ea1 ea2
    replace hba := hba.kept hb
    replace hbh := hbh.kept hb
    replace hbr := hbr.kept hb
    replace hbd := hbd.kept hb
    replace hax := hax.below hb
    replace hay := hay.below hb
    replace ha := ha.below hb
    replace ho := ho.below hb
    replace ht := ht.below hb
    replace hhx := hhx.below hb
    replace hhy := hhy.below hb
    replace hh := hh.below hb
    replace hrx := hrx.below hb
    replace hry := hry.below hb
    replace hr := hr.below hb
    replace hdx := hdx.below hb
    replace hdy := hdy.below hb
    replace hd := hd.below hb
    replace hex := hex.below hb
    replace hey := hey.below hb
    replace he := he.below hb
    replace hbf := hbf.trans (hb.mono hbf.size)
    clear hb
    obtain ⟨w16, hwE⟩ : ∃ W, W = (w15.alloc (.cells #[.bool mB, .slice mxO mxL mxC, .slice myO myL myC] 27)) := ⟨_, rfl⟩
    have hb : Below w15.heap.size w15 w16 := by rw [hwE]; exact ((Below.refl _ w15).alloc (Nat.le_refl _) _)
    obtain ⟨pm, hpm⟩ : ∃ p, p = w15.heap.size := ⟨_, rfl⟩
    have hbm : Box3 w16 pm (Value.bool mB) (Value.slice mxO mxL mxC) (Value.slice myO myL myC) := by rw [hwE, hpm]; exact ⟨by go_simp, by go_simp, by go_simp, by go_simp, by go_simp, by go_simp⟩
    replace HP : Hid (w.heap.size ≤ pa ∧ pa < ph ∧ ph < pr ∧ pr < pd ∧ pd < pm) := Lib.hid (by have h1 := HP.out; have h9 := hbf.size; have h2d := hbd.lt; omega)
    have HW := Lib.hid hwE; clear hwE
    go_upto_region 12 with fail
    rw [← HW.out, ← hpm]
    clear hpm HW
    replace hba := hba.kept hb
    replace hbh := hbh.kept hb
    replace hbr := hbr.kept hb
    replace hbd := hbd.kept hb
    replace hax := hax.below hb
    replace hay := hay.below hb
    replace ha := ha.below hb
    replace ho := ho.below hb
    replace ht := ht.below hb
    replace hhx := hhx.below hb
    replace hhy := hhy.below hb
    replace hh := hh.below hb
    replace hrx := hrx.below hb
    replace hry := hry.below hb
    replace hr := hr.below hb
    replace hdx := hdx.below hb
    replace hdy := hdy.below hb
    replace hd := hd.below hb
    replace hex := hex.below hb
    replace hey := hey.below hb
    replace he := he.below hb
    replace hmx := hmx.below hb
    replace hmy := hmy.below hb
    replace hm := hm.below hb
    replace hbf := hbf.trans (hb.mono hbf.size)
    clear hb
    have HK1 : Hid (qround (0 - a) = 0 - qround a) := Lib.hid (by rw [qneg_zero_sub, qneg_zero_sub, qround_neg])
    have HK2 : Hid (((0 - a).floor : Rat) = 0 - -((-a).floor : Rat)) := Lib.hid (by rw [qneg_zero_sub, qneg_zero_sub, Rat.neg_neg])
    have hcl : QB (-((-a).floor : Rat)) 201 := hqa.neg.floor.neg
    have HWH : Hid ((qround a).den = 1) := Lib.hid (qround_den a)
    obtain ⟨k9, hk9⟩ : ∃ k, k = qcmp (0 - (qround a - a)) half := ⟨_, rfl⟩
    have hkle : k9 ≤ 0 := by rw [hk9]; exact qcmp_le HDL.out
    have hkn : ¬ 0 < k9 := by omega
    have HK9 := Lib.hid hk9.symm; clear hk9
    refine wp_region_seq (S := fun w' => Box3 w' pa (Value.bool aB) (Value.slice axO axL axC) (Value.slice ayO ayL ayC) ∧ Box3 w' ph (Value.bool hB) (Value.slice hxO hxL hxC) (Value.slice hyO hyL hyC) ∧ Box3 w' pr (Value.bool rB) (Value.slice rxO rxL rxC) (Value.slice ryO ryL ryC) ∧ Box3 w' pd (Value.bool eB) (Value.slice exO exL exC) (Value.slice eyO eyL eyC) ∧ Box3 w' pm (Value.bool mB) (Value.slice mxO mxL mxC) (Value.slice myO myL myC)) [(true, 0), (false, 1), (true, 2), (true, 3), (true, 4), (true, 5), (false, 6), (true, 7), (true, 8), (true, 9), (true, 10), (true, 12), (true, 13), (false, 11), (false, 14), (false, 15), (true, 16), (true, 17), (true, 18), (true, 19), (true, 21), (true, 22), (false, 20), (false, 23), (false, 24), (false, 25), (true, 26), (true, 27)] (by kernel_rfl) (by kernel_rfl) (by kernel_rfl) (by kernel_rfl) (by kernel_rfl) (fun d _ _ _ _ h => by cases d <;> exact h) ⟨hba.drew, hbh.drew, hbr.drew, hbd.drew, hbm.drew⟩ (fun _ => ?_)
    simp only [pickOps, List.append_eq, List.cons_append, List.nil_append, List.getElem?_toArray, List.getElem?_cons_succ, List.getElem?_cons_zero]
    have hb : Below w16.heap.size w16 w16.drew := (Below.refl _ _).drew
    generalize w16.drew = w17 at hb ⊢
    replace hba := hba.kept hb
    replace hbh := hbh.kept hb
    replace hbr := hbr.kept hb
    replace hbd := hbd.kept hb
    replace hbm := hbm.kept hb
    replace hax := hax.below hb
    replace hay := hay.below hb
    replace ha := ha.below hb
    replace ho := ho.below hb
    replace ht := ht.below hb
    replace hhx := hhx.below hb
    replace hhy := hhy.below hb
    replace hh := hh.below hb
    replace hrx := hrx.below hb
    replace hry := hry.below hb
    replace hr := hr.below hb
    replace hdx := hdx.below hb
    replace hdy := hdy.below hb
    replace hd := hd.below hb
    replace hex := hex.below hb
    replace hey := hey.below hb
    replace he := he.below hb
    replace hmx := hmx.below hb
    replace hmy := hmy.below hb
    replace hm := hm.below hb
    replace hbf := hbf.trans (hb.mono hbf.size)
    clear hb
    repeat (first | (refine seq_take (v := ?_) (by rfl) ?_ ?_; rotate_left; (· intro w hSw; (try dsimp only at hSw); obtain ⟨⟨ea0, ea1, ea2, _, _, _⟩, ⟨eh0, eh1, eh2, _, _, _⟩, ⟨er0, er1, er2, _, _, _⟩, ⟨ed0, ed1, ed2, _, _, _⟩, ⟨em0, em1, em2, _, _, _⟩⟩ := hSw; go_simp; all_goals with_reducible rfl); (try simp only [Act.put, List.setIfInBounds_toArray, List.set_cons_zero, List.set_cons_succ])) | (refine seq_leave (by rfl) ?_; (try simp only [Act.put, List.setIfInBounds_toArray, List.set_cons_zero, List.set_cons_succ])))
    refine seq_step (by rfl) (fun K hK => ?_)
    go_simp
    go_at_call 27
    (with_reducible refine (whole_yes _ _ _ hr HWH).mono ?_)
    rintro e w18 ⟨rfl, hb⟩
    replace hba := hba.kept hb
    replace hbh := hbh.kept hb
    replace hbr := hbr.kept hb
    replace hbd := hbd.kept hb
    replace hbm := hbm.kept hb
    replace hax := hax.below hb
    replace hay := hay.below hb
    replace ha := ha.below hb
    replace ho := ho.below hb
    replace ht := ht.below hb
    replace hhx := hhx.below hb
    replace hhy := hhy.below hb
    replace hh := hh.below hb
    replace hrx := hrx.below hb
    replace hry := hry.below hb
    replace hr := hr.below hb
    replace hdx := hdx.below hb
    replace hdy := hdy.below hb
    replace hd := hd.below hb
    replace hex := hex.below hb
    replace hey := hey.below hb
    replace he := he.below hb
    replace hmx := hmx.below hb
    replace hmy := hmy.below hb
    replace hm := hm.below hb
    replace hbf := hbf.trans (hb.mono hbf.size)
    clear hb
    first | refine hK.out _ _ ⟨hba, hbh, hbr, hbd, hbm⟩ (fun _ => ?_) | (go_wp2_with fail; refine hK.out _ _ ⟨hba, hbh, hbr, hbd, hbm⟩ (fun _ => ?_))
    clear hK K
    (try simp only [Act.put, List.setIfInBounds_toArray, List.set_cons_zero, List.set_cons_succ])
    repeat (first | (refine seq_take (v := ?_) (by rfl) ?_ ?_; rotate_left; (· intro w hSw; (try dsimp only at hSw); obtain ⟨⟨ea0, ea1, ea2, _, _, _⟩, ⟨eh0, eh1, eh2, _, _, _⟩, ⟨er0, er1, er2, _, _, _⟩, ⟨ed0, ed1, ed2, _, _, _⟩, ⟨em0, em1, em2, _, _, _⟩⟩ := hSw; go_simp; all_goals with_reducible rfl); (try simp only [Act.put, List.setIfInBounds_toArray, List.set_cons_zero, List.set_cons_succ])) | (refine seq_leave (by rfl) ?_; (try simp only [Act.put, List.setIfInBounds_toArray, List.set_cons_zero, List.set_cons_succ])))
    refine seq_step (by rfl) (fun K hK => ?_)
    go_simp
    go_at_call 28
    (with_reducible refine (cmp_c _ _ (0 - (qround a - a)) half k9 500 1 _ he hh hqD hqh (by decide) HK9).mono ?_)
    rintro e w19 ⟨rfl, hb⟩
    replace hba := hba.kept hb
    replace hbh := hbh.kept hb
    replace hbr := hbr.kept hb
    replace hbd := hbd.kept hb
    replace hbm := hbm.kept hb
    replace hax := hax.below hb
    replace hay := hay.below hb
    replace ha := ha.below hb
    replace ho := ho.below hb
    replace ht := ht.below hb
    replace hhx := hhx.below hb
    replace hhy := hhy.below hb
    replace hh := hh.below hb
    replace hrx := hrx.below hb
    replace hry := hry.below hb
    replace hr := hr.below hb
    replace hdx := hdx.below hb
    replace hdy := hdy.below hb
    replace hd := hd.below hb
    replace hex := hex.below hb
    replace hey := hey.below hb
    replace he := he.below hb
    replace hmx := hmx.below hb
    replace hmy := hmy.below hb
    replace hm := hm.below hb
    replace hbf := hbf.trans (hb.mono hbf.size)
    clear hb
    first | refine hK.out _ _ ⟨hba, hbh, hbr, hbd, hbm⟩ (fun _ => ?_) | (go_wp2_with fail; refine hK.out _ _ ⟨hba, hbh, hbr, hbd, hbm⟩ (fun _ => ?_))
    clear hK K
    (try simp only [Act.put, List.setIfInBounds_toArray, List.set_cons_zero, List.set_cons_succ])
    repeat (first | (refine seq_take (v := ?_) (by rfl) ?_ ?_; rotate_left; (· intro w hSw; (try dsimp only at hSw); obtain ⟨⟨ea0, ea1, ea2, _, _, _⟩, ⟨eh0, eh1, eh2, _, _, _⟩, ⟨er0, er1, er2, _, _, _⟩, ⟨ed0, ed1, ed2, _, _, _⟩, ⟨em0, em1, em2, _, _, _⟩⟩ := hSw; go_simp; all_goals with_reducible rfl); (try simp only [Act.put, List.setIfInBounds_toArray, List.set_cons_zero, List.set_cons_succ])) | (refine seq_leave (by rfl) ?_; (try simp only [Act.put, List.setIfInBounds_toArray, List.set_cons_zero, List.set_cons_succ])))
    refine seq_step (by rfl) (fun K hK => ?_)
    go_simp
    go_at_call 24
    (with_reducible refine (round_any _ (0 - a) 202 _ hm hqm (by decide)).mono ?_)
    rintro e w20 hq9
    obtain ⟨xB, xxO, xxL, xxC, xyO, xyL, xyC, rfl, hS, hxx, hxy, hx, hb⟩ := hq9.out
    have HxS := Lib.hid hS; clear hS
    replace hba := hba.kept hb
    replace hbh := hbh.kept hb
    replace hbr := hbr.kept hb
    replace hbd := hbd.kept hb
    replace hbm := hbm.kept hb
    replace hax := hax.below hb
    replace hay := hay.below hb
    replace ha := ha.below hb
    replace ho := ho.below hb
    replace ht := ht.below hb
    replace hhx := hhx.below hb
    replace hhy := hhy.below hb
    replace hh := hh.below hb
    replace hrx := hrx.below hb
    replace hry := hry.below hb
    replace hr := hr.below hb
    replace hdx := hdx.below hb
    replace hdy := hdy.below hb
    replace hd := hd.below hb
    replace hex := hex.below hb
    replace hey := hey.below hb
    replace he := he.below hb
    replace hmx := hmx.below hb
    replace hmy := hmy.below hb
    replace hm := hm.below hb
    replace hbf := hbf.trans (hb.mono hbf.size)
    clear hb
    first | refine hK.out _ _ ⟨hba, hbh, hbr, hbd, hbm⟩ (fun _ => ?_) | (go_wp2_with fail; refine hK.out _ _ ⟨hba, hbh, hbr, hbd, hbm⟩ (fun _ => ?_))
    clear hK K
    (try simp only [Act.put, List.setIfInBounds_toArray, List.set_cons_zero, List.set_cons_succ])
    refine seq_step (by rfl) (fun K hK => ?_)
    go_simp
    go_at_call 25
    (with_reducible refine (qsub_any _ _ 0 (qround a) 1 202 _ (QIs.zero _) hr hq0 hqr (by decide)).mono ?_)
    rintro e w21 hq9
    obtain ⟨yB, yxO, yxL, yxC, yyO, yyL, yyC, rfl, hS, hyx, hyy, hy, hb⟩ := hq9.out
    have HyS := Lib.hid hS; clear hS
    replace hba := hba.kept hb
    replace hbh := hbh.kept hb
    replace hbr := hbr.kept hb
    replace hbd := hbd.kept hb
    replace hbm := hbm.kept hb
    replace hax := hax.below hb
    replace hay := hay.below hb
    replace ha := ha.below hb
    replace ho := ho.below hb
    replace ht := ht.below hb
    replace hhx := hhx.below hb
    replace hhy := hhy.below hb
    replace hh := hh.below hb
    replace hrx := hrx.below hb
    replace hry := hry.below hb
    replace hr := hr.below hb
    replace hdx := hdx.below hb
    replace hdy := hdy.below hb
    replace hd := hd.below hb
    replace hex := hex.below hb
    replace hey := hey.below hb
    replace he := he.below hb
    replace hmx := hmx.below hb
    replace hmy := hmy.below hb
    replace hm := hm.below hb
    replace hxx := hxx.below hb
    replace hxy := hxy.below hb
    replace hx := hx.below hb
    replace hbf := hbf.trans (hb.mono hbf.size)
    clear hb
    first | refine hK.out _ _ ⟨hba, hbh, hbr, hbd, hbm⟩ (fun _ => ?_) | (go_wp2_with fail; refine hK.out _ _ ⟨hba, hbh, hbr, hbd, hbm⟩ (fun _ => ?_))
    clear hK K
    (try simp only [Act.put, List.setIfInBounds_toArray, List.set_cons_zero, List.set_cons_succ])
    refine seq_step (by rfl) (fun K hK => ?_)
    go_simp
    go_at_call 20
    (with_reducible refine (same_eq _ _ _ _ 204 204 _ hx hy hqm.round (hq0.sub hqr) (by decide) HK1).mono ?_)
    rintro e w22 ⟨rfl, hb⟩
    replace hba := hba.kept hb
    replace hbh := hbh.kept hb
    replace hbr := hbr.kept hb
    replace hbd := hbd.kept hb
    replace hbm := hbm.kept hb
    replace hax := hax.below hb
    replace hay := hay.below hb
    replace ha := ha.below hb
    replace ho := ho.below hb
    replace ht := ht.below hb
    replace hhx := hhx.below hb
    replace hhy := hhy.below hb
    replace hh := hh.below hb
    replace hrx := hrx.below hb
    replace hry := hry.below hb
    replace hr := hr.below hb
    replace hdx := hdx.below hb
    replace hdy := hdy.below hb
    replace hd := hd.below hb
    replace hex := hex.below hb
    replace hey := hey.below hb
    replace he := he.below hb
    replace hmx := hmx.below hb
    replace hmy := hmy.below hb
    replace hm := hm.below hb
    replace hxx := hxx.below hb
    replace hxy := hxy.below hb
    replace hx := hx.below hb
    replace hyx := hyx.below hb
    replace hyy := hyy.below hb
    replace hy := hy.below hb
    replace hbf := hbf.trans (hb.mono hbf.size)
    clear hb
    first | refine hK.out _ _ ⟨hba, hbh, hbr, hbd, hbm⟩ (fun _ => ?_) | (go_wp2_with fail; refine hK.out _ _ ⟨hba, hbh, hbr, hbd, hbm⟩ (fun _ => ?_))
    clear hK K
    (try simp only [Act.put, List.setIfInBounds_toArray, List.set_cons_zero, List.set_cons_succ])
    repeat (first | (refine seq_take (v := ?_) (by rfl) ?_ ?_; rotate_left; (· intro w hSw; (try dsimp only at hSw); obtain ⟨⟨ea0, ea1, ea2, _, _, _⟩, ⟨eh0, eh1, eh2, _, _, _⟩, ⟨er0, er1, er2, _, _, _⟩, ⟨ed0, ed1, ed2, _, _, _⟩, ⟨em0, em1, em2, _, _, _⟩⟩ := hSw; go_simp; all_goals with_reducible rfl); (try simp only [Act.put, List.setIfInBounds_toArray, List.set_cons_zero, List.set_cons_succ])) | (refine seq_leave (by rfl) ?_; (try simp only [Act.put, List.setIfInBounds_toArray, List.set_cons_zero, List.set_cons_succ])))
    refine seq_step (by rfl) (fun K hK => ?_)
    go_simp
    go_at_call 29
    (with_reducible refine (floor_any _ (0 - a) 202 _ hm hqm (by decide) (by decide)).mono ?_)
    rintro e w23 hq9
    obtain ⟨uB, uxO, uxL, uxC, uyO, uyL, uyC, rfl, hS, hux, huy, hu, hb⟩ := hq9.out
    have HuS := Lib.hid hS; clear hS
    replace hba := hba.kept hb
    replace hbh := hbh.kept hb
    replace hbr := hbr.kept hb
    replace hbd := hbd.kept hb
    replace hbm := hbm.kept hb
    replace hax := hax.below hb
    replace hay := hay.below hb
    replace ha := ha.below hb
    replace ho := ho.below hb
    replace ht := ht.below hb
    replace hhx := hhx.below hb
    replace hhy := hhy.below hb
    replace hh := hh.below hb
    replace hrx := hrx.below hb
    replace hry := hry.below hb
    replace hr := hr.below hb
    replace hdx := hdx.below hb
    replace hdy := hdy.below hb
    replace hd := hd.below hb
    replace hex := hex.below hb
    replace hey := hey.below hb
    replace he := he.below hb
    replace hmx := hmx.below hb
    replace hmy := hmy.below hb
    replace hm := hm.below hb
    replace hxx := hxx.below hb
    replace hxy := hxy.below hb
    replace hx := hx.below hb
    replace hyx := hyx.below hb
    replace hyy := hyy.below hb
    replace hy := hy.below hb
    replace hbf := hbf.trans (hb.mono hbf.size)
    clear hb
    first | refine hK.out _ _ ⟨hba, hbh, hbr, hbd, hbm⟩ (fun _ => ?_) | (go_wp2_with fail; refine hK.out _ _ ⟨hba, hbh, hbr, hbd, hbm⟩ (fun _ => ?_))
    clear hK K
    (try simp only [Act.put, List.setIfInBounds_toArray, List.set_cons_zero, List.set_cons_succ])
    refine seq_step (by rfl) (fun K hK => ?_)
    go_simp
    go_at_call 30
    (with_reducible refine (ceil_any _ a 200 _ ha hqa (by decide) (by decide)).mono ?_)
    rintro e w24 hq9
    obtain ⟨vB, vxO, vxL, vxC, vyO, vyL, vyC, rfl, hS, hvx, hvy, hv, hb⟩ := hq9.out
    have HvS := Lib.hid hS; clear hS
    replace hba := hba.kept hb
    replace hbh := hbh.kept hb
    replace hbr := hbr.kept hb
    replace hbd := hbd.kept hb
    replace hbm := hbm.kept hb
    replace hax := hax.below hb
    replace hay := hay.below hb
    replace ha := ha.below hb
    replace ho := ho.below hb
    replace ht := ht.below hb
    replace hhx := hhx.below hb
    replace hhy := hhy.below hb
    replace hh := hh.below hb
    replace hrx := hrx.below hb
    replace hry := hry.below hb
    replace hr := hr.below hb
    replace hdx := hdx.below hb
    replace hdy := hdy.below hb
    replace hd := hd.below hb
    replace hex := hex.below hb
    replace hey := hey.below hb
    replace he := he.below hb
    replace hmx := hmx.below hb
    replace hmy := hmy.below hb
    replace hm := hm.below hb
    replace hxx := hxx.below hb
    replace hxy := hxy.below hb
    replace hx := hx.below hb
    replace hyx := hyx.below hb
    replace hyy := hyy.below hb
    replace hy := hy.below hb
    replace hux := hux.below hb
    replace huy := huy.below hb
    replace hu := hu.below hb
    replace hbf := hbf.trans (hb.mono hbf.size)
    clear hb
    first | refine hK.out _ _ ⟨hba, hbh, hbr, hbd, hbm⟩ (fun _ => ?_) | (go_wp2_with fail; refine hK.out _ _ ⟨hba, hbh, hbr, hbd, hbm⟩ (fun _ => ?_))
    clear hK K
    (try simp only [Act.put, List.setIfInBounds_toArray, List.set_cons_zero, List.set_cons_succ])
    refine seq_step (by rfl) (fun K hK => ?_)
    go_simp
    go_at_call 25
    (with_reducible refine (qsub_any _ _ 0 _ 1 201 _ (QIs.zero _) hv hq0 hcl (by decide)).mono ?_)
    rintro e w25 hq9
    obtain ⟨sB, sxO, sxL, sxC, syO, syL, syC, rfl, hS, hsx, hsy, hs, hb⟩ := hq9.out
    have HsS := Lib.hid hS; clear hS
    replace hba := hba.kept hb
    replace hbh := hbh.kept hb
    replace hbr := hbr.kept hb
    replace hbd := hbd.kept hb
    replace hbm := hbm.kept hb
    replace hax := hax.below hb
    replace hay := hay.below hb
    replace ha := ha.below hb
    replace ho := ho.below hb
    replace ht := ht.below hb
    replace hhx := hhx.below hb
    replace hhy := hhy.below hb
    replace hh := hh.below hb
    replace hrx := hrx.below hb
    replace hry := hry.below hb
    replace hr := hr.below hb
    replace hdx := hdx.below hb
    replace hdy := hdy.below hb
    replace hd := hd.below hb
    replace hex := hex.below hb
    replace hey := hey.below hb
    replace he := he.below hb
    replace hmx := hmx.below hb
    replace hmy := hmy.below hb
    replace hm := hm.below hb
    replace hxx := hxx.below hb
    replace hxy := hxy.below hb
    replace hx := hx.below hb
    replace hyx := hyx.below hb
    replace hyy := hyy.below hb
    replace hy := hy.below hb
    replace hux := hux.below hb
    replace huy := huy.below hb
    replace hu := hu.below hb
    replace hvx := hvx.below hb
    replace hvy := hvy.below hb
    replace hv := hv.below hb
    replace hbf := hbf.trans (hb.mono hbf.size)
    clear hb
    first | refine hK.out _ _ ⟨hba, hbh, hbr, hbd, hbm⟩ (fun _ => ?_) | (go_wp2_with fail; refine hK.out _ _ ⟨hba, hbh, hbr, hbd, hbm⟩ (fun _ => ?_))
    clear hK K
    (try simp only [Act.put, List.setIfInBounds_toArray, List.set_cons_zero, List.set_cons_succ])
    refine seq_step (by rfl) (fun K hK => ?_)
    go_simp
    go_at_call 20
    (with_reducible refine (same_eq _ _ _ _ 203 203 _ hu hs hqm.floor (hq0.sub hcl) (by decide) HK2).mono ?_)
    rintro e w26 ⟨rfl, hb⟩
    replace hba := hba.kept hb
    replace hbh := hbh.kept hb
    replace hbr := hbr.kept hb
    replace hbd := hbd.kept hb
    replace hbm := hbm.kept hb
    replace hax := hax.below hb
    replace hay := hay.below hb
    replace ha := ha.below hb
    replace ho := ho.below hb
    replace ht := ht.below hb
    replace hhx := hhx.below hb
    replace hhy := hhy.below hb
    replace hh := hh.below hb
    replace hrx := hrx.below hb
    replace hry := hry.below hb
    replace hr := hr.below hb
    replace hdx := hdx.below hb
    replace hdy := hdy.below hb
    replace hd := hd.below hb
    replace hex := hex.below hb
    replace hey := hey.below hb
    replace he := he.below hb
    replace hmx := hmx.below hb
    replace hmy := hmy.below hb
    replace hm := hm.below hb
    replace hxx := hxx.below hb
    replace hxy := hxy.below hb
    replace hx := hx.below hb
    replace hyx := hyx.below hb
    replace hyy := hyy.below hb
    replace hy := hy.below hb
    replace hux := hux.below hb
    replace huy := huy.below hb
    replace hu := hu.below hb
    replace hvx := hvx.below hb
    replace hvy := hvy.below hb
    replace hv := hv.below hb
    replace hsx := hsx.below hb
    replace hsy := hsy.below hb
    replace hs := hs.below hb
    replace hbf := hbf.trans (hb.mono hbf.size)
    clear hb
    first | refine hK.out _ _ ⟨hba, hbh, hbr, hbd, hbm⟩ (fun _ => ?_) | (go_wp2_with fail; refine hK.out _ _ ⟨hba, hbh, hbr, hbd, hbm⟩ (fun _ => ?_))
    clear hK K
    (try simp only [Act.put, List.setIfInBounds_toArray, List.set_cons_zero, List.set_cons_succ])
    repeat (first | (refine seq_take (v := ?_) (by rfl) ?_ ?_; rotate_left; (· intro w hSw; (try dsimp only at hSw); obtain ⟨⟨ea0, ea1, ea2, _, _, _⟩, ⟨eh0, eh1, eh2, _, _, _⟩, ⟨er0, er1, er2, _, _, _⟩, ⟨ed0, ed1, ed2, _, _, _⟩, ⟨em0, em1, em2, _, _, _⟩⟩ := hSw; go_simp; all_goals with_reducible rfl); (try simp only [Act.put, List.setIfInBounds_toArray, List.set_cons_zero, List.set_cons_succ])) | (refine seq_leave (by rfl) ?_; (try simp only [Act.put, List.setIfInBounds_toArray, List.set_cons_zero, List.set_cons_succ])))
    refine seq_end ?_
    go_upto_region 14 with fail
    by_cases hsm : 0 - (qround a - a) = half
    rotate_left
    · have HSM : Hid (decide (0 - (qround a - a) = half) = false) := Lib.hid (decide_eq_false hsm)
      have ed0 := hbd.c0
      have ed1 := hbd.c1
      have ed2 := hbd.c2
      have eh0 := hbh.c0
      have eh1 := hbh.c1
      have eh2 := hbh.c2
      go_wp2_with fail
      refine (same_b _ _ (0 - (qround a - a)) half false 500 1 _ he hh hqD hqh (by decide) HSM).mono ?_
      rintro e w27 ⟨rfl, hb⟩
      clear ed0 ed1 ed2 eh0 eh1 eh2
      replace hba := hba.kept hb
      replace hbh := hbh.kept hb
      replace hbr := hbr.kept hb
      replace hbd := hbd.kept hb
      replace hbm := hbm.kept hb
      replace hax := hax.below hb
      replace hay := hay.below hb
      replace ha := ha.below hb
      replace ho := ho.below hb
      replace ht := ht.below hb
      replace hhx := hhx.below hb
      replace hhy := hhy.below hb
      replace hh := hh.below hb
      replace hrx := hrx.below hb
      replace hry := hry.below hb
      replace hr := hr.below hb
      replace hdx := hdx.below hb
      replace hdy := hdy.below hb
      replace hd := hd.below hb
      replace hex := hex.below hb
      replace hey := hey.below hb
      replace he := he.below hb
      replace hmx := hmx.below hb
      replace hmy := hmy.below hb
      replace hm := hm.below hb
      replace hxx := hxx.below hb
      replace hxy := hxy.below hb
      replace hx := hx.below hb
      replace hyx := hyx.below hb
      replace hyy := hyy.below hb
      replace hy := hy.below hb
      replace hux := hux.below hb
      replace huy := huy.below hb
      replace hu := hu.below hb
      replace hvx := hvx.below hb
      replace hvy := hvy.below hb
      replace hv := hv.below hb
      replace hsx := hsx.below hb
      replace hsy := hsy.below hb
      replace hs := hs.below hb
      replace hbf := hbf.trans (hb.mono hbf.size)
      clear hb
      go_wp2_with fail
      go_ret
      exact ⟨rfl, hbf⟩
    have HSM : Hid (decide (0 - (qround a - a) = half) = true) := Lib.hid (decide_eq_true hsm)
    have hdd := HDH.out (HDE.out.trans hsm)
    have HDD := Lib.hid hdd; clear hdd hsm
    have ed0 := hbd.c0
    have ed1 := hbd.c1
    have ed2 := hbd.c2
    have eh0 := hbh.c0
    have eh1 := hbh.c1
    have eh2 := hbh.c2
    go_wp2_with fail
    refine (same_b _ _ (0 - (qround a - a)) half true 500 1 _ he hh hqD hqh (by decide) HSM).mono ?_
    rintro e w27 ⟨rfl, hb⟩
    clear ed0 ed1 ed2 eh0 eh1 eh2
    replace hba := hba.kept hb
    replace hbh := hbh.kept hb
    replace hbr := hbr.kept hb
    replace hbd := hbd.kept hb
    replace hbm := hbm.kept hb
    replace hax := hax.below hb
    replace hay := hay.below hb
    replace ha := ha.below hb
    replace ho := ho.below hb
    replace ht := ht.below hb
    replace hhx := hhx.below hb
    replace hhy := hhy.below hb
    replace hh := hh.below hb
    replace hrx := hrx.below hb
    replace hry := hry.below hb
    replace hr := hr.below hb
    replace hdx := hdx.below hb
    replace hdy := hdy.below hb
    replace hd := hd.below hb
    replace hex := hex.below hb
    replace hey := hey.below hb
    replace he := he.below hb
    replace hmx := hmx.below hb
    replace hmy := hmy.below hb
    replace hm := hm.below hb
    replace hxx := hxx.below hb
    replace hxy := hxy.below hb
    replace hx := hx.below hb
    replace hyx := hyx.below hb
    replace hyy := hyy.below hb
    replace hy := hy.below hb
    replace hux := hux.below hb
    replace huy := huy.below hb
    replace hu := hu.below hb
    replace hvx := hvx.below hb
    replace hvy := hvy.below hb
    replace hv := hv.below hb
    replace hsx := hsx.below hb
    replace hsy := hsy.below hb
    replace hs := hs.below hb
    replace hbf := hbf.trans (hb.mono hbf.size)
    clear hb
    cases hs : decide (a < 0)
    · skip
      have HS := Lib.hid hs
      have HK : Hid (qcmp (qround a) a = 1) := Lib.hid (qcmp_gt (HDD.out.2 hs))
      clear hs
      have ea0 := hba.c0
      have ea1 := hba.c1
      have ea2 := hba.c2
      go_wp2_with fail
      refine (neg_b _ a false _ ha HS).mono ?_
      rintro e w28 ⟨rfl, hb⟩
      clear ea0 ea1 ea2
      replace hba := hba.kept hb
      replace hbh := hbh.kept hb
      replace hbr := hbr.kept hb
      replace hbd := hbd.kept hb
      replace hbm := hbm.kept hb
      replace hax := hax.below hb
      replace hay := hay.below hb
      replace ha := ha.below hb
      replace ho := ho.below hb
      replace ht := ht.below hb
      replace hhx := hhx.below hb
      replace hhy := hhy.below hb
      replace hh := hh.below hb
      replace hrx := hrx.below hb
      replace hry := hry.below hb
      replace hr := hr.below hb
      replace hdx := hdx.below hb
      replace hdy := hdy.below hb
      replace hd := hd.below hb
      replace hex := hex.below hb
      replace hey := hey.below hb
      replace he := he.below hb
      replace hmx := hmx.below hb
      replace hmy := hmy.below hb
      replace hm := hm.below hb
      replace hxx := hxx.below hb
      replace hxy := hxy.below hb
      replace hx := hx.below hb
      replace hyx := hyx.below hb
      replace hyy := hyy.below hb
      replace hy := hy.below hb
      replace hux := hux.below hb
      replace huy := huy.below hb
      replace hu := hu.below hb
      replace hvx := hvx.below hb
      replace hvy := hvy.below hb
      replace hv := hv.below hb
      replace hsx := hsx.below hb
      replace hsy := hsy.below hb
      replace hs := hs.below hb
      replace hbf := hbf.trans (hb.mono hbf.size)
      clear hb
      have ea0 := hba.c0
      have ea1 := hba.c1
      have ea2 := hba.c2
      go_wp2_with fail
      refine (neg_b _ a false _ ha HS).mono ?_
      rintro e w29 ⟨rfl, hb⟩
      clear ea0 ea1 ea2
      replace hba := hba.kept hb
      replace hbh := hbh.kept hb
      replace hbr := hbr.kept hb
      replace hbd := hbd.kept hb
      replace hbm := hbm.kept hb
      replace hax := hax.below hb
      replace hay := hay.below hb
      replace ha := ha.below hb
      replace ho := ho.below hb
      replace ht := ht.below hb
      replace hhx := hhx.below hb
      replace hhy := hhy.below hb
      replace hh := hh.below hb
      replace hrx := hrx.below hb
      replace hry := hry.below hb
      replace hr := hr.below hb
      replace hdx := hdx.below hb
      replace hdy := hdy.below hb
      replace hd := hd.below hb
      replace hex := hex.below hb
      replace hey := hey.below hb
      replace he := he.below hb
      replace hmx := hmx.below hb
      replace hmy := hmy.below hb
      replace hm := hm.below hb
      replace hxx := hxx.below hb
      replace hxy := hxy.below hb
      replace hx := hx.below hb
      replace hyx := hyx.below hb
      replace hyy := hyy.below hb
      replace hy := hy.below hb
      replace hux := hux.below hb
      replace huy := huy.below hb
      replace hu := hu.below hb
      replace hvx := hvx.below hb
      replace hvy := hvy.below hb
      replace hv := hv.below hb
      replace hsx := hsx.below hb
      replace hsy := hsy.below hb
      replace hs := hs.below hb
      replace hbf := hbf.trans (hb.mono hbf.size)
      clear hb
      have ea0 := hba.c0
      have ea1 := hba.c1
      have ea2 := hba.c2
      have er0 := hbr.c0
      have er1 := hbr.c1
      have er2 := hbr.c2
      go_wp2_with fail
      refine (cmp_c _ _ (qround a) a 1 202 200 _ hr ha hqr hqa (by decide) HK).mono ?_
      rintro e w30 ⟨rfl, hb⟩
      clear ea0 ea1 ea2 er0 er1 er2
      replace hba := hba.kept hb
      replace hbh := hbh.kept hb
      replace hbr := hbr.kept hb
      replace hbd := hbd.kept hb
      replace hbm := hbm.kept hb
      replace hax := hax.below hb
      replace hay := hay.below hb
      replace ha := ha.below hb
      replace ho := ho.below hb
      replace ht := ht.below hb
      replace hhx := hhx.below hb
      replace hhy := hhy.below hb
      replace hh := hh.below hb
      replace hrx := hrx.below hb
      replace hry := hry.below hb
      replace hr := hr.below hb
      replace hdx := hdx.below hb
      replace hdy := hdy.below hb
      replace hd := hd.below hb
      replace hex := hex.below hb
      replace hey := hey.below hb
      replace he := he.below hb
      replace hmx := hmx.below hb
      replace hmy := hmy.below hb
      replace hm := hm.below hb
      replace hxx := hxx.below hb
      replace hxy := hxy.below hb
      replace hx := hx.below hb
      replace hyx := hyx.below hb
      replace hyy := hyy.below hb
      replace hy := hy.below hb
      replace hux := hux.below hb
      replace huy := huy.below hb
      replace hu := hu.below hb
      replace hvx := hvx.below hb
      replace hvy := hvy.below hb
      replace hv := hv.below hb
      replace hsx := hsx.below hb
      replace hsy := hsy.below hb
      replace hs := hs.below hb
      replace hbf := hbf.trans (hb.mono hbf.size)
      clear hb
      go_wp2_with fail
      go_ret
      exact ⟨rfl, hbf⟩
    · skip
      have HS := Lib.hid hs
      have HK : Hid (qcmp (qround a) a = -1) := Lib.hid (qcmp_lt (HDD.out.1 hs))
      clear hs
      have ea0 := hba.c0
      have ea1 := hba.c1
      have ea2 := hba.c2
      go_wp2_with fail
      refine (neg_b _ a true _ ha HS).mono ?_
      rintro e w28 ⟨rfl, hb⟩
      clear ea0 ea1 ea2
      replace hba := hba.kept hb
      replace hbh := hbh.kept hb
      replace hbr := hbr.kept hb
      replace hbd := hbd.kept hb
      replace hbm := hbm.kept hb
      replace hax := hax.below hb
      replace hay := hay.below hb
      replace ha := ha.below hb
      replace ho := ho.below hb
      replace ht := ht.below hb
      replace hhx := hhx.below hb
      replace hhy := hhy.below hb
      replace hh := hh.below hb
      replace hrx := hrx.below hb
      replace hry := hry.below hb
      replace hr := hr.below hb
      replace hdx := hdx.below hb
      replace hdy := hdy.below hb
      replace hd := hd.below hb
      replace hex := hex.below hb
      replace hey := hey.below hb
      replace he := he.below hb
      replace hmx := hmx.below hb
      replace hmy := hmy.below hb
      replace hm := hm.below hb
      replace hxx := hxx.below hb
      replace hxy := hxy.below hb
      replace hx := hx.below hb
      replace hyx := hyx.below hb
      replace hyy := hyy.below hb
      replace hy := hy.below hb
      replace hux := hux.below hb
      replace huy := huy.below hb
      replace hu := hu.below hb
      replace hvx := hvx.below hb
      replace hvy := hvy.below hb
      replace hv := hv.below hb
      replace hsx := hsx.below hb
      replace hsy := hsy.below hb
      replace hs := hs.below hb
      replace hbf := hbf.trans (hb.mono hbf.size)
      clear hb
      have ea0 := hba.c0
      have ea1 := hba.c1
      have ea2 := hba.c2
      have er0 := hbr.c0
      have er1 := hbr.c1
      have er2 := hbr.c2
      go_wp2_with fail
      refine (cmp_c _ _ (qround a) a (-1) 202 200 _ hr ha hqr hqa (by decide) HK).mono ?_
      rintro e w29 ⟨rfl, hb⟩
      clear ea0 ea1 ea2 er0 er1 er2
      replace hba := hba.kept hb
      replace hbh := hbh.kept hb
      replace hbr := hbr.kept hb
      replace hbd := hbd.kept hb
      replace hbm := hbm.kept hb
      replace hax := hax.below hb
      replace hay := hay.below hb
      replace ha := ha.below hb
      replace ho := ho.below hb
      replace ht := ht.below hb
      replace hhx := hhx.below hb
      replace hhy := hhy.below hb
      replace hh := hh.below hb
      replace hrx := hrx.below hb
      replace hry := hry.below hb
      replace hr := hr.below hb
      replace hdx := hdx.below hb
      replace hdy := hdy.below hb
      replace hd := hd.below hb
      replace hex := hex.below hb
      replace hey := hey.below hb
      replace he := he.below hb
      replace hmx := hmx.below hb
      replace hmy := hmy.below hb
      replace hm := hm.below hb
      replace hxx := hxx.below hb
      replace hxy := hxy.below hb
      replace hx := hx.below hb
      replace hyx := hyx.below hb
      replace hyy := hyy.below hb
      replace hy := hy.below hb
      replace hux := hux.below hb
      replace huy := huy.below hb
      replace hu := hu.below hb
      replace hvx := hvx.below hb
      replace hvy := hvy.below hb
      replace hv := hv.below hb
      replace hsx := hsx.below hb
      replace hsy := hsy.below hb
      replace hs := hs.below hb
      replace hbf := hbf.trans (hb.mono hbf.size)
      clear hb
      go_wp2_with fail
      go_ret
      exact ⟨rfl, hbf⟩
  have hde : dist a = qround a - a := by unfold dist; rw [if_neg hn]
  have HDE := Lib.hid hde
  have HDH := Lib.hid hdh
  have HDL : Hid (qround a - a ≤ half) := Lib.hid (by rw [← hde]; exact hdl)
  have HN : Hid (decide (qround a - a < 0) = false) := Lib.hid (decide_eq_false hn)
  clear hde hdh hdl hn
  have hqD : QB (qround a - a) 500 := hqd.mono (by decide)
  have ed0 := hbd.c0
  have ed1 := hbd.c1
  have ed2 := hbd.c2
  go_wp2_with fail
  refine (neg_b _ _ false _ hd HN).mono ?_
  rintro e w12 ⟨rfl, hb⟩
  clear ed0 ed1 ed2
  replace hba := hba.kept hb
  replace hbh := hbh.kept hb
  replace hbr := hbr.kept hb
  replace hbd := hbd.kept hb
  replace hax := hax.below hb
  replace hay := hay.below hb
  replace ha := ha.below hb
  replace ho := ho.below hb
  replace ht := ht.below hb
  replace hhx := hhx.below hb
  replace hhy := hhy.below hb
  replace hh := hh.below hb
  replace hrx := hrx.below hb
  replace hry := hry.below hb
  replace hr := hr.below hb
  replace hdx := hdx.below hb
  replace hdy := hdy.below hb
  replace hd := hd.below hb
  replace hbf := hbf.trans (hb.mono hbf.size)
  clear hb
  have ea0 := hba.c0
  have ea1 := hba.c1
  have ea2 := hba.c2
  go_wp2_with fail
  refine (qsub_any _ _ 0 a 1 200 _ (QIs.zero _) ha hq0 hqa (by decide)).mono ?_
  rintro e w13 hq9
  obtain ⟨mB, mxO, mxL, mxC, myO, myL, myC, rfl, hS, hmx, hmy, hm, hb⟩ := hq9.out
  have HmS := Lib.hid hS; clear hS
  clear ea0 ea1 ea2
  replace hba := hba.kept hb
  replace hbh := hbh.kept hb
  replace hbr := hbr.kept hb
  replace hbd := hbd.kept hb
  replace hax := hax.below hb
  replace hay := hay.below hb
  replace ha := ha.below hb
  replace ho := ho.below hb
  replace ht := ht.below hb
  replace hhx := hhx.below hb
  replace hhy := hhy.below hb
  replace hh := hh.below hb
  replace hrx := hrx.below hb
  replace hry := hry.below hb
  replace hr := hr.below hb
  replace hdx := hdx.below hb
  replace hdy := hdy.below hb
  replace hd := hd.below hb
  replace hbf := hbf.trans (hb.mono hbf.size)
  clear hb
  obtain ⟨w14, hwE⟩ : ∃ W, W = (w13.alloc (.cells #[.bool mB, .slice mxO mxL mxC, .slice myO myL myC] 27)) := ⟨_, rfl⟩
  have hb : Below w13.heap.size w13 w14 := by rw [hwE]; exact ((Below.refl _ w13).alloc (Nat.le_refl _) _)
  obtain ⟨pm, hpm⟩ : ∃ p, p = w13.heap.size := ⟨_, rfl⟩
  have hbm : Box3 w14 pm (Value.bool mB) (Value.slice mxO mxL mxC) (Value.slice myO myL myC) := by rw [hwE, hpm]; exact ⟨by go_simp, by go_simp, by go_simp, by go_simp, by go_simp, by go_simp⟩
  replace HP : Hid (w.heap.size ≤ pa ∧ pa < ph ∧ ph < pr ∧ pr < pd ∧ pd < pm) := Lib.hid (by have h1 := HP.out; have h9 := hbf.size; have h2d := hbd.lt; omega)
  have HW := Lib.hid hwE; clear hwE
  go_upto_region 12 with fail
  rw [← HW.out, ← hpm]
  clear hpm HW
  replace hba := hba.kept hb
  replace hbh := hbh.kept hb
  replace hbr := hbr.kept hb
  replace hbd := hbd.kept hb
  replace hax := hax.below hb
  replace hay := hay.below hb
  replace ha := ha.below hb
  replace ho := ho.below hb
  replace ht := ht.below hb
  replace hhx := hhx.below hb
  replace hhy := hhy.below hb
  replace hh := hh.below hb
  replace hrx := hrx.below hb
  replace hry := hry.below hb
  replace hr := hr.below hb
  replace hdx := hdx.below hb
  replace hdy := hdy.below hb
  replace hd := hd.below hb
  replace hmx := hmx.below hb
  replace hmy := hmy.below hb
  replace hm := hm.below hb
  replace hbf := hbf.trans (hb.mono hbf.size)
  clear hb
  have HK1 : Hid (qround (0 - a) = 0 - qround a) := Lib.hid (by rw [qneg_zero_sub, qneg_zero_sub, qround_neg])
  have HK2 : Hid (((0 - a).floor : Rat) = 0 - -((-a).floor : Rat)) := Lib.hid (by rw [qneg_zero_sub, qneg_zero_sub, Rat.neg_neg])
  have hcl : QB (-((-a).floor : Rat)) 201 := hqa.neg.floor.neg
  have HWH : Hid ((qround a).den = 1) := Lib.hid (qround_den a)
  obtain ⟨k9, hk9⟩ : ∃ k, k = qcmp (qround a - a) half := ⟨_, rfl⟩
  have hkle : k9 ≤ 0 := by rw [hk9]; exact qcmp_le HDL.out
  have hkn : ¬ 0 < k9 := by omega
  have HK9 := Lib.hid hk9.symm; clear hk9
  refine wp_region_seq (S := fun w' => Box3 w' pa (Value.bool aB) (Value.slice axO axL axC) (Value.slice ayO ayL ayC) ∧ Box3 w' ph (Value.bool hB) (Value.slice hxO hxL hxC) (Value.slice hyO hyL hyC) ∧ Box3 w' pr (Value.bool rB) (Value.slice rxO rxL rxC) (Value.slice ryO ryL ryC) ∧ Box3 w' pd (Value.bool dB) (Value.slice dxO dxL dxC) (Value.slice dyO dyL dyC) ∧ Box3 w' pm (Value.bool mB) (Value.slice mxO mxL mxC) (Value.slice myO myL myC)) [(true, 0), (false, 1), (true, 2), (true, 3), (true, 4), (true, 5), (false, 6), (true, 7), (true, 8), (true, 9), (true, 10), (true, 12), (true, 13), (false, 11), (false, 14), (false, 15), (true, 16), (true, 17), (true, 18), (true, 19), (true, 21), (true, 22), (false, 20), (false, 23), (false, 24), (false, 25), (true, 26), (true, 27)] (by kernel_rfl) (by kernel_rfl) (by kernel_rfl) (by kernel_rfl) (by kernel_rfl) (fun d _ _ _ _ h => by cases d <;> exact h) ⟨hba.drew, hbh.drew, hbr.drew, hbd.drew, hbm.drew⟩ (fun _ => ?_)
  simp only [pickOps, List.append_eq, List.cons_append, List.nil_append, List.getElem?_toArray, List.getElem?_cons_succ, List.getElem?_cons_zero]
  have hb : Below w14.heap.size w14 w14.drew := (Below.refl _ _).drew
  generalize w14.drew = w15 at hb ⊢
  replace hba := hba.kept hb
  replace hbh := hbh.kept hb
  replace hbr := hbr.kept hb
  replace hbd := hbd.kept hb
  replace hbm := hbm.kept hb
  replace hax := hax.below hb
  replace hay := hay.below hb
  replace ha := ha.below hb
  replace ho := ho.below hb
  replace ht := ht.below hb
  replace hhx := hhx.below hb
  replace hhy := hhy.below hb
  replace hh := hh.below hb
  replace hrx := hrx.below hb
  replace hry := hry.below hb
  replace hr := hr.below hb
  replace hdx := hdx.below hb
  replace hdy := hdy.below hb
  replace hd := hd.below hb
  replace hmx := hmx.below hb
  replace hmy := hmy.below hb
  replace hm := hm.below hb
  replace hbf := hbf.trans (hb.mono hbf.size)
  clear hb
  repeat (first | (refine seq_take (v := ?_) (by rfl) ?_ ?_; rotate_left; (· intro w hSw; (try dsimp only at hSw); obtain ⟨⟨ea0, ea1, ea2, _, _, _⟩, ⟨eh0, eh1, eh2, _, _, _⟩, ⟨er0, er1, er2, _, _, _⟩, ⟨ed0, ed1, ed2, _, _, _⟩, ⟨em0, em1, em2, _, _, _⟩⟩ := hSw; go_simp; all_goals with_reducible rfl); (try simp only [Act.put, List.setIfInBounds_toArray, List.set_cons_zero, List.set_cons_succ])) | (refine seq_leave (by rfl) ?_; (try simp only [Act.put, List.setIfInBounds_toArray, List.set_cons_zero, List.set_cons_succ])))
  refine seq_step (by rfl) (fun K hK => ?_)
  go_simp
  go_at_call 27
  (with_reducible refine (whole_yes _ _ _ hr HWH).mono ?_)
  rintro e w16 ⟨rfl, hb⟩
  replace hba := hba.kept hb
  replace hbh := hbh.kept hb
  replace hbr := hbr.kept hb
  replace hbd := hbd.kept hb
  replace hbm := hbm.kept hb
  replace hax := hax.below hb
  replace hay := hay.below hb
  replace ha := ha.below hb
  replace ho := ho.below hb
  replace ht := ht.below hb
  replace hhx := hhx.below hb
  replace hhy := hhy.below hb
  replace hh := hh.below hb
  replace hrx := hrx.below hb
  replace hry := hry.below hb
  replace hr := hr.below hb
  replace hdx := hdx.below hb
  replace hdy := hdy.below hb
  replace hd := hd.below hb
  replace hmx := hmx.below hb
  replace hmy := hmy.below hb
  replace hm := hm.below hb
  replace hbf := hbf.trans (hb.mono hbf.size)
  clear hb
  first | refine hK.out _ _ ⟨hba, hbh, hbr, hbd, hbm⟩ (fun _ => ?_) | (go_wp2_with fail; refine hK.out _ _ ⟨hba, hbh, hbr, hbd, hbm⟩ (fun _ => ?_))
  clear hK K
  (try simp only [Act.put, List.setIfInBounds_toArray, List.set_cons_zero, List.set_cons_succ])
  repeat (first | (refine seq_take (v := ?_) (by rfl) ?_ ?_; rotate_left; (· intro w hSw; (try dsimp only at hSw); obtain ⟨⟨ea0, ea1, ea2, _, _, _⟩, ⟨eh0, eh1, eh2, _, _, _⟩, ⟨er0, er1, er2, _, _, _⟩, ⟨ed0, ed1, ed2, _, _, _⟩, ⟨em0, em1, em2, _, _, _⟩⟩ := hSw; go_simp; all_goals with_reducible rfl); (try simp only [Act.put, List.setIfInBounds_toArray, List.set_cons_zero, List.set_cons_succ])) | (refine seq_leave (by rfl) ?_; (try simp only [Act.put, List.setIfInBounds_toArray, List.set_cons_zero, List.set_cons_succ])))
  refine seq_step (by rfl) (fun K hK => ?_)
  go_simp
  go_at_call 28
  (with_reducible refine (cmp_c _ _ (qround a - a) half k9 500 1 _ hd hh hqD hqh (by decide) HK9).mono ?_)
  rintro e w17 ⟨rfl, hb⟩
  replace hba := hba.kept hb
  replace hbh := hbh.kept hb
  replace hbr := hbr.kept hb
  replace hbd := hbd.kept hb
  replace hbm := hbm.kept hb
  replace hax := hax.below hb
  replace hay := hay.below hb
  replace ha := ha.below hb
  replace ho := ho.below hb
  replace ht := ht.below hb
  replace hhx := hhx.below hb
  replace hhy := hhy.below hb
  replace hh := hh.below hb
  replace hrx := hrx.below hb
  replace hry := hry.below hb
  replace hr := hr.below hb
  replace hdx := hdx.below hb
  replace hdy := hdy.below hb
  replace hd := hd.below hb
  replace hmx := hmx.below hb
  replace hmy := hmy.below hb
  replace hm := hm.below hb
  replace hbf := hbf.trans (hb.mono hbf.size)
  clear hb
  first | refine hK.out _ _ ⟨hba, hbh, hbr, hbd, hbm⟩ (fun _ => ?_) | (go_wp2_with fail; refine hK.out _ _ ⟨hba, hbh, hbr, hbd, hbm⟩ (fun _ => ?_))
  clear hK K
  (try simp only [Act.put, List.setIfInBounds_toArray, List.set_cons_zero, List.set_cons_succ])
  repeat (first | (refine seq_take (v := ?_) (by rfl) ?_ ?_; rotate_left; (· intro w hSw; (try dsimp only at hSw); obtain ⟨⟨ea0, ea1, ea2, _, _, _⟩, ⟨eh0, eh1, eh2, _, _, _⟩, ⟨er0, er1, er2, _, _, _⟩, ⟨ed0, ed1, ed2, _, _, _⟩, ⟨em0, em1, em2, _, _, _⟩⟩ := hSw; go_simp; all_goals with_reducible rfl); (try simp only [Act.put, List.setIfInBounds_toArray, List.set_cons_zero, List.set_cons_succ])) | (refine seq_leave (by rfl) ?_; (try simp only [Act.put, List.setIfInBounds_toArray, List.set_cons_zero, List.set_cons_succ])))
  refine seq_step (by rfl) (fun K hK => ?_)
  go_simp
  go_at_call 24
  (with_reducible refine (round_any _ (0 - a) 202 _ hm hqm (by decide)).mono ?_)
  rintro e w18 hq9
  obtain ⟨xB, xxO, xxL, xxC, xyO, xyL, xyC, rfl, hS, hxx, hxy, hx, hb⟩ := hq9.out
  have HxS := Lib.hid hS; clear hS
  replace hba := hba.kept hb
  replace hbh := hbh.kept hb
  replace hbr := hbr.kept hb
  replace hbd := hbd.kept hb
  replace hbm := hbm.kept hb
  replace hax := hax.below hb
  replace hay := hay.below hb
  replace ha := ha.below hb
  replace ho := ho.below hb
  replace ht := ht.below hb
  replace hhx := hhx.below hb
  replace hhy := hhy.below hb
  replace hh := hh.below hb
  replace hrx := hrx.below hb
  replace hry := hry.below hb
  replace hr := hr.below hb
  replace hdx := hdx.below hb
  replace hdy := hdy.below hb
  replace hd := hd.below hb
  replace hmx := hmx.below hb
  replace hmy := hmy.below hb
  replace hm := hm.below hb
  replace hbf := hbf.trans (hb.mono hbf.size)
  clear hb
  first | refine hK.out _ _ ⟨hba, hbh, hbr, hbd, hbm⟩ (fun _ => ?_) | (go_wp2_with fail; refine hK.out _ _ ⟨hba, hbh, hbr, hbd, hbm⟩ (fun _ => ?_))
  clear hK K
  (try simp only [Act.put, List.setIfInBounds_toArray, List.set_cons_zero, List.set_cons_succ])
  refine seq_step (by rfl) (fun K hK => ?_)
  go_simp
  go_at_call 25
  (with_reducible refine (qsub_any _ _ 0 (qround a) 1 202 _ (QIs.zero _) hr hq0 hqr (by decide)).mono ?_)
  rintro e w19 hq9
  obtain ⟨yB, yxO, yxL, yxC, yyO, yyL, yyC, rfl, hS, hyx, hyy, hy, hb⟩ := hq9.out
  have HyS := Lib.hid hS; clear hS
  replace hba := hba.kept hb
  replace hbh := hbh.kept hb
  replace hbr := hbr.kept hb
  replace hbd := hbd.kept hb
  replace hbm := hbm.kept hb
  replace hax := hax.below hb
  replace hay := hay.below hb
  replace ha := ha.below hb
  replace ho := ho.below hb
  replace ht := ht.below hb
  replace hhx := hhx.below hb
  replace hhy := hhy.below hb
  replace hh := hh.below hb
  replace hrx := hrx.below hb
  replace hry := hry.below hb
  replace hr := hr.below hb
  replace hdx := hdx.below hb
  replace hdy := hdy.below hb
  replace hd := hd.below hb
  replace hmx := hmx.below hb
  replace hmy := hmy.below hb
  replace hm := hm.below hb
  replace hxx := hxx.below hb
  replace hxy := hxy.below hb
  replace hx := hx.below hb
  replace hbf := hbf.trans (hb.mono hbf.size)
  clear hb
  first | refine hK.out _ _ ⟨hba, hbh, hbr, hbd, hbm⟩ (fun _ => ?_) | (go_wp2_with fail; refine hK.out _ _ ⟨hba, hbh, hbr, hbd, hbm⟩ (fun _ => ?_))
  clear hK K
  (try simp only [Act.put, List.setIfInBounds_toArray, List.set_cons_zero, List.set_cons_succ])
  refine seq_step (by rfl) (fun K hK => ?_)
  go_simp
  go_at_call 20
  (with_reducible refine (same_eq _ _ _ _ 204 204 _ hx hy hqm.round (hq0.sub hqr) (by decide) HK1).mono ?_)
  rintro e w20 ⟨rfl, hb⟩
  replace hba := hba.kept hb
  replace hbh := hbh.kept hb
  replace hbr := hbr.kept hb
  replace hbd := hbd.kept hb
  replace hbm := hbm.kept hb
  replace hax := hax.below hb
  replace hay := hay.below hb
  replace ha := ha.below hb
  replace ho := ho.below hb
  replace ht := ht.below hb
  replace hhx := hhx.below hb
  replace hhy := hhy.below hb
  replace hh := hh.below hb
  replace hrx := hrx.below hb
  replace hry := hry.below hb
  replace hr := hr.below hb
  replace hdx := hdx.below hb
  replace hdy := hdy.below hb
  replace hd := hd.below hb
  replace hmx := hmx.below hb
  replace hmy := hmy.below hb
  replace hm := hm.below hb
  replace hxx := hxx.below hb
  replace hxy := hxy.below hb
  replace hx := hx.below hb
  replace hyx := hyx.below hb
  replace hyy := hyy.below hb
  replace hy := hy.below hb
  replace hbf := hbf.trans (hb.mono hbf.size)
  clear hb
  first | refine hK.out _ _ ⟨hba, hbh, hbr, hbd, hbm⟩ (fun _ => ?_) | (go_wp2_with fail; refine hK.out _ _ ⟨hba, hbh, hbr, hbd, hbm⟩ (fun _ => ?_))
  clear hK K
  (try simp only [Act.put, List.setIfInBounds_toArray, List.set_cons_zero, List.set_cons_succ])
  repeat (first | (refine seq_take (v := ?_) (by rfl) ?_ ?_; rotate_left; (· intro w hSw; (try dsimp only at hSw); obtain ⟨⟨ea0, ea1, ea2, _, _, _⟩, ⟨eh0, eh1, eh2, _, _, _⟩, ⟨er0, er1, er2, _, _, _⟩, ⟨ed0, ed1, ed2, _, _, _⟩, ⟨em0, em1, em2, _, _, _⟩⟩ := hSw; go_simp; all_goals with_reducible rfl); (try simp only [Act.put, List.setIfInBounds_toArray, List.set_cons_zero, List.set_cons_succ])) | (refine seq_leave (by rfl) ?_; (try simp only [Act.put, List.setIfInBounds_toArray, List.set_cons_zero, List.set_cons_succ])))
  refine seq_step (by rfl) (fun K hK => ?_)
  go_simp
  go_at_call 29
  (with_reducible refine (floor_any _ (0 - a) 202 _ hm hqm (by decide) (by decide)).mono ?_)
  rintro e w21 hq9
  obtain ⟨uB, uxO, uxL, uxC, uyO, uyL, uyC, rfl, hS, hux, huy, hu, hb⟩ := hq9.out
  have HuS := Lib.hid hS; clear hS
  replace hba := hba.kept hb
  replace hbh := hbh.kept hb
  replace hbr := hbr.kept hb
  replace hbd := hbd.kept hb
  replace hbm := hbm.kept hb
  replace hax := hax.below hb
  replace hay := hay.below hb
  replace ha := ha.below hb
  replace ho := ho.below hb
  replace ht := ht.below hb
  replace hhx := hhx.below hb
  replace hhy := hhy.below hb
  replace hh := hh.below hb
  replace hrx := hrx.below hb
  replace hry := hry.below hb
  replace hr := hr.below hb
  replace hdx := hdx.below hb
  replace hdy := hdy.below hb
  replace hd := hd.below hb
  replace hmx := hmx.below hb
  replace hmy := hmy.below hb
  replace hm := hm.below hb
  replace hxx := hxx.below hb
  replace hxy := hxy.below hb
  replace hx := hx.below hb
  replace hyx := hyx.below hb
  replace hyy := hyy.below hb
  replace hy := hy.below hb
  replace hbf := hbf.trans (hb.mono hbf.size)
  clear hb
  first | refine hK.out _ _ ⟨hba, hbh, hbr, hbd, hbm⟩ (fun _ => ?_) | (go_wp2_with fail; refine hK.out _ _ ⟨hba, hbh, hbr, hbd, hbm⟩ (fun _ => ?_))
  clear hK K
  (try simp only [Act.put, List.setIfInBounds_toArray, List.set_cons_zero, List.set_cons_succ])
  refine seq_step (by rfl) (fun K hK => ?_)
  go_simp
  go_at_call 30
  (with_reducible refine (ceil_any _ a 200 _ ha hqa (by decide) (by decide)).mono ?_)
  rintro e w22 hq9
  obtain ⟨vB, vxO, vxL, vxC, vyO, vyL, vyC, rfl, hS, hvx, hvy, hv, hb⟩ := hq9.out
  have HvS := Lib.hid hS; clear hS
  replace hba := hba.kept hb
  replace hbh := hbh.kept hb
  replace hbr := hbr.kept hb
  replace hbd := hbd.kept hb
  replace hbm := hbm.kept hb
  replace hax := hax.below hb
  replace hay := hay.below hb
  replace ha := ha.below hb
  replace ho := ho.below hb
  replace ht := ht.below hb
  replace hhx := hhx.below hb
  replace hhy := hhy.below hb
  replace hh := hh.below hb
  replace hrx := hrx.below hb
  replace hry := hry.below hb
  replace hr := hr.below hb
  replace hdx := hdx.below hb
  replace hdy := hdy.below hb
  replace hd := hd.below hb
  replace hmx := hmx.below hb
  replace hmy := hmy.below hb
  replace hm := hm.below hb
  replace hxx := hxx.below hb
  replace hxy := hxy.below hb
  replace hx := hx.below hb
  replace hyx := hyx.below hb
  replace hyy := hyy.below hb
  replace hy := hy.below hb
  replace hux := hux.below hb
  replace huy := huy.below hb
  replace hu := hu.below hb
  replace hbf := hbf.trans (hb.mono hbf.size)
  clear hb
  first | refine hK.out _ _ ⟨hba, hbh, hbr, hbd, hbm⟩ (fun _ => ?_) | (go_wp2_with fail; refine hK.out _ _ ⟨hba, hbh, hbr, hbd, hbm⟩ (fun _ => ?_))
  clear hK K
  (try simp only [Act.put, List.setIfInBounds_toArray, List.set_cons_zero, List.set_cons_succ])
  refine seq_step (by rfl) (fun K hK => ?_)
  go_simp
  go_at_call 25
  (with_reducible refine (qsub_any _ _ 0 _ 1 201 _ (QIs.zero _) hv hq0 hcl (by decide)).mono ?_)
  rintro e w23 hq9
  obtain ⟨sB, sxO, sxL, sxC, syO, syL, syC, rfl, hS, hsx, hsy, hs, hb⟩ := hq9.out
  have HsS := Lib.hid hS; clear hS
  replace hba := hba.kept hb
  replace hbh := hbh.kept hb
  replace hbr := hbr.kept hb
  replace hbd := hbd.kept hb
  replace hbm := hbm.kept hb
  replace hax := hax.below hb
  replace hay := hay.below hb
  replace ha := ha.below hb
  replace ho := ho.below hb
  replace ht := ht.below hb
  replace hhx := hhx.below hb
  replace hhy := hhy.below hb
  replace hh := hh.below hb
  replace hrx := hrx.below hb
  replace hry := hry.below hb
  replace hr := hr.below hb
  replace hdx := hdx.below hb
  replace hdy := hdy.below hb
  replace hd := hd.below hb
  replace hmx := hmx.below hb
  replace hmy := hmy.below hb
  replace hm := hm.below hb
  replace hxx := hxx.below hb
  replace hxy := hxy.below hb
  replace hx := hx.below hb
  replace hyx := hyx.below hb
  replace hyy := hyy.below hb
  replace hy := hy.below hb
  replace hux := hux.below hb
  replace huy := huy.below hb
  replace hu := hu.below hb
  replace hvx := hvx.below hb
  replace hvy := hvy.below hb
  replace hv := hv.below hb
  replace hbf := hbf.trans (hb.mono hbf.size)
  clear hb
  first | refine hK.out _ _ ⟨hba, hbh, hbr, hbd, hbm⟩ (fun _ => ?_) | (go_wp2_with fail; refine hK.out _ _ ⟨hba, hbh, hbr, hbd, hbm⟩ (fun _ => ?_))
  clear hK K
  (try simp only [Act.put, List.setIfInBounds_toArray, List.set_cons_zero, List.set_cons_succ])
  refine seq_step (by rfl) (fun K hK => ?_)
  go_simp
  go_at_call 20
  (with_reducible refine (same_eq _ _ _ _ 203 203 _ hu hs hqm.floor (hq0.sub hcl) (by decide) HK2).mono ?_)
  rintro e w24 ⟨rfl, hb⟩
  replace hba := hba.kept hb
  replace hbh := hbh.kept hb
  replace hbr := hbr.kept hb
  replace hbd := hbd.kept hb
  replace hbm := hbm.kept hb
  replace hax := hax.below hb
  replace hay := hay.below hb
  replace ha := ha.below hb
  replace ho := ho.below hb
  replace ht := ht.below hb
  replace hhx := hhx.below hb
  replace hhy := hhy.below hb
  replace hh := hh.below hb
  replace hrx := hrx.below hb
  replace hry := hry.below hb
  replace hr := hr.below hb
  replace hdx := hdx.below hb
  replace hdy := hdy.below hb
  replace hd := hd.below hb
  replace hmx := hmx.below hb
  replace hmy := hmy.below hb
  replace hm := hm.below hb
  replace hxx := hxx.below hb
  replace hxy := hxy.below hb
  replace hx := hx.below hb
  replace hyx := hyx.below hb
  replace hyy := hyy.below hb
  replace hy := hy.below hb
  replace hux := hux.below hb
  replace huy := huy.below hb
  replace hu := hu.below hb
  replace hvx := hvx.below hb
  replace hvy := hvy.below hb
  replace hv := hv.below hb
  replace hsx := hsx.below hb
  replace hsy := hsy.below hb
  replace hs := hs.below hb
  replace hbf := hbf.trans (hb.mono hbf.size)
  clear hb
  first | refine hK.out _ _ ⟨hba, hbh, hbr, hbd, hbm⟩ (fun _ => ?_) | (go_wp2_with fail; refine hK.out _ _ ⟨hba, hbh, hbr, hbd, hbm⟩ (fun _ => ?_))
  clear hK K
  (try simp only [Act.put, List.setIfInBounds_toArray, List.set_cons_zero, List.set_cons_succ])
  repeat (first | (refine seq_take (v := ?_) (by rfl) ?_ ?_; rotate_left; (· intro w hSw; (try dsimp only at hSw); obtain ⟨⟨ea0, ea1, ea2, _, _, _⟩, ⟨eh0, eh1, eh2, _, _, _⟩, ⟨er0, er1, er2, _, _, _⟩, ⟨ed0, ed1, ed2, _, _, _⟩, ⟨em0, em1, em2, _, _, _⟩⟩ := hSw; go_simp; all_goals with_reducible rfl); (try simp only [Act.put, List.setIfInBounds_toArray, List.set_cons_zero, List.set_cons_succ])) | (refine seq_leave (by rfl) ?_; (try simp only [Act.put, List.setIfInBounds_toArray, List.set_cons_zero, List.set_cons_succ])))
  refine seq_end ?_
  go_upto_region 14 with fail
  by_cases hsm : qround a - a = half
  rotate_left
  · have HSM : Hid (decide (qround a - a = half) = false) := Lib.hid (decide_eq_false hsm)
    have ed0 := hbd.c0
    have ed1 := hbd.c1
    have ed2 := hbd.c2
    have eh0 := hbh.c0
    have eh1 := hbh.c1
    have eh2 := hbh.c2
    go_wp2_with fail
    refine (same_b _ _ (qround a - a) half false 500 1 _ hd hh hqD hqh (by decide) HSM).mono ?_
    rintro e w25 ⟨rfl, hb⟩
    clear ed0 ed1 ed2 eh0 eh1 eh2
    replace hba := hba.kept hb
    replace hbh := hbh.kept hb
    replace hbr := hbr.kept hb
    replace hbd := hbd.kept hb
    replace hbm := hbm.kept hb
    replace hax := hax.below hb
    replace hay := hay.below hb
    replace ha := ha.below hb
    replace ho := ho.below hb
    replace ht := ht.below hb
    replace hhx := hhx.below hb
    replace hhy := hhy.below hb
    replace hh := hh.below hb
    replace hrx := hrx.below hb
    replace hry := hry.below hb
    replace hr := hr.below hb
    replace hdx := hdx.below hb
    replace hdy := hdy.below hb
    replace hd := hd.below hb
    replace hmx := hmx.below hb
    replace hmy := hmy.below hb
    replace hm := hm.below hb
    replace hxx := hxx.below hb
    replace hxy := hxy.below hb
    replace hx := hx.below hb
    replace hyx := hyx.below hb
    replace hyy := hyy.below hb
    replace hy := hy.below hb
    replace hux := hux.below hb
    replace huy := huy.below hb
    replace hu := hu.below hb
    replace hvx := hvx.below hb
    replace hvy := hvy.below hb
    replace hv := hv.below hb
    replace hsx := hsx.below hb
    replace hsy := hsy.below hb
    replace hs := hs.below hb
    replace hbf := hbf.trans (hb.mono hbf.size)
    clear hb
    go_wp2_with fail
    go_ret
    exact ⟨rfl, hbf⟩
  have HSM : Hid (decide (qround a - a = half) = true) := Lib.hid (decide_eq_true hsm)
  have hdd := HDH.out (HDE.out.trans hsm)
  have HDD := Lib.hid hdd; clear hdd hsm
  have ed0 := hbd.c0
  have ed1 := hbd.c1
  have ed2 := hbd.c2
  have eh0 := hbh.c0
  have eh1 := hbh.c1
  have eh2 := hbh.c2
  go_wp2_with fail
  refine (same_b _ _ (qround a - a) half true 500 1 _ hd hh hqD hqh (by decide) HSM).mono ?_
  rintro e w25 ⟨rfl, hb⟩
  clear ed0 ed1 ed2 eh0 eh1 eh2
  replace hba := hba.kept hb
  replace hbh := hbh.kept hb
  replace hbr := hbr.kept hb
  replace hbd := hbd.kept hb
  replace hbm := hbm.kept hb
  replace hax := hax.below hb
  replace hay := hay.below hb
  replace ha := ha.below hb
  replace ho := ho.below hb
  replace ht := ht.below hb
  replace hhx := hhx.below hb
  replace hhy := hhy.below hb
  replace hh := hh.below hb
  replace hrx := hrx.below hb
  replace hry := hry.below hb
  replace hr := hr.below hb
  replace hdx := hdx.below hb
  replace hdy := hdy.below hb
  replace hd := hd.below hb
  replace hmx := hmx.below hb
  replace hmy := hmy.below hb
  replace hm := hm.below hb
  replace hxx := hxx.below hb
  replace hxy := hxy.below hb
  replace hx := hx.below hb
  replace hyx := hyx.below hb
  replace hyy := hyy.below hb
  replace hy := hy.below hb
  replace hux := hux.below hb
  replace huy := huy.below hb
  replace hu := hu.below hb
  replace hvx := hvx.below hb
  replace hvy := hvy.below hb
  replace hv := hv.below hb
  replace hsx := hsx.below hb
  replace hsy := hsy.below hb
  replace hs := hs.below hb
  replace hbf := hbf.trans (hb.mono hbf.size)
  clear hb
  cases hs : decide (a < 0)
  · skip
    have HS := Lib.hid hs
    have HK : Hid (qcmp (qround a) a = 1) := Lib.hid (qcmp_gt (HDD.out.2 hs))
    clear hs
    have ea0 := hba.c0
    have ea1 := hba.c1
    have ea2 := hba.c2
    go_wp2_with fail
    refine (neg_b _ a false _ ha HS).mono ?_
    rintro e w26 ⟨rfl, hb⟩
    clear ea0 ea1 ea2
    replace hba := hba.kept hb
    replace hbh := hbh.kept hb
    replace hbr := hbr.kept hb
    replace hbd := hbd.kept hb
    replace hbm := hbm.kept hb
    replace hax := hax.below hb
    replace hay := hay.below hb
    replace ha := ha.below hb
    replace ho := ho.below hb
    replace ht := ht.below hb
    replace hhx := hhx.below hb
    replace hhy := hhy.below hb
    replace hh := hh.below hb
    replace hrx := hrx.below hb
    replace hry := hry.below hb
    replace hr := hr.below hb
    replace hdx := hdx.below hb
    replace hdy := hdy.below hb
    replace hd := hd.below hb
    replace hmx := hmx.below hb
    replace hmy := hmy.below hb
    replace hm := hm.below hb
    replace hxx := hxx.below hb
    replace hxy := hxy.below hb
    replace hx := hx.below hb
    replace hyx := hyx.below hb
    replace hyy := hyy.below hb
    replace hy := hy.below hb
    replace hux := hux.below hb
    replace huy := huy.below hb
    replace hu := hu.below hb
    replace hvx := hvx.below hb
    replace hvy := hvy.below hb
    replace hv := hv.below hb
    replace hsx := hsx.below hb
    replace hsy := hsy.below hb
    replace hs := hs.below hb
    replace hbf := hbf.trans (hb.mono hbf.size)
    clear hb
    have ea0 := hba.c0
    have ea1 := hba.c1
    have ea2 := hba.c2
    go_wp2_with fail
    refine (neg_b _ a false _ ha HS).mono ?_
    rintro e w27 ⟨rfl, hb⟩
    clear ea0 ea1 ea2
    replace hba := hba.kept hb
    replace hbh := hbh.kept hb
    replace hbr := hbr.kept hb
    replace hbd := hbd.kept hb
    replace hbm := hbm.kept hb
    replace hax := hax.below hb
    replace hay := hay.below hb
    replace ha := ha.below hb
    replace ho := ho.below hb
    replace ht := ht.below hb
    replace hhx := hhx.below hb
    replace hhy := hhy.below hb
    replace hh := hh.below hb
    replace hrx := hrx.below hb
    replace hry := hry.below hb
    replace hr := hr.below hb
    replace hdx := hdx.below hb
    replace hdy := hdy.below hb
    replace hd := hd.below hb
    replace hmx := hmx.below hb
    replace hmy := hmy.below hb
    replace hm := hm.below hb
    replace hxx := hxx.below hb
    replace hxy := hxy.below hb
    replace hx := hx.below hb
    replace hyx := hyx.below hb
    replace hyy := hyy.below hb
    replace hy := hy.below hb
    replace hux := hux.below hb
    replace huy := huy.below hb
    replace hu := hu.below hb
    replace hvx := hvx.below hb
    replace hvy := hvy.below hb
    replace hv := hv.below hb
    replace hsx := hsx.below hb
    replace hsy := hsy.below hb
    replace hs := hs.below hb
    replace hbf := hbf.trans (hb.mono hbf.size)
    clear hb
    have ea0 := hba.c0
    have ea1 := hba.c1
    have ea2 := hba.c2
    have er0 := hbr.c0
    have er1 := hbr.c1
    have er2 := hbr.c2
    go_wp2_with fail
    refine (cmp_c _ _ (qround a) a 1 202 200 _ hr ha hqr hqa (by decide) HK).mono ?_
    rintro e w28 ⟨rfl, hb⟩
    clear ea0 ea1 ea2 er0 er1 er2
    replace hba := hba.kept hb
    replace hbh := hbh.kept hb
    replace hbr := hbr.kept hb
    replace hbd := hbd.kept hb
    replace hbm := hbm.kept hb
    replace hax := hax.below hb
    replace hay := hay.below hb
    replace ha := ha.below hb
    replace ho := ho.below hb
    replace ht := ht.below hb
    replace hhx := hhx.below hb
    replace hhy := hhy.below hb
    replace hh := hh.below hb
    replace hrx := hrx.below hb
    replace hry := hry.below hb
    replace hr := hr.below hb
    replace hdx := hdx.below hb
    replace hdy := hdy.below hb
    replace hd := hd.below hb
    replace hmx := hmx.below hb
    replace hmy := hmy.below hb
    replace hm := hm.below hb
    replace hxx := hxx.below hb
    replace hxy := hxy.below hb
    replace hx := hx.below hb
    replace hyx := hyx.below hb
    replace hyy := hyy.below hb
    replace hy := hy.below hb
    replace hux := hux.below hb
    replace huy := huy.below hb
    replace hu := hu.below hb
    replace hvx := hvx.below hb
    replace hvy := hvy.below hb
    replace hv := hv.below hb
    replace hsx := hsx.below hb
    replace hsy := hsy.below hb
    replace hs := hs.below hb
    replace hbf := hbf.trans (hb.mono hbf.size)
    clear hb
    go_wp2_with fail
    go_ret
    exact ⟨rfl, hbf⟩
  · skip
    have HS := Lib.hid hs
    have HK : Hid (qcmp (qround a) a = -1) := Lib.hid (qcmp_lt (HDD.out.1 hs))
    clear hs
    have ea0 := hba.c0
    have ea1 := hba.c1
    have ea2 := hba.c2
    go_wp2_with fail
    refine (neg_b _ a true _ ha HS).mono ?_
    rintro e w26 ⟨rfl, hb⟩
    clear ea0 ea1 ea2
    replace hba := hba.kept hb
    replace hbh := hbh.kept hb
    replace hbr := hbr.kept hb
    replace hbd := hbd.kept hb
    replace hbm := hbm.kept hb
    replace hax := hax.below hb
    replace hay := hay.below hb
    replace ha := ha.below hb
    replace ho := ho.below hb
    replace ht := ht.below hb
    replace hhx := hhx.below hb
    replace hhy := hhy.below hb
    replace hh := hh.below hb
    replace hrx := hrx.below hb
    replace hry := hry.below hb
    replace hr := hr.below hb
    replace hdx := hdx.below hb
    replace hdy := hdy.below hb
    replace hd := hd.below hb
    replace hmx := hmx.below hb
    replace hmy := hmy.below hb
    replace hm := hm.below hb
    replace hxx := hxx.below hb
    replace hxy := hxy.below hb
    replace hx := hx.below hb
    replace hyx := hyx.below hb
    replace hyy := hyy.below hb
    replace hy := hy.below hb
    replace hux := hux.below hb
    replace huy := huy.below hb
    replace hu := hu.below hb
    replace hvx := hvx.below hb
    replace hvy := hvy.below hb
    replace hv := hv.below hb
    replace hsx := hsx.below hb
    replace hsy := hsy.below hb
    replace hs := hs.below hb
    replace hbf := hbf.trans (hb.mono hbf.size)
    clear hb
    have ea0 := hba.c0
    have ea1 := hba.c1
    have ea2 := hba.c2
    have er0 := hbr.c0
    have er1 := hbr.c1
    have er2 := hbr.c2
    go_wp2_with fail
    refine (cmp_c _ _ (qround a) a (-1) 202 200 _ hr ha hqr hqa (by decide) HK).mono ?_
    rintro e w27 ⟨rfl, hb⟩
    clear ea0 ea1 ea2 er0 er1 er2
    replace hba := hba.kept hb
    replace hbh := hbh.kept hb
    replace hbr := hbr.kept hb
    replace hbd := hbd.kept hb
    replace hbm := hbm.kept hb
    replace hax := hax.below hb
    replace hay := hay.below hb
    replace ha := ha.below hb
    replace ho := ho.below hb
    replace ht := ht.below hb
    replace hhx := hhx.below hb
    replace hhy := hhy.below hb
    replace hh := hh.below hb
    replace hrx := hrx.below hb
    replace hry := hry.below hb
    replace hr := hr.below hb
    replace hdx := hdx.below hb
    replace hdy := hdy.below hb
    replace hd := hd.below hb
    replace hmx := hmx.below hb
    replace hmy := hmy.below hb
    replace hm := hm.below hb
    replace hxx := hxx.below hb
    replace hxy := hxy.below hb
    replace hx := hx.below hb
    replace hyx := hyx.below hb
    replace hyy := hyy.below hb
    replace hy := hy.below hb
    replace hux := hux.below hb
    replace huy := huy.below hb
    replace hu := hu.below hb
    replace hvx := hvx.below hb
    replace hvy := hvy.below hb
    replace hv := hv.below hb
    replace hsx := hsx.below hb
    replace hsy := hsy.below hb
    replace hs := hs.below hb
    replace hbf := hbf.trans (hb.mono hbf.size)
    clear hb
    go_wp2_with fail
    go_ret
    exact ⟨rfl, hbf⟩

theorem ratRounds_walk (a0 : ByteArray) (w0 : a0.size ≤ maxLen) (w : World) :
    Calls Tryd.prog 5 #[.string a0] w fun e w' => e = .returned (.bool true) ∧ Below w.heap.size w w' := by
  obtain ⟨l, rfl, _⟩ := bytes_of a0
  by_cases h : l.length ≤ 150
  · exact ratRounds_main l w h
  · exact ratRounds_early l w (by omega)

end Go.Proofs.YtacflncmbnildaaDoor
