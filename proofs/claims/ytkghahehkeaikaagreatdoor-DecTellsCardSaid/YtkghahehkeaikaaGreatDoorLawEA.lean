/-
  Law 3: contracts with letters, alive.
-/
import Derived.Test.YtkghahehkeaikaaGreatDoorDecC
import Derived.Test.YtkghahehkeaikaaGreatDoorDecD
import Derived.Test.YtkghahehkeaikaaGreatDoorMathV
import Derived.Test.YtkghahehkeaikaaGreatDoorRefR
import Derived.Test.YtkghahehkeaikaaGreatDoorRatL
import Derived.Deep.DeepCutAuto
import Derived.WalkMore
import Derived.Laws.StructEq
namespace Go.Proofs.YtkghahehkeaikaaGreatDoor
open Go.RowKit
set_option linter.unusedVariables false
set_option linter.unusedSimpArgs false
attribute [local go_sem] field_nat

theorem lparse_q (l : List UInt8) (q : Rat) (c : Int) (w : World) (hq : Hid (q = litVal l)) (hc : Hid (c = litCode l)) (hl : l.length ≤ 1000) : Calls Tryz.prog 6 #[.string ⟨l.toArray⟩] w (QPostC w q c) := by
  rw [hq.out, hc.out]; exact lparse_any l w hl
theorem ltext_c (v : Value) (q : Rat) (T : List UInt8) (is : Bool) (c : Int) (w : World) (h : QIs w v q) (hk : LOk q) (hf : Hid (is = fin q)) (hT : Hid (T = if is = true then litText q else [])) (hc : Hid (c = if is = true then 0 else 14)) : Calls Tryz.prog 14 #[v] w fun e w' => e = .returned (.tuple #[.string ⟨T.toArray⟩, .int .i64 c]) ∧ Below w.heap.size w w' := by
  rw [hT.out, hc.out]
  have hf := hf.out
  cases is
  · exact ltext_no v q w h hk.1.2 hf.symm
  · exact ltext_yes v q w h hk.1 hk.1.2 hf.symm hk.2.1 hk.2.2.1 hk.2.2.2
theorem qtext_t (va : Value) (a : Rat) (T : List UInt8) (w : World) (ha : QIs w va a) (hla : QB a 100000) (hT : Hid (T = qtext a)) :
    Calls Tryz.prog 8 #[va] w fun e w' => e = .returned (.string ⟨T.toArray⟩) ∧ Below w.heap.size w w' := by
  rw [hT.out]; exact qtext_any va a w ha hla
theorem lit_a : litVal [45, 49, 46, 53, 48, 101, 49] = ((-15 : Int) : Rat) ∧ litCode [45, 49, 46, 53, 48, 101, 49] = 0 := by
  have h : litCode [45, 49, 46, 53, 48, 101, 49] = 0 := by decide
  refine ⟨?_, h⟩
  rw [litVal_of h, show expOf [45, 49, 46, 53, 48, 101, 49] = -1 by decide, show dnum (lall [45, 49, 46, 53, 48, 101, 49]) = 150 by decide, show sneg [45, 49, 46, 53, 48, 101, 49] = true by decide]
  decide
theorem qt_15 : qtext ((-15 : Int) : Rat) = [45, 49, 53] := by
  rw [int_text, show (-15 : Int).natAbs = 15 by decide, show str (dec 15) = [49, 53] from str_dec (l := [49, 53]) (by decide)]; rfl
theorem cnt_8 : cnt 2 8 = 3 ∧ crest 2 8 = 1 := by
  have h1 := cnt_more (b := 2) (n := 8) (by decide) (by decide) (by decide)
  have h2 := cnt_more (b := 2) (n := 4) (by decide) (by decide) (by decide)
  have h3 := cnt_more (b := 2) (n := 2) (by decide) (by decide) (by decide)
  have h4 := cnt_end (b := 2) (n := 1) (by decide)
  rw [h1.1, h1.2]
  show cnt 2 4 + 1 = 3 ∧ crest 2 4 = 1
  rw [h2.1, h2.2]
  show cnt 2 2 + 1 + 1 = 3 ∧ crest 2 2 = 1
  rw [h3.1, h3.2]
  show cnt 2 1 + 1 + 1 + 1 = 3 ∧ crest 2 1 = 1
  rw [h4.1, h4.2]
  exact ⟨rfl, rfl⟩
theorem lit_8 : fin (qOf false 1 8) = true ∧ places (qOf false 1 8) = 3 ∧ litText (qOf false 1 8) = [48, 46, 49, 50, 53] := by
  have hd : (qOf false 1 8).den = 8 := by decide
  have h5 := cnt_end (b := 5) (n := 1) (by decide)
  have h1 : fin (qOf false 1 8) = true := by unfold fin left25; rw [hd, cnt_8.2, h5.2]; rfl
  have h2 : places (qOf false 1 8) = 3 := by unfold places; rw [hd, cnt_8.1, cnt_8.2, h5.1]; rfl
  refine ⟨h1, h2, ?_⟩
  rw [litText_sgn, h2, show decide (qOf false 1 8 < 0) = false by decide, show litNum (qOf false 1 8) 3 = 125 by decide, show str (dec 125) = [49, 50, 53] from str_dec (l := [49, 50, 53]) (by decide)]
  decide
theorem lok_8 : LOk (qOf false 1 8) := LOk.of (K := 2) (by decide) (by decide) (by decide) (by decide) (by rw [lit_8.2.1]; decide)

set_option maxRecDepth 100000 in
set_option maxHeartbeats 1000000 in
/-- alive. -/
theorem alive3_any (w : World) : Calls Tryz.prog 5 #[] w fun e w' => e = .returned (.bool true) ∧ Below w.heap.size w w' := by
  obtain ⟨q, hq⟩ : ∃ q : Rat, q = ((-15 : Int) : Rat) := ⟨_, rfl⟩
  have HQ : Hid (q = litVal [45, 49, 46, 53, 48, 101, 49]) := Lib.hid (by rw [hq, lit_a.1])
  have HC : Hid ((0 : Int) = litCode [45, 49, 46, 53, 48, 101, 49]) := Lib.hid lit_a.2.symm
  have HT : Hid ([45, 49, 53] = qtext q) := Lib.hid (by rw [hq, qt_15])
  have hqb : QB q 100000 := by rw [hq, ← of_neg _ (by decide)]; exact QB.small (by decide) (by decide) (by decide) (by decide)
  clear hq
  obtain ⟨r, hr0⟩ : ∃ q : Rat, q = qOf false 1 8 := ⟨_, rfl⟩
  have HF : Hid (true = fin r) := Lib.hid (by rw [hr0, lit_8.1])
  have HT2 : Hid ([48, 46, 49, 50, 53] = if true = true then litText r else []) := Lib.hid (by rw [hr0, lit_8.2.2]; rfl)
  have hok : LOk r := by rw [hr0]; exact lok_8
  have HR0 := Lib.hid hr0
  clear hr0
  have hbf : Below w.heap.size w w := Below.refl _ _
  go_enter Tryz.func5, Tryz.ntmps5
  go_wp2_with fail
  refine (lparse_q [45, 49, 46, 53, 48, 101, 49] q 0 _ HQ HC (by decide)).mono ?_
  rintro e w1 hq9
  obtain ⟨rB, rxO, rxL, rxC, ryO, ryL, ryC, rfl, hS, hrx, hry, hr, hb⟩ := hq9.out
  have HrS := Lib.hid hS; clear hS
  replace hbf := hbf.trans (hb.mono hbf.size)
  clear hb
  obtain ⟨w2, hwE⟩ : ∃ W, W = (w1.alloc (.cells #[.bool rB, .slice rxO rxL rxC, .slice ryO ryL ryC] 27)) := ⟨_, rfl⟩
  have hb : Below w1.heap.size w1 w2 := by rw [hwE]; exact ((Below.refl _ w1).alloc (Nat.le_refl _) _)
  obtain ⟨pr, hpr⟩ : ∃ p, p = w1.heap.size := ⟨_, rfl⟩
  have hbr : Box3 w2 pr (Value.bool rB) (Value.slice rxO rxL rxC) (Value.slice ryO ryL ryC) := by rw [hwE, hpr]; exact ⟨by go_simp, by go_simp, by go_simp, by go_simp, by go_simp, by go_simp⟩
  have HP : Hid (w.heap.size ≤ pr) := Lib.hid (by have h9 := hbf.size; omega)
  have HW := Lib.hid hwE; clear hwE
  go_upto_region 2 with fail
  rw [← HW.out, ← hpr]
  clear hpr HW
  replace hrx := hrx.below hb
  replace hry := hry.below hb
  replace hr := hr.below hb
  replace hbf := hbf.trans (hb.mono hbf.size)
  clear hb
  go_wp2_with fail
  refine (of_any 1 _ (by decide)).mono ?_
  rintro e w3 ⟨r9, rfl, hi, hb⟩
  replace hbr := hbr.kept hb
  replace hrx := hrx.below hb
  replace hry := hry.below hb
  replace hr := hr.below hb
  replace hbf := hbf.trans (hb.mono hbf.size)
  clear hb
  obtain ⟨iO, iL, iC, rfl⟩ := hi.form
  go_wp2_with fail
  refine (of_any 8 _ (by decide)).mono ?_
  rintro e w4 ⟨r9, rfl, hj, hb⟩
  replace hbr := hbr.kept hb
  replace hrx := hrx.below hb
  replace hry := hry.below hb
  replace hr := hr.below hb
  replace hi := hi.below hb
  replace hbf := hbf.trans (hb.mono hbf.size)
  clear hb
  obtain ⟨jO, jL, jC, rfl⟩ := hj.form
  go_wp2_with fail
  refine (make_ok false _ _ 1 8 _ hi hj (limbs_bound (by decide) (by decide)) (limbs_bound (by decide) (by decide)) (by decide)).mono ?_
  rintro e w5 hq9
  obtain ⟨sB, sxO, sxL, sxC, syO, syL, syC, rfl, hS, hsx, hsy, hs, hb⟩ := hq9.out
  have HsS := Lib.hid hS; clear hS
  replace hbr := hbr.kept hb
  replace hrx := hrx.below hb
  replace hry := hry.below hb
  replace hr := hr.below hb
  replace hi := hi.below hb
  replace hj := hj.below hb
  replace hbf := hbf.trans (hb.mono hbf.size)
  clear hb
  rw [← HR0.out] at hs
  obtain ⟨w6, hwE⟩ : ∃ W, W = (w5.alloc (.cells #[.bool sB, .slice sxO sxL sxC, .slice syO syL syC] 27)) := ⟨_, rfl⟩
  have hb : Below w5.heap.size w5 w6 := by rw [hwE]; exact ((Below.refl _ w5).alloc (Nat.le_refl _) _)
  obtain ⟨ps, hps⟩ : ∃ p, p = w5.heap.size := ⟨_, rfl⟩
  have hbs : Box3 w6 ps (Value.bool sB) (Value.slice sxO sxL sxC) (Value.slice syO syL syC) := by rw [hwE, hps]; exact ⟨by go_simp, by go_simp, by go_simp, by go_simp, by go_simp, by go_simp⟩
  replace HP : Hid (w.heap.size ≤ pr ∧ pr < ps) := Lib.hid (by have h1 := HP.out; have h9 := hbf.size; have h2r := hbr.lt; omega)
  have HW := Lib.hid hwE; clear hwE
  go_upto_region 3 with fail
  rw [← HW.out, ← hps]
  clear hps HW
  replace hbr := hbr.kept hb
  replace hrx := hrx.below hb
  replace hry := hry.below hb
  replace hr := hr.below hb
  replace hi := hi.below hb
  replace hj := hj.below hb
  replace hsx := hsx.below hb
  replace hsy := hsy.below hb
  replace hs := hs.below hb
  replace hbf := hbf.trans (hb.mono hbf.size)
  clear hb
  have er0 := hbr.c0
  have er1 := hbr.c1
  have er2 := hbr.c2
  have es0 := hbs.c0
  have es1 := hbs.c1
  have es2 := hbs.c2
  go_wp2_with fail
  refine (ltext_c _ r [48, 46, 49, 50, 53] true 0 _ hs hok HF HT2 (Lib.hid rfl)).mono ?_
  rintro e w7 ⟨rfl, hb⟩
  clear er0 er1 er2 es0 es1 es2
  replace hbr := hbr.kept hb
  replace hbs := hbs.kept hb
  replace hrx := hrx.below hb
  replace hry := hry.below hb
  replace hr := hr.below hb
  replace hi := hi.below hb
  replace hj := hj.below hb
  replace hsx := hsx.below hb
  replace hsy := hsy.below hb
  replace hs := hs.below hb
  replace hbf := hbf.trans (hb.mono hbf.size)
  clear hb
  have er0 := hbr.c0
  have er1 := hbr.c1
  have er2 := hbr.c2
  go_wp2_with fail
  refine (qtext_t _ q [45, 49, 53] _ hr hqb HT).mono ?_
  rintro e w8 ⟨rfl, hb⟩
  clear er0 er1 er2
  replace hbr := hbr.kept hb
  replace hbs := hbs.kept hb
  replace hrx := hrx.below hb
  replace hry := hry.below hb
  replace hr := hr.below hb
  replace hi := hi.below hb
  replace hj := hj.below hb
  replace hsx := hsx.below hb
  replace hsy := hsy.below hb
  replace hs := hs.below hb
  replace hbf := hbf.trans (hb.mono hbf.size)
  clear hb
  go_wp2_with fail
  go_ret
  exact ⟨rfl, hbf⟩

end Go.Proofs.YtkghahehkeaikaaGreatDoor
