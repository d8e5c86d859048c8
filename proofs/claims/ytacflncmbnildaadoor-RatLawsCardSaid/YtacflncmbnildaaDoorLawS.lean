/-
  RatTexts: the walk.
-/
import Derived.Test.YtacflncmbnildaaDoorLawR
namespace Go.Proofs.YtacflncmbnildaaDoor
open Go.RowKit
set_option linter.unusedVariables false
set_option linter.unusedSimpArgs false
attribute [local go_sem] field_nat

theorem qOf_scale (s : Bool) (n d : Nat) {B : Nat} (hB : 0 < B) : qOf s (n * B) (d * B) = qOf s n d := by
  unfold qOf
  have h : sg s (n * B) = sg s n * (B : Int) := by cases s <;> simp [sg, Int.neg_mul]
  rw [h, Rat.mkRat_mul_right (by omega)]
theorem same_yes (va vc : Value) (a : Rat) (i j : Nat) (w : World) (ha : QIs w va a) (hc : QIs w vc a) (hla : QB a i) (hlc : QB a j) (hij : i + j ≤ 90000) :
    Calls Tryd.prog 20 #[va, vc] w fun e w' => e = .returned (.bool true) ∧ Below w.heap.size w w' := by
  have := same_q va vc a a i j w ha hc hla hlc hij
  rwa [decide_eq_true rfl] at this
theorem q_coprime (q : Rat) : Nat.gcd q.num.natAbs q.den = 1 := q.reduced

set_option maxRecDepth 100000 in
set_option maxHeartbeats 1000000 in
theorem ratTexts_early (n d : Nat) (v : Int) (w : World) (h : d = 0 ∨ n = 0 ∨ 1073741824 < n ∨ 1073741824 < d ∨ v < 2 ∨ 1000 < v) :
    Calls Tryd.prog 4 #[.int .u64 (n : Int), .int .u64 (d : Int), .int .i64 v] w fun e w' => e = .returned (.bool true) ∧ Below w.heap.size w w' := by
  by_cases h1 : d = 0
  · clear h
    subst h1
    go_enter Tryd.func4, Tryd.ntmps4
    go_wp2_with (go_at_call 11; refine (alive2_any _).mono ?_; rintro e w' ⟨rfl, hb⟩)
    go_ret
    exact ⟨rfl, hb⟩
  have k1 : ¬ ((d : Nat) : Int) = 0 := by omega
  have k1' : (((d : Nat) : Int) == 0) = false := by simpa using k1
  by_cases h2 : n = 0
  · clear h
    subst h2
    go_enter Tryd.func4, Tryd.ntmps4
    go_wp2_with (go_at_call 11; refine (alive2_any _).mono ?_; rintro e w' ⟨rfl, hb⟩)
    go_ret
    exact ⟨rfl, hb⟩
  have k2 : ¬ ((n : Nat) : Int) = 0 := by omega
  have k2' : (((n : Nat) : Int) == 0) = false := by simpa using k2
  by_cases h3 : (1073741824 : Int) < ((n : Nat) : Int)
  · clear h
    go_enter Tryd.func4, Tryd.ntmps4
    go_wp2_with (go_at_call 11; refine (alive2_any _).mono ?_; rintro e w' ⟨rfl, hb⟩)
    go_ret
    exact ⟨rfl, hb⟩
  by_cases h4 : (1073741824 : Int) < ((d : Nat) : Int)
  · clear h
    go_enter Tryd.func4, Tryd.ntmps4
    go_wp2_with (go_at_call 11; refine (alive2_any _).mono ?_; rintro e w' ⟨rfl, hb⟩)
    go_ret
    exact ⟨rfl, hb⟩
  by_cases h5 : v < 2
  · clear h
    go_enter Tryd.func4, Tryd.ntmps4
    go_wp2_with (go_at_call 11; refine (alive2_any _).mono ?_; rintro e w' ⟨rfl, hb⟩)
    go_ret
    exact ⟨rfl, hb⟩
  by_cases h6 : 1000 < v
  · clear h
    go_enter Tryd.func4, Tryd.ntmps4
    go_wp2_with (go_at_call 11; refine (alive2_any _).mono ?_; rintro e w' ⟨rfl, hb⟩)
    go_ret
    exact ⟨rfl, hb⟩
  omega

set_option maxRecDepth 100000 in
set_option maxHeartbeats 1000000 in
/-- RatTexts. -/
theorem ratTexts_main (n d B : Nat) (w : World) (hn1 : 0 < n) (hn2 : n ≤ 1073741824) (hd1 : 0 < d) (hd2 : d ≤ 1073741824) (hB1 : 2 ≤ B) (hB2 : B ≤ 1000) :
    Calls Tryd.prog 4 #[.int .u64 (n : Int), .int .u64 (d : Int), .int .i64 (B : Int)] w fun e w' => e = .returned (.bool true) ∧ Below w.heap.size w w' := by
  have k1 : ¬ ((d : Nat) : Int) = 0 := by omega
  have k1' : (((d : Nat) : Int) == 0) = false := by simpa using k1
  have k2 : ¬ ((n : Nat) : Int) = 0 := by omega
  have k2' : (((n : Nat) : Int) == 0) = false := by simpa using k2
  have k3 : ¬ (1073741824 : Int) < ((n : Nat) : Int) := by omega
  have k4 : ¬ (1073741824 : Int) < ((d : Nat) : Int) := by omega
  have k5 : ¬ ((B : Nat) : Int) < 2 := by omega
  have k6 : ¬ (1000 : Int) < ((B : Nat) : Int) := by omega
  have hnB : n * B ≤ 1073741824 * 1000 := Nat.mul_le_mul hn2 hB2
  have hdB : d * B ≤ 1073741824 * 1000 := Nat.mul_le_mul hd2 hB2
  have hE1 : IntKind.u64.wrap ((B : Nat) : Int) = ((B : Nat) : Int) := by simp only [IntKind.wrap, IntKind.bits, IntKind.signed, Bool.false_and, Bool.false_eq_true, if_false]; omega
  have hE2 : IntKind.u64.wrap (((n : Nat) : Int) * ((B : Nat) : Int)) = ((n * B : Nat) : Int) := by rw [← Int.natCast_mul]; simp only [IntKind.wrap, IntKind.bits, IntKind.signed, Bool.false_and, Bool.false_eq_true, if_false]; omega
  have hE3 : IntKind.u64.wrap (((d : Nat) : Int) * ((B : Nat) : Int)) = ((d * B : Nat) : Int) := by rw [← Int.natCast_mul]; simp only [IntKind.wrap, IntKind.bits, IntKind.signed, Bool.false_and, Bool.false_eq_true, if_false]; omega
  obtain ⟨nB, hnBe⟩ : ∃ m, m = n * B := ⟨_, rfl⟩
  obtain ⟨dB, hdBe⟩ : ∃ m, m = d * B := ⟨_, rfl⟩
  rw [← hnBe] at hE2 hnB
  rw [← hdBe] at hE3 hdB
  have hg : Nat.gcd nB dB ≠ 1 := by
    intro h9
    have h8 : B ∣ Nat.gcd nB dB := Nat.dvd_gcd (by rw [hnBe]; exact Nat.dvd_mul_left _ _) (by rw [hdBe]; exact Nat.dvd_mul_left _ _)
    rw [h9] at h8
    have := Nat.le_of_dvd (by decide) h8
    omega
  have hnB0 : 0 < nB := by rw [hnBe]; exact Nat.mul_pos hn1 (by omega)
  have hdB0 : 0 < dB := by rw [hdBe]; exact Nat.mul_pos hd1 (by omega)
  have hq2 : qOf false nB dB = qOf false n d := by rw [hnBe, hdBe]; exact qOf_scale _ _ _ (by omega)
  have hdl : ∀ m, m < 10 ^ 20 → (dec m).length ≤ 1200 := fun m h => Nat.le_trans (dec_le h (by decide)) (by decide)
  have hmore := qparse_more hnB0 hdB0 hg (hdl _ (by omega)) (hdl _ (by omega))
  have hmv : qval (str (dec nB) ++ 47 :: str (dec dB)) = 0 := by unfold qval; rw [hmore]; rfl
  have hqn : (qOf false n d).num.natAbs ≤ n ∧ (qOf false n d).den ≤ d := qOf_le _ _ hd1
  have hpt := qparse_text (qOf false n d) (hdl _ (by omega)) (hdl _ (by omega))
  have hqb : QB (qOf false n d) 30000 := QB.of _ (limbs_bound (by omega) (by decide)) (limbs_bound (by omega) (by decide)) hd1
  have hlqt : (qtext (qOf false n d)).length ≤ 1000 := by
    have e1 := dec_le (n := (qOf false n d).num.natAbs) (k := 20) (by omega) (by decide)
    have e2 := dec_le (n := (qOf false n d).den) (k := 20) (by omega) (by decide)
    unfold qtext
    split <;> split <;> simp [str] <;> omega
  obtain ⟨Q, hQ⟩ : ∃ q, q = qOf false n d := ⟨_, rfl⟩
  rw [← hQ] at hq2 hpt hqb hlqt
  have HQ := Lib.hid hQ
  obtain ⟨T, hT⟩ : ∃ t, t = qtext Q := ⟨_, rfl⟩
  rw [← hT] at hpt hlqt
  have HT := Lib.hid hT
  have HPV := Lib.hid hpt.2.symm
  have HPC := Lib.hid hpt.1.symm
  have hpp := qparse_plus T
  have HPP := Lib.hid hpp.symm
  have HPPV : Hid ((0 : Rat) = qval (43 :: T)) := Lib.hid (by unfold qval; rw [hpp]; rfl)
  have HM := Lib.hid hmore.symm
  have HMV := Lib.hid hmv.symm
  have HNE := Lib.hid hnBe
  have HDE := Lib.hid hdBe
  have HQ2 := Lib.hid hq2
  obtain ⟨T1, hT1⟩ : ∃ t, t = str (dec nB) := ⟨_, rfl⟩
  obtain ⟨T2, hT2⟩ : ∃ t, t = str (dec dB) := ⟨_, rfl⟩
  have hl1 : T1.length ≤ 100 := by rw [hT1]; have := dec_le (n := nB) (k := 20) (by omega) (by decide); simp [str]; omega
  have hl2 : T2.length ≤ 100 := by rw [hT2]; have := dec_le (n := dB) (k := 20) (by omega) (by decide); simp [str]; omega
  rw [← hT1, ← hT2] at HM HMV
  have HT1 := Lib.hid hT1
  have HT2 := Lib.hid hT2
  have hcat : (⟨T1.toArray⟩ ++ ⟨#[47]⟩ ++ ⟨T2.toArray⟩ : ByteArray) = ⟨(T1 ++ 47 :: T2).toArray⟩ := by apply ByteArray.ext; simp
  have HCAT := Lib.hid hcat
  have hpl : (⟨#[43]⟩ ++ ⟨T.toArray⟩ : ByteArray) = ⟨(43 :: T).toArray⟩ := cons_bytes _ _
  have HPL := Lib.hid hpl
  have hln := limbs_bound (n := n) (k := 100) (by omega) (by decide)
  have hld := limbs_bound (n := d) (k := 100) (by omega) (by decide)
  have hlnB : (limbs nB).length ≤ 100 := Nat.le_trans (limbs_length_le (k := 2) (by omega)) (by decide)
  have hldB : (limbs dB).length ≤ 100 := Nat.le_trans (limbs_length_le (k := 2) (by omega)) (by decide)
  have hcop := q_coprime Q
  have HCOP := Lib.hid hcop
  have hqb1 : (limbs Q.num.natAbs).length ≤ 1000000 := Nat.le_trans hqb.1 (by decide)
  have hqb2 : (limbs Q.den).length ≤ 1000000 := Nat.le_trans hqb.2 (by decide)
  clear hQ hT hpt hpp hmore hmv hnBe hdBe hq2 hT1 hT2 hcat hpl hcop hg hdl hqn
  go_enter Tryd.func4, Tryd.ntmps4
  go_wp2_with fail
  refine (alive2_any _).mono ?_
  rintro e w1 ⟨rfl, hb⟩
  have hbf := hb
  clear hb
  go_wp2_with fail
  refine (of_any n _ (by omega)).mono ?_
  rintro e w2 ⟨r9, rfl, hn, hb⟩
  replace hbf := hbf.trans (hb.mono hbf.size)
  clear hb
  obtain ⟨nO, nL, nC, rfl⟩ := hn.form
  go_wp2_with fail
  refine (of_any d _ (by omega)).mono ?_
  rintro e w3 ⟨r9, rfl, hd, hb⟩
  replace hn := hn.below hb
  replace hbf := hbf.trans (hb.mono hbf.size)
  clear hb
  obtain ⟨dO, dL, dC, rfl⟩ := hd.form
  go_wp2_with fail
  refine (make_ok false _ _ n d _ hn hd (by omega) (by omega) hd1).mono ?_
  rintro e w4 hq9
  obtain ⟨rB, rxO, rxL, rxC, ryO, ryL, ryC, rfl, hS, hrx, hry, hr, hb⟩ := hq9.out
  have HrS := Lib.hid hS; clear hS
  replace hn := hn.below hb
  replace hd := hd.below hb
  replace hbf := hbf.trans (hb.mono hbf.size)
  clear hb
  rw [← HQ.out] at hr
  obtain ⟨w5, hwE⟩ : ∃ W, W = (w4.alloc (.cells #[.bool rB, .slice rxO rxL rxC, .slice ryO ryL ryC] 27)) := ⟨_, rfl⟩
  have hb : Below w4.heap.size w4 w5 := by rw [hwE]; exact ((Below.refl _ w4).alloc (Nat.le_refl _) _)
  obtain ⟨pr, hpr⟩ : ∃ p, p = w4.heap.size := ⟨_, rfl⟩
  have hbr : Box3 w5 pr (Value.bool rB) (Value.slice rxO rxL rxC) (Value.slice ryO ryL ryC) := by rw [hwE, hpr]; exact ⟨by go_simp, by go_simp, by go_simp, by go_simp, by go_simp, by go_simp⟩
  have HP : Hid (w.heap.size ≤ pr) := Lib.hid (by have h9 := hbf.size; omega)
  have HW := Lib.hid hwE; clear hwE
  go_upto_region 4 with fail
  rw [← HW.out, ← hpr]
  clear hpr HW
  replace hn := hn.below hb
  replace hd := hd.below hb
  replace hrx := hrx.below hb
  replace hry := hry.below hb
  replace hr := hr.below hb
  replace hbf := hbf.trans (hb.mono hbf.size)
  clear hb
  go_wp2_with fail
  refine (of_any nB _ (by omega)).mono ?_
  rintro e w6 ⟨r9, rfl, hm, hb⟩
  replace hbr := hbr.kept hb
  replace hn := hn.below hb
  replace hd := hd.below hb
  replace hrx := hrx.below hb
  replace hry := hry.below hb
  replace hr := hr.below hb
  replace hbf := hbf.trans (hb.mono hbf.size)
  clear hb
  obtain ⟨mO, mL, mC, rfl⟩ := hm.form
  go_wp2_with fail
  refine (of_any dB _ (by omega)).mono ?_
  rintro e w7 ⟨r9, rfl, hk, hb⟩
  replace hbr := hbr.kept hb
  replace hn := hn.below hb
  replace hd := hd.below hb
  replace hrx := hrx.below hb
  replace hry := hry.below hb
  replace hr := hr.below hb
  replace hm := hm.below hb
  replace hbf := hbf.trans (hb.mono hbf.size)
  clear hb
  obtain ⟨kO, kL, kC, rfl⟩ := hk.form
  go_wp2_with fail
  refine (make_ok false _ _ nB dB _ hm hk (by omega) (by omega) hdB0).mono ?_
  rintro e w8 hq9
  obtain ⟨sB, sxO, sxL, sxC, syO, syL, syC, rfl, hS, hsx, hsy, hs, hb⟩ := hq9.out
  have HsS := Lib.hid hS; clear hS
  replace hbr := hbr.kept hb
  replace hn := hn.below hb
  replace hd := hd.below hb
  replace hrx := hrx.below hb
  replace hry := hry.below hb
  replace hr := hr.below hb
  replace hm := hm.below hb
  replace hk := hk.below hb
  replace hbf := hbf.trans (hb.mono hbf.size)
  clear hb
  rw [HQ2.out] at hs
  obtain ⟨w9, hwE⟩ : ∃ W, W = (w8.alloc (.cells #[.bool sB, .slice sxO sxL sxC, .slice syO syL syC] 27)) := ⟨_, rfl⟩
  have hb : Below w8.heap.size w8 w9 := by rw [hwE]; exact ((Below.refl _ w8).alloc (Nat.le_refl _) _)
  obtain ⟨ps, hps⟩ : ∃ p, p = w8.heap.size := ⟨_, rfl⟩
  have hbs : Box3 w9 ps (Value.bool sB) (Value.slice sxO sxL sxC) (Value.slice syO syL syC) := by rw [hwE, hps]; exact ⟨by go_simp, by go_simp, by go_simp, by go_simp, by go_simp, by go_simp⟩
  replace HP : Hid (w.heap.size ≤ pr ∧ pr < ps) := Lib.hid (by have h1 := HP.out; have h9 := hbf.size; have h2r := hbr.lt; omega)
  have HW := Lib.hid hwE; clear hwE
  go_upto_region 5 with fail
  rw [← HW.out, ← hps]
  clear hps HW
  replace hbr := hbr.kept hb
  replace hn := hn.below hb
  replace hd := hd.below hb
  replace hrx := hrx.below hb
  replace hry := hry.below hb
  replace hr := hr.below hb
  replace hm := hm.below hb
  replace hk := hk.below hb
  replace hsx := hsx.below hb
  replace hsy := hsy.below hb
  replace hs := hs.below hb
  replace hbf := hbf.trans (hb.mono hbf.size)
  clear hb
  have er0 := hbr.c0
  have er1 := hbr.c1
  have er2 := hbr.c2
  go_wp2_with fail
  refine (qtext_any _ Q _ hr (hqb.mono (by decide))).mono ?_
  rintro e w10 ⟨rfl, hb⟩
  clear er0 er1 er2
  replace hbr := hbr.kept hb
  replace hbs := hbs.kept hb
  replace hn := hn.below hb
  replace hd := hd.below hb
  replace hrx := hrx.below hb
  replace hry := hry.below hb
  replace hr := hr.below hb
  replace hm := hm.below hb
  replace hk := hk.below hb
  replace hsx := hsx.below hb
  replace hsy := hsy.below hb
  replace hs := hs.below hb
  replace hbf := hbf.trans (hb.mono hbf.size)
  clear hb
  rw [← HT.out]
  go_wp2_with fail
  refine (qparse_main T _ Q 0 HPV HPC (by omega)).mono ?_
  rintro e w11 hq9
  obtain ⟨tB, txO, txL, txC, tyO, tyL, tyC, rfl, hS, htx, hty, ht, hb⟩ := hq9.out
  have HtS := Lib.hid hS; clear hS
  replace hbr := hbr.kept hb
  replace hbs := hbs.kept hb
  replace hn := hn.below hb
  replace hd := hd.below hb
  replace hrx := hrx.below hb
  replace hry := hry.below hb
  replace hr := hr.below hb
  replace hm := hm.below hb
  replace hk := hk.below hb
  replace hsx := hsx.below hb
  replace hsy := hsy.below hb
  replace hs := hs.below hb
  replace hbf := hbf.trans (hb.mono hbf.size)
  clear hb
  obtain ⟨w12, hwE⟩ : ∃ W, W = (w11.alloc (.cells #[.bool tB, .slice txO txL txC, .slice tyO tyL tyC] 27)) := ⟨_, rfl⟩
  have hb : Below w11.heap.size w11 w12 := by rw [hwE]; exact ((Below.refl _ w11).alloc (Nat.le_refl _) _)
  obtain ⟨pt, hpt⟩ : ∃ p, p = w11.heap.size := ⟨_, rfl⟩
  have hbt : Box3 w12 pt (Value.bool tB) (Value.slice txO txL txC) (Value.slice tyO tyL tyC) := by rw [hwE, hpt]; exact ⟨by go_simp, by go_simp, by go_simp, by go_simp, by go_simp, by go_simp⟩
  replace HP : Hid (w.heap.size ≤ pr ∧ pr < ps ∧ ps < pt) := Lib.hid (by have h1 := HP.out; have h9 := hbf.size; have h2s := hbs.lt; omega)
  have HW := Lib.hid hwE; clear hwE
  go_upto_region 6 with fail
  rw [← HW.out, ← hpt]
  clear hpt HW
  replace hbr := hbr.kept hb
  replace hbs := hbs.kept hb
  replace hn := hn.below hb
  replace hd := hd.below hb
  replace hrx := hrx.below hb
  replace hry := hry.below hb
  replace hr := hr.below hb
  replace hm := hm.below hb
  replace hk := hk.below hb
  replace hsx := hsx.below hb
  replace hsy := hsy.below hb
  replace hs := hs.below hb
  replace htx := htx.below hb
  replace hty := hty.below hb
  replace ht := ht.below hb
  replace hbf := hbf.trans (hb.mono hbf.size)
  clear hb
  go_wp2_with fail
  refine (of_any nB _ (by omega)).mono ?_
  rintro e w13 ⟨r9, rfl, hi, hb⟩
  replace hbr := hbr.kept hb
  replace hbs := hbs.kept hb
  replace hbt := hbt.kept hb
  replace hn := hn.below hb
  replace hd := hd.below hb
  replace hrx := hrx.below hb
  replace hry := hry.below hb
  replace hr := hr.below hb
  replace hm := hm.below hb
  replace hk := hk.below hb
  replace hsx := hsx.below hb
  replace hsy := hsy.below hb
  replace hs := hs.below hb
  replace htx := htx.below hb
  replace hty := hty.below hb
  replace ht := ht.below hb
  replace hbf := hbf.trans (hb.mono hbf.size)
  clear hb
  obtain ⟨iO, iL, iC, rfl⟩ := hi.form
  go_wp2_with fail
  refine (text_any _ nB _ hi (by omega)).mono ?_
  rintro e w14 ⟨rfl, hb⟩
  replace hbr := hbr.kept hb
  replace hbs := hbs.kept hb
  replace hbt := hbt.kept hb
  replace hn := hn.below hb
  replace hd := hd.below hb
  replace hrx := hrx.below hb
  replace hry := hry.below hb
  replace hr := hr.below hb
  replace hm := hm.below hb
  replace hk := hk.below hb
  replace hsx := hsx.below hb
  replace hsy := hsy.below hb
  replace hs := hs.below hb
  replace htx := htx.below hb
  replace hty := hty.below hb
  replace ht := ht.below hb
  replace hi := hi.below hb
  replace hbf := hbf.trans (hb.mono hbf.size)
  clear hb
  rw [← HT1.out]
  go_wp2_with fail
  refine (of_any dB _ (by omega)).mono ?_
  rintro e w15 ⟨r9, rfl, hj, hb⟩
  replace hbr := hbr.kept hb
  replace hbs := hbs.kept hb
  replace hbt := hbt.kept hb
  replace hn := hn.below hb
  replace hd := hd.below hb
  replace hrx := hrx.below hb
  replace hry := hry.below hb
  replace hr := hr.below hb
  replace hm := hm.below hb
  replace hk := hk.below hb
  replace hsx := hsx.below hb
  replace hsy := hsy.below hb
  replace hs := hs.below hb
  replace htx := htx.below hb
  replace hty := hty.below hb
  replace ht := ht.below hb
  replace hi := hi.below hb
  replace hbf := hbf.trans (hb.mono hbf.size)
  clear hb
  obtain ⟨jO, jL, jC, rfl⟩ := hj.form
  go_wp2_with fail
  refine (text_any _ dB _ hj (by omega)).mono ?_
  rintro e w16 ⟨rfl, hb⟩
  replace hbr := hbr.kept hb
  replace hbs := hbs.kept hb
  replace hbt := hbt.kept hb
  replace hn := hn.below hb
  replace hd := hd.below hb
  replace hrx := hrx.below hb
  replace hry := hry.below hb
  replace hr := hr.below hb
  replace hm := hm.below hb
  replace hk := hk.below hb
  replace hsx := hsx.below hb
  replace hsy := hsy.below hb
  replace hs := hs.below hb
  replace htx := htx.below hb
  replace hty := hty.below hb
  replace ht := ht.below hb
  replace hi := hi.below hb
  replace hj := hj.below hb
  replace hbf := hbf.trans (hb.mono hbf.size)
  clear hb
  rw [← HT2.out]
  go_wp2_with fail
  rw [HCAT.out]
  refine (qparse_main (T1 ++ 47 :: T2) _ 0 3 HMV HM (by simp; omega)).mono ?_
  rintro e w17 hq9
  obtain ⟨uB, uxO, uxL, uxC, uyO, uyL, uyC, rfl, hS, hux, huy, hu, hb⟩ := hq9.out
  have HuS := Lib.hid hS; clear hS
  replace hbr := hbr.kept hb
  replace hbs := hbs.kept hb
  replace hbt := hbt.kept hb
  replace hn := hn.below hb
  replace hd := hd.below hb
  replace hrx := hrx.below hb
  replace hry := hry.below hb
  replace hr := hr.below hb
  replace hm := hm.below hb
  replace hk := hk.below hb
  replace hsx := hsx.below hb
  replace hsy := hsy.below hb
  replace hs := hs.below hb
  replace htx := htx.below hb
  replace hty := hty.below hb
  replace ht := ht.below hb
  replace hi := hi.below hb
  replace hj := hj.below hb
  replace hbf := hbf.trans (hb.mono hbf.size)
  clear hb
  obtain ⟨w18, hwE⟩ : ∃ W, W = (w17.alloc (.cells #[.bool uB, .slice uxO uxL uxC, .slice uyO uyL uyC] 27)) := ⟨_, rfl⟩
  have hb : Below w17.heap.size w17 w18 := by rw [hwE]; exact ((Below.refl _ w17).alloc (Nat.le_refl _) _)
  obtain ⟨pu, hpu⟩ : ∃ p, p = w17.heap.size := ⟨_, rfl⟩
  have hbu : Box3 w18 pu (Value.bool uB) (Value.slice uxO uxL uxC) (Value.slice uyO uyL uyC) := by rw [hwE, hpu]; exact ⟨by go_simp, by go_simp, by go_simp, by go_simp, by go_simp, by go_simp⟩
  replace HP : Hid (w.heap.size ≤ pr ∧ pr < ps ∧ ps < pt ∧ pt < pu) := Lib.hid (by have h1 := HP.out; have h9 := hbf.size; have h2t := hbt.lt; omega)
  have HW := Lib.hid hwE; clear hwE
  go_upto_region 7 with fail
  rw [← HW.out, ← hpu]
  clear hpu HW
  replace hbr := hbr.kept hb
  replace hbs := hbs.kept hb
  replace hbt := hbt.kept hb
  replace hn := hn.below hb
  replace hd := hd.below hb
  replace hrx := hrx.below hb
  replace hry := hry.below hb
  replace hr := hr.below hb
  replace hm := hm.below hb
  replace hk := hk.below hb
  replace hsx := hsx.below hb
  replace hsy := hsy.below hb
  replace hs := hs.below hb
  replace htx := htx.below hb
  replace hty := hty.below hb
  replace ht := ht.below hb
  replace hi := hi.below hb
  replace hj := hj.below hb
  replace hux := hux.below hb
  replace huy := huy.below hb
  replace hu := hu.below hb
  replace hbf := hbf.trans (hb.mono hbf.size)
  clear hb
  have er0 := hbr.c0
  have er1 := hbr.c1
  have er2 := hbr.c2
  go_wp2_with fail
  refine (qtext_any _ Q _ hr (hqb.mono (by decide))).mono ?_
  rintro e w19 ⟨rfl, hb⟩
  clear er0 er1 er2
  replace hbr := hbr.kept hb
  replace hbs := hbs.kept hb
  replace hbt := hbt.kept hb
  replace hbu := hbu.kept hb
  replace hn := hn.below hb
  replace hd := hd.below hb
  replace hrx := hrx.below hb
  replace hry := hry.below hb
  replace hr := hr.below hb
  replace hm := hm.below hb
  replace hk := hk.below hb
  replace hsx := hsx.below hb
  replace hsy := hsy.below hb
  replace hs := hs.below hb
  replace htx := htx.below hb
  replace hty := hty.below hb
  replace ht := ht.below hb
  replace hi := hi.below hb
  replace hj := hj.below hb
  replace hux := hux.below hb
  replace huy := huy.below hb
  replace hu := hu.below hb
  replace hbf := hbf.trans (hb.mono hbf.size)
  clear hb
  rw [← HT.out]
  go_wp2_with fail
  rw [HPL.out]
  refine (qparse_main (43 :: T) _ 0 3 HPPV HPP (by simp; omega)).mono ?_
  rintro e w20 hq9
  obtain ⟨vB, vxO, vxL, vxC, vyO, vyL, vyC, rfl, hS, hvx, hvy, hv, hb⟩ := hq9.out
  have HvS := Lib.hid hS; clear hS
  replace hbr := hbr.kept hb
  replace hbs := hbs.kept hb
  replace hbt := hbt.kept hb
  replace hbu := hbu.kept hb
  replace hn := hn.below hb
  replace hd := hd.below hb
  replace hrx := hrx.below hb
  replace hry := hry.below hb
  replace hr := hr.below hb
  replace hm := hm.below hb
  replace hk := hk.below hb
  replace hsx := hsx.below hb
  replace hsy := hsy.below hb
  replace hs := hs.below hb
  replace htx := htx.below hb
  replace hty := hty.below hb
  replace ht := ht.below hb
  replace hi := hi.below hb
  replace hj := hj.below hb
  replace hux := hux.below hb
  replace huy := huy.below hb
  replace hu := hu.below hb
  replace hbf := hbf.trans (hb.mono hbf.size)
  clear hb
  obtain ⟨w21, hwE⟩ : ∃ W, W = (w20.alloc (.cells #[.bool vB, .slice vxO vxL vxC, .slice vyO vyL vyC] 27)) := ⟨_, rfl⟩
  have hb : Below w20.heap.size w20 w21 := by rw [hwE]; exact ((Below.refl _ w20).alloc (Nat.le_refl _) _)
  obtain ⟨pv, hpv⟩ : ∃ p, p = w20.heap.size := ⟨_, rfl⟩
  have hbv : Box3 w21 pv (Value.bool vB) (Value.slice vxO vxL vxC) (Value.slice vyO vyL vyC) := by rw [hwE, hpv]; exact ⟨by go_simp, by go_simp, by go_simp, by go_simp, by go_simp, by go_simp⟩
  replace HP : Hid (w.heap.size ≤ pr ∧ pr < ps ∧ ps < pt ∧ pt < pu ∧ pu < pv) := Lib.hid (by have h1 := HP.out; have h9 := hbf.size; have h2u := hbu.lt; omega)
  have HW := Lib.hid hwE; clear hwE
  go_upto_region 8 with fail
  rw [← HW.out, ← hpv]
  clear hpv HW
  replace hbr := hbr.kept hb
  replace hbs := hbs.kept hb
  replace hbt := hbt.kept hb
  replace hbu := hbu.kept hb
  replace hn := hn.below hb
  replace hd := hd.below hb
  replace hrx := hrx.below hb
  replace hry := hry.below hb
  replace hr := hr.below hb
  replace hm := hm.below hb
  replace hk := hk.below hb
  replace hsx := hsx.below hb
  replace hsy := hsy.below hb
  replace hs := hs.below hb
  replace htx := htx.below hb
  replace hty := hty.below hb
  replace ht := ht.below hb
  replace hi := hi.below hb
  replace hj := hj.below hb
  replace hux := hux.below hb
  replace huy := huy.below hb
  replace hu := hu.below hb
  replace hvx := hvx.below hb
  replace hvy := hvy.below hb
  replace hv := hv.below hb
  replace hbf := hbf.trans (hb.mono hbf.size)
  clear hb
  refine wp_region_seq (S := fun w' => Box3 w' pr (Value.bool rB) (Value.slice rxO rxL rxC) (Value.slice ryO ryL ryC) ∧ Box3 w' ps (Value.bool sB) (Value.slice sxO sxL sxC) (Value.slice syO syL syC) ∧ Box3 w' pt (Value.bool tB) (Value.slice txO txL txC) (Value.slice tyO tyL tyC)) [(true, 0), (true, 1), (true, 2), (true, 3), (true, 4), (true, 5), (true, 6), (true, 7), (true, 8), (true, 9), (true, 10), (true, 11), (true, 12), (false, 13), (true, 14), (true, 15), (true, 16), (true, 18), (false, 17), (false, 19), (true, 20), (true, 21), (true, 22), (true, 23), (true, 24), (false, 25), (true, 26), (true, 27), (true, 28), (true, 29), (true, 30), (true, 31), (true, 32), (true, 33), (true, 34), (true, 35), (true, 36), (true, 38), (false, 37), (false, 39), (false, 40), (false, 41), (true, 42), (true, 43), (true, 44)] (by kernel_rfl) (by kernel_rfl) (by kernel_rfl) (by kernel_rfl) (by kernel_rfl) (fun d _ _ _ _ h => by cases d <;> exact h) ⟨hbr.drew, hbs.drew, hbt.drew⟩ (fun _ => ?_)
  simp only [pickOps, List.append_eq, List.cons_append, List.nil_append, List.getElem?_toArray, List.getElem?_cons_succ, List.getElem?_cons_zero]
  have hb : Below w21.heap.size w21 w21.drew := (Below.refl _ _).drew
  generalize w21.drew = w22 at hb ⊢
  replace hbr := hbr.kept hb
  replace hbs := hbs.kept hb
  replace hbt := hbt.kept hb
  replace hbu := hbu.kept hb
  replace hbv := hbv.kept hb
  replace hn := hn.below hb
  replace hd := hd.below hb
  replace hrx := hrx.below hb
  replace hry := hry.below hb
  replace hr := hr.below hb
  replace hm := hm.below hb
  replace hk := hk.below hb
  replace hsx := hsx.below hb
  replace hsy := hsy.below hb
  replace hs := hs.below hb
  replace htx := htx.below hb
  replace hty := hty.below hb
  replace ht := ht.below hb
  replace hi := hi.below hb
  replace hj := hj.below hb
  replace hux := hux.below hb
  replace huy := huy.below hb
  replace hu := hu.below hb
  replace hvx := hvx.below hb
  replace hvy := hvy.below hb
  replace hv := hv.below hb
  replace hbf := hbf.trans (hb.mono hbf.size)
  clear hb
  repeat (first | (refine seq_take (v := ?_) (by rfl) ?_ ?_; rotate_left; (· intro w hSw; (try dsimp only at hSw); obtain ⟨⟨er0, er1, er2, _, _, _⟩, ⟨es0, es1, es2, _, _, _⟩, ⟨et0, et1, et2, _, _, _⟩⟩ := hSw; go_simp; all_goals with_reducible rfl); (try simp only [Act.put, List.setIfInBounds_toArray, List.set_cons_zero, List.set_cons_succ])) | (refine seq_leave (by rfl) ?_; (try simp only [Act.put, List.setIfInBounds_toArray, List.set_cons_zero, List.set_cons_succ])))
  refine seq_step (by rfl) (fun K hK => ?_)
  go_simp
  go_at_call 20
  (with_reducible refine (same_yes _ _ Q 30000 30000 _ hr hs hqb hqb (by decide)).mono ?_)
  rintro e w23 ⟨rfl, hb⟩
  replace hbr := hbr.kept hb
  replace hbs := hbs.kept hb
  replace hbt := hbt.kept hb
  replace hbu := hbu.kept hb
  replace hbv := hbv.kept hb
  replace hn := hn.below hb
  replace hd := hd.below hb
  replace hrx := hrx.below hb
  replace hry := hry.below hb
  replace hr := hr.below hb
  replace hm := hm.below hb
  replace hk := hk.below hb
  replace hsx := hsx.below hb
  replace hsy := hsy.below hb
  replace hs := hs.below hb
  replace htx := htx.below hb
  replace hty := hty.below hb
  replace ht := ht.below hb
  replace hi := hi.below hb
  replace hj := hj.below hb
  replace hux := hux.below hb
  replace huy := huy.below hb
  replace hu := hu.below hb
  replace hvx := hvx.below hb
  replace hvy := hvy.below hb
  replace hv := hv.below hb
  replace hbf := hbf.trans (hb.mono hbf.size)
  clear hb
  first | refine hK.out _ _ ⟨hbr, hbs, hbt⟩ (fun _ => ?_) | (go_wp2_with fail; refine hK.out _ _ ⟨hbr, hbs, hbt⟩ (fun _ => ?_))
  clear hK K
  (try simp only [Act.put, List.setIfInBounds_toArray, List.set_cons_zero, List.set_cons_succ])
  repeat (first | (refine seq_take (v := ?_) (by rfl) ?_ ?_; rotate_left; (· intro w hSw; (try dsimp only at hSw); obtain ⟨⟨er0, er1, er2, _, _, _⟩, ⟨es0, es1, es2, _, _, _⟩, ⟨et0, et1, et2, _, _, _⟩⟩ := hSw; go_simp; all_goals with_reducible rfl); (try simp only [Act.put, List.setIfInBounds_toArray, List.set_cons_zero, List.set_cons_succ])) | (refine seq_leave (by rfl) ?_; (try simp only [Act.put, List.setIfInBounds_toArray, List.set_cons_zero, List.set_cons_succ])))
  refine seq_step (by rfl) (fun K hK => ?_)
  go_simp
  go_at_call 12
  (with_reducible refine (qtext_any _ Q _ hr (hqb.mono (by decide))).mono ?_)
  rintro e w24 ⟨rfl, hb⟩
  replace hbr := hbr.kept hb
  replace hbs := hbs.kept hb
  replace hbt := hbt.kept hb
  replace hbu := hbu.kept hb
  replace hbv := hbv.kept hb
  replace hn := hn.below hb
  replace hd := hd.below hb
  replace hrx := hrx.below hb
  replace hry := hry.below hb
  replace hr := hr.below hb
  replace hm := hm.below hb
  replace hk := hk.below hb
  replace hsx := hsx.below hb
  replace hsy := hsy.below hb
  replace hs := hs.below hb
  replace htx := htx.below hb
  replace hty := hty.below hb
  replace ht := ht.below hb
  replace hi := hi.below hb
  replace hj := hj.below hb
  replace hux := hux.below hb
  replace huy := huy.below hb
  replace hu := hu.below hb
  replace hvx := hvx.below hb
  replace hvy := hvy.below hb
  replace hv := hv.below hb
  replace hbf := hbf.trans (hb.mono hbf.size)
  clear hb
  first | refine hK.out _ _ ⟨hbr, hbs, hbt⟩ (fun _ => ?_) | (go_wp2_with fail; refine hK.out _ _ ⟨hbr, hbs, hbt⟩ (fun _ => ?_))
  clear hK K
  (try simp only [Act.put, List.setIfInBounds_toArray, List.set_cons_zero, List.set_cons_succ])
  refine seq_step (by rfl) (fun K hK => ?_)
  go_simp
  go_at_call 12
  (with_reducible refine (qtext_any _ Q _ hs (hqb.mono (by decide))).mono ?_)
  rintro e w25 ⟨rfl, hb⟩
  replace hbr := hbr.kept hb
  replace hbs := hbs.kept hb
  replace hbt := hbt.kept hb
  replace hbu := hbu.kept hb
  replace hbv := hbv.kept hb
  replace hn := hn.below hb
  replace hd := hd.below hb
  replace hrx := hrx.below hb
  replace hry := hry.below hb
  replace hr := hr.below hb
  replace hm := hm.below hb
  replace hk := hk.below hb
  replace hsx := hsx.below hb
  replace hsy := hsy.below hb
  replace hs := hs.below hb
  replace htx := htx.below hb
  replace hty := hty.below hb
  replace ht := ht.below hb
  replace hi := hi.below hb
  replace hj := hj.below hb
  replace hux := hux.below hb
  replace huy := huy.below hb
  replace hu := hu.below hb
  replace hvx := hvx.below hb
  replace hvy := hvy.below hb
  replace hv := hv.below hb
  replace hbf := hbf.trans (hb.mono hbf.size)
  clear hb
  first | refine hK.out _ _ ⟨hbr, hbs, hbt⟩ (fun _ => ?_) | (go_wp2_with fail; refine hK.out _ _ ⟨hbr, hbs, hbt⟩ (fun _ => ?_))
  clear hK K
  (try simp only [Act.put, List.setIfInBounds_toArray, List.set_cons_zero, List.set_cons_succ])
  repeat (first | (refine seq_take (v := ?_) (by rfl) ?_ ?_; rotate_left; (· intro w hSw; (try dsimp only at hSw); obtain ⟨⟨er0, er1, er2, _, _, _⟩, ⟨es0, es1, es2, _, _, _⟩, ⟨et0, et1, et2, _, _, _⟩⟩ := hSw; go_simp; all_goals with_reducible rfl); (try simp only [Act.put, List.setIfInBounds_toArray, List.set_cons_zero, List.set_cons_succ])) | (refine seq_leave (by rfl) ?_; (try simp only [Act.put, List.setIfInBounds_toArray, List.set_cons_zero, List.set_cons_succ])))
  refine seq_step (by rfl) (fun K hK => ?_)
  go_simp
  go_at_call 20
  (with_reducible refine (same_yes _ _ Q 30000 30000 _ hr ht hqb hqb (by decide)).mono ?_)
  rintro e w26 ⟨rfl, hb⟩
  replace hbr := hbr.kept hb
  replace hbs := hbs.kept hb
  replace hbt := hbt.kept hb
  replace hbu := hbu.kept hb
  replace hbv := hbv.kept hb
  replace hn := hn.below hb
  replace hd := hd.below hb
  replace hrx := hrx.below hb
  replace hry := hry.below hb
  replace hr := hr.below hb
  replace hm := hm.below hb
  replace hk := hk.below hb
  replace hsx := hsx.below hb
  replace hsy := hsy.below hb
  replace hs := hs.below hb
  replace htx := htx.below hb
  replace hty := hty.below hb
  replace ht := ht.below hb
  replace hi := hi.below hb
  replace hj := hj.below hb
  replace hux := hux.below hb
  replace huy := huy.below hb
  replace hu := hu.below hb
  replace hvx := hvx.below hb
  replace hvy := hvy.below hb
  replace hv := hv.below hb
  replace hbf := hbf.trans (hb.mono hbf.size)
  clear hb
  first | refine hK.out _ _ ⟨hbr, hbs, hbt⟩ (fun _ => ?_) | (go_wp2_with fail; refine hK.out _ _ ⟨hbr, hbs, hbt⟩ (fun _ => ?_))
  clear hK K
  (try simp only [Act.put, List.setIfInBounds_toArray, List.set_cons_zero, List.set_cons_succ])
  repeat (first | (refine seq_take (v := ?_) (by rfl) ?_ ?_; rotate_left; (· intro w hSw; (try dsimp only at hSw); obtain ⟨⟨er0, er1, er2, _, _, _⟩, ⟨es0, es1, es2, _, _, _⟩, ⟨et0, et1, et2, _, _, _⟩⟩ := hSw; go_simp; all_goals with_reducible rfl); (try simp only [Act.put, List.setIfInBounds_toArray, List.set_cons_zero, List.set_cons_succ])) | (refine seq_leave (by rfl) ?_; (try simp only [Act.put, List.setIfInBounds_toArray, List.set_cons_zero, List.set_cons_succ])))
  refine seq_step (by rfl) (fun K hK => ?_)
  go_simp
  go_at_call 22
  (with_reducible refine (num_any _ Q _ hr).mono ?_)
  rintro e w27 ⟨r9, rfl, hx, hb⟩
  obtain ⟨xO, xL, xC, rfl⟩ := hx.form
  replace hbr := hbr.kept hb
  replace hbs := hbs.kept hb
  replace hbt := hbt.kept hb
  replace hbu := hbu.kept hb
  replace hbv := hbv.kept hb
  replace hn := hn.below hb
  replace hd := hd.below hb
  replace hrx := hrx.below hb
  replace hry := hry.below hb
  replace hr := hr.below hb
  replace hm := hm.below hb
  replace hk := hk.below hb
  replace hsx := hsx.below hb
  replace hsy := hsy.below hb
  replace hs := hs.below hb
  replace htx := htx.below hb
  replace hty := hty.below hb
  replace ht := ht.below hb
  replace hi := hi.below hb
  replace hj := hj.below hb
  replace hux := hux.below hb
  replace huy := huy.below hb
  replace hu := hu.below hb
  replace hvx := hvx.below hb
  replace hvy := hvy.below hb
  replace hv := hv.below hb
  replace hbf := hbf.trans (hb.mono hbf.size)
  clear hb
  first | refine hK.out _ _ ⟨hbr, hbs, hbt⟩ (fun _ => ?_) | (go_wp2_with fail; refine hK.out _ _ ⟨hbr, hbs, hbt⟩ (fun _ => ?_))
  clear hK K
  (try simp only [Act.put, List.setIfInBounds_toArray, List.set_cons_zero, List.set_cons_succ])
  refine seq_step (by rfl) (fun K hK => ?_)
  go_simp
  go_at_call 23
  (with_reducible refine (den_any _ Q _ hr).mono ?_)
  rintro e w28 ⟨r9, rfl, hy, hb⟩
  obtain ⟨yO, yL, yC, rfl⟩ := hy.form
  replace hbr := hbr.kept hb
  replace hbs := hbs.kept hb
  replace hbt := hbt.kept hb
  replace hbu := hbu.kept hb
  replace hbv := hbv.kept hb
  replace hn := hn.below hb
  replace hd := hd.below hb
  replace hrx := hrx.below hb
  replace hry := hry.below hb
  replace hr := hr.below hb
  replace hm := hm.below hb
  replace hk := hk.below hb
  replace hsx := hsx.below hb
  replace hsy := hsy.below hb
  replace hs := hs.below hb
  replace htx := htx.below hb
  replace hty := hty.below hb
  replace ht := ht.below hb
  replace hi := hi.below hb
  replace hj := hj.below hb
  replace hux := hux.below hb
  replace huy := huy.below hb
  replace hu := hu.below hb
  replace hvx := hvx.below hb
  replace hvy := hvy.below hb
  replace hv := hv.below hb
  replace hx := hx.below hb
  replace hbf := hbf.trans (hb.mono hbf.size)
  clear hb
  first | refine hK.out _ _ ⟨hbr, hbs, hbt⟩ (fun _ => ?_) | (go_wp2_with fail; refine hK.out _ _ ⟨hbr, hbs, hbt⟩ (fun _ => ?_))
  clear hK K
  (try simp only [Act.put, List.setIfInBounds_toArray, List.set_cons_zero, List.set_cons_succ])
  refine seq_step (by rfl) (fun K hK => ?_)
  go_simp
  go_at_call 21
  (with_reducible refine (gcd_any _ _ _ _ _ hx hy hqb1 hqb2).mono ?_)
  rintro e w29 ⟨r9, rfl, hg, hb⟩
  obtain ⟨gO, gL, gC, rfl⟩ := hg.form
  replace hbr := hbr.kept hb
  replace hbs := hbs.kept hb
  replace hbt := hbt.kept hb
  replace hbu := hbu.kept hb
  replace hbv := hbv.kept hb
  replace hn := hn.below hb
  replace hd := hd.below hb
  replace hrx := hrx.below hb
  replace hry := hry.below hb
  replace hr := hr.below hb
  replace hm := hm.below hb
  replace hk := hk.below hb
  replace hsx := hsx.below hb
  replace hsy := hsy.below hb
  replace hs := hs.below hb
  replace htx := htx.below hb
  replace hty := hty.below hb
  replace ht := ht.below hb
  replace hi := hi.below hb
  replace hj := hj.below hb
  replace hux := hux.below hb
  replace huy := huy.below hb
  replace hu := hu.below hb
  replace hvx := hvx.below hb
  replace hvy := hvy.below hb
  replace hv := hv.below hb
  replace hx := hx.below hb
  replace hy := hy.below hb
  replace hbf := hbf.trans (hb.mono hbf.size)
  clear hb
  first | refine hK.out _ _ ⟨hbr, hbs, hbt⟩ (fun _ => ?_) | (go_wp2_with fail; refine hK.out _ _ ⟨hbr, hbs, hbt⟩ (fun _ => ?_))
  clear hK K
  (try simp only [Act.put, List.setIfInBounds_toArray, List.set_cons_zero, List.set_cons_succ])
  refine seq_step (by rfl) (fun K hK => ?_)
  rw [HCOP.out] at hg
  go_simp
  go_at_call 19
  (with_reducible refine (text_any _ 1 _ hg (by rw [limbs_one]; decide)).mono ?_)
  rintro e w30 ⟨rfl, hb⟩
  replace hbr := hbr.kept hb
  replace hbs := hbs.kept hb
  replace hbt := hbt.kept hb
  replace hbu := hbu.kept hb
  replace hbv := hbv.kept hb
  replace hn := hn.below hb
  replace hd := hd.below hb
  replace hrx := hrx.below hb
  replace hry := hry.below hb
  replace hr := hr.below hb
  replace hm := hm.below hb
  replace hk := hk.below hb
  replace hsx := hsx.below hb
  replace hsy := hsy.below hb
  replace hs := hs.below hb
  replace htx := htx.below hb
  replace hty := hty.below hb
  replace ht := ht.below hb
  replace hi := hi.below hb
  replace hj := hj.below hb
  replace hux := hux.below hb
  replace huy := huy.below hb
  replace hu := hu.below hb
  replace hvx := hvx.below hb
  replace hvy := hvy.below hb
  replace hv := hv.below hb
  replace hx := hx.below hb
  replace hy := hy.below hb
  replace hg := hg.below hb
  replace hbf := hbf.trans (hb.mono hbf.size)
  clear hb
  rw [str_dec_one]
  first | refine hK.out _ _ ⟨hbr, hbs, hbt⟩ (fun _ => ?_) | (go_wp2_with fail; refine hK.out _ _ ⟨hbr, hbs, hbt⟩ (fun _ => ?_))
  clear hK K
  (try simp only [Act.put, List.setIfInBounds_toArray, List.set_cons_zero, List.set_cons_succ])
  repeat (first | (refine seq_take (v := ?_) (by rfl) ?_ ?_; rotate_left; (· intro w hSw; (try dsimp only at hSw); obtain ⟨⟨er0, er1, er2, _, _, _⟩, ⟨es0, es1, es2, _, _, _⟩, ⟨et0, et1, et2, _, _, _⟩⟩ := hSw; go_simp; all_goals with_reducible rfl); (try simp only [Act.put, List.setIfInBounds_toArray, List.set_cons_zero, List.set_cons_succ])) | (refine seq_leave (by rfl) ?_; (try simp only [Act.put, List.setIfInBounds_toArray, List.set_cons_zero, List.set_cons_succ])))
  refine seq_end ?_
  go_wp2_with fail
  go_ret
  exact ⟨rfl, hbf⟩

theorem ratTexts_walk (a0 a1 a2 : Int) (w0 : (Lit.int .u64 a0).wf = true) (w1 : (Lit.int .u64 a1).wf = true) (w2 : (Lit.int .i64 a2).wf = true) (w : World) :
    Calls Tryd.prog 4 #[.int .u64 a0, .int .u64 a1, .int .i64 a2] w fun e w' => e = .returned (.bool true) ∧ Below w.heap.size w w' := by
  have h0 := wf_u64 w0
  have h1 := wf_u64 w1
  by_cases h : a1.toNat = 0 ∨ a0.toNat = 0 ∨ 1073741824 < a0.toNat ∨ 1073741824 < a1.toNat ∨ a2 < 2 ∨ 1000 < a2
  · have := ratTexts_early a0.toNat a1.toNat a2 w h
    rwa [Int.toNat_of_nonneg h0.1, Int.toNat_of_nonneg h1.1] at this
  · have := ratTexts_main a0.toNat a1.toNat a2.toNat w (by omega) (by omega) (by omega) (by omega) (by omega) (by omega)
    rwa [Int.toNat_of_nonneg h0.1, Int.toNat_of_nonneg h1.1, Int.toNat_of_nonneg (by omega)] at this

end Go.Proofs.YtacflncmbnildaaDoor
