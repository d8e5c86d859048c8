/-
  DecBack: the walk.
-/
import Derived.Test.YtkghahehkeaikaaDoorLawEA
import Derived.Deep.DeepCutAuto
import Derived.WalkMore
import Derived.Laws.StructEq
namespace Go.Proofs.YtkghahehkeaikaaDoor
open Go.RowKit
set_option linter.unusedVariables false
set_option linter.unusedSimpArgs false
attribute [local go_sem] field_nat

theorem same_y (va vc : Value) (a c : Rat) (w : World) (ha : QIs w va a) (hc : QIs w vc c) (hla : QB a 1300) (hlc : QB c 1300) (hac : a = c) :
    Calls Tryd.prog 17 #[va, vc] w fun e w' => e = .returned (.bool true) ∧ Below w.heap.size w w' := by
  have := same_q va vc a c 1300 1300 w ha hc hla hlc (by decide)
  rwa [decide_eq_true hac] at this
set_option maxRecDepth 100000 in
set_option maxHeartbeats 1000000 in
theorem decBack_early (l : List UInt8) (k : Int) (w : World) (h : 150 < l.length ∨ k < 0 ∨ 40 < k) :
    Calls Tryd.prog 4 #[.string ⟨l.toArray⟩, .int .i64 k] w fun e w' => e = .returned (.bool true) ∧ Below w.heap.size w w' := by
  by_cases h1 : (150 : Int) < ((l.length : Nat) : Int)
  · clear h
    go_enter Tryd.func4, Tryd.ntmps4
    go_wp2_with (go_at_call 5; refine (alive3_any _).mono ?_; rintro e w' ⟨rfl, hb⟩)
    go_ret
    exact ⟨rfl, hb⟩
  by_cases h2 : k < 0
  · clear h
    go_enter Tryd.func4, Tryd.ntmps4
    go_wp2_with (go_at_call 5; refine (alive3_any _).mono ?_; rintro e w' ⟨rfl, hb⟩)
    go_ret
    exact ⟨rfl, hb⟩
  by_cases h3 : 40 < k
  · clear h
    go_enter Tryd.func4, Tryd.ntmps4
    go_wp2_with (go_at_call 5; refine (alive3_any _).mono ?_; rintro e w' ⟨rfl, hb⟩)
    go_ret
    exact ⟨rfl, hb⟩
  omega
theorem byte46 {c : UInt8} (h : ¬ c = 46) : ((c.toNat : Int) == 46) = false := by
  rw [beq_eq_false_iff_ne]; intro e; apply h; rw [← UInt8.toNat_inj]; show c.toNat = 46; omega
theorem take46 {l : List UInt8} {k : Nat} (hk : k < l.length) : decide (46 ∈ l.take (k + 1)) = (decide (46 ∈ l.take k) || decide (l[k]?.getD 0 = 46)) := by
  rw [List.take_add_one, List.getElem?_eq_getElem hk]
  simp only [Option.toList_some, Option.getD_some, List.mem_append, List.mem_singleton, Bool.decide_or]
  congr 1
  exact decide_eq_decide.2 ⟨Eq.symm, Eq.symm⟩

set_option maxRecDepth 100000 in
set_option maxHeartbeats 8000000 in
/-- DecBack. -/
theorem decBack_main (l : List UInt8) (k : Nat) (w : World) (hl : l.length ≤ 150) (hk : k ≤ 40) :
    Calls Tryd.prog 4 #[.string ⟨l.toArray⟩, .int .i64 (k : Int)] w fun e w' => e = .returned (.bool true) ∧ Below w.heap.size w w' := by
  have k1 : ¬ (150 : Int) < ((l.length : Nat) : Int) := by omega
  have k2 : ¬ ((k : Nat) : Int) < 0 := by omega
  have k3 : ¬ (40 : Int) < ((k : Nat) : Int) := by omega
  obtain ⟨q, hq⟩ : ∃ q, q = litVal l := ⟨_, rfl⟩
  obtain ⟨c, hc⟩ : ∃ c, c = litCode l := ⟨_, rfl⟩
  have hok : LOk q := by rw [hq]; exact LOk.lit (by omega)
  have HF : Hid (true = fin q) := Lib.hid (by rw [hq]; exact (fin_lit l).symm)
  have HQ := Lib.hid hq
  have HC := Lib.hid hc
  clear hq hc
  have hbf : Below w.heap.size w w := Below.refl _ _
  go_enter Tryd.func4, Tryd.ntmps4
  go_wp2_with fail
  refine (alive3_any _).mono ?_
  rintro e w1 ⟨rfl, hb⟩
  replace hbf := hbf.trans (hb.mono hbf.size)
  clear hb
  go_wp2_with fail
  refine (lparse_q l q c _ HQ HC (by omega)).mono ?_
  rintro e w2 hq9
  obtain ⟨rB, rxO, rxL, rxC, ryO, ryL, ryC, rfl, hS, hrx, hry, hr, hb⟩ := hq9.out
  have HrS := Lib.hid hS; clear hS
  replace hbf := hbf.trans (hb.mono hbf.size)
  clear hb
  obtain ⟨w3, hwE⟩ : ∃ W, W = (w2.alloc (.cells #[.bool rB, .slice rxO rxL rxC, .slice ryO ryL ryC] 33)) := ⟨_, rfl⟩
  have hb : Below w2.heap.size w2 w3 := by rw [hwE]; exact ((Below.refl _ w2).alloc (Nat.le_refl _) _)
  obtain ⟨pr, hpr⟩ : ∃ p, p = w2.heap.size := ⟨_, rfl⟩
  have hbr : Box3 w3 pr (Value.bool rB) (Value.slice rxO rxL rxC) (Value.slice ryO ryL ryC) := by rw [hwE, hpr]; exact ⟨by go_simp, by go_simp, by go_simp, by go_simp, by go_simp, by go_simp⟩
  have HP : Hid (w.heap.size ≤ pr) := Lib.hid (by have h9 := hbf.size; omega)
  have HW := Lib.hid hwE; clear hwE
  go_upto_region 4 with fail
  rw [← HW.out, ← hpr]
  clear hpr HW
  replace hrx := hrx.below hb
  replace hry := hry.below hb
  replace hr := hr.below hb
  replace hbf := hbf.trans (hb.mono hbf.size)
  clear hb
  by_cases hc0 : ¬ c = 0
  case pos =>
    have hc9 : (c == 0) = false := by rw [beq_eq_false_iff_ne]; exact hc0
    have hq0 : q = 0 := by rw [HQ.out]; unfold litVal; rw [← HC.out, if_neg hc0]
    have HT : Hid ([48] = qtext q) := Lib.hid (by rw [hq0, qt_z])
    clear hq0
    have er0 := hbr.c0
    have er1 := hbr.c1
    have er2 := hbr.c2
    go_wp2_with fail
    refine (qtext_t _ q [48] _ hr (hok.1.mono (by decide)) HT).mono ?_
    rintro e w4 ⟨rfl, hb⟩
    clear er0 er1 er2
    replace hbr := hbr.kept hb
    replace hrx := hrx.below hb
    replace hry := hry.below hb
    replace hr := hr.below hb
    replace hbf := hbf.trans (hb.mono hbf.size)
    clear hb
    go_wp2_with fail
    go_ret
    exact ⟨rfl, hbf⟩
  case neg =>
    obtain rfl : c = 0 := by omega
    clear hc0
    obtain ⟨T, hT⟩ : ∃ T, T = litText q := ⟨_, rfl⟩
    have HT : Hid (T = if true = true then litText q else []) := Lib.hid hT
    have HT1 := Lib.hid hT
    clear hT
    have er0 := hbr.c0
    have er1 := hbr.c1
    have er2 := hbr.c2
    go_wp2_with fail
    refine (ltext_c _ q T true 0 _ hr hok HF HT (Lib.hid rfl)).mono ?_
    rintro e w4 ⟨rfl, hb⟩
    clear er0 er1 er2
    replace hbr := hbr.kept hb
    replace hrx := hrx.below hb
    replace hry := hry.below hb
    replace hr := hr.below hb
    replace hbf := hbf.trans (hb.mono hbf.size)
    clear hb
    by_cases hlT : 300 < T.length
    case pos =>
      have k4 : (300 : Int) < ((T.length : Nat) : Int) := by omega
      go_wp2_with fail
      go_ret
      exact ⟨rfl, hbf⟩
    case neg =>
      have k4 : ¬ (300 : Int) < ((T.length : Nat) : Int) := by omega
      have hbk := lit_back HF.out.symm 0 (by rw [← HT1.out]; omega) (by omega)
      rw [List.replicate_zero, List.append_nil, ← HT1.out] at hbk
      have HC1 : Hid ((0 : Int) = litCode T) := Lib.hid hbk.1.symm
      have HQ1 : Hid (q = litVal T) := Lib.hid hbk.2.symm
      clear hbk
      go_wp2_with fail
      refine (lparse_q T q 0 _ HQ1 HC1 (by omega)).mono ?_
      rintro e w5 hq9
      obtain ⟨aB, axO, axL, axC, ayO, ayL, ayC, rfl, hS, hax, hay, ha, hb⟩ := hq9.out
      have HaS := Lib.hid hS; clear hS
      replace hbr := hbr.kept hb
      replace hrx := hrx.below hb
      replace hry := hry.below hb
      replace hr := hr.below hb
      replace hbf := hbf.trans (hb.mono hbf.size)
      clear hb
      obtain ⟨w6, hwE⟩ : ∃ W, W = (w5.alloc (.cells #[.bool aB, .slice axO axL axC, .slice ayO ayL ayC] 33)) := ⟨_, rfl⟩
      have hb : Below w5.heap.size w5 w6 := by rw [hwE]; exact ((Below.refl _ w5).alloc (Nat.le_refl _) _)
      obtain ⟨pa, hpa⟩ : ∃ p, p = w5.heap.size := ⟨_, rfl⟩
      have hba : Box3 w6 pa (Value.bool aB) (Value.slice axO axL axC) (Value.slice ayO ayL ayC) := by rw [hwE, hpa]; exact ⟨by go_simp, by go_simp, by go_simp, by go_simp, by go_simp, by go_simp⟩
      replace HP : Hid (w.heap.size ≤ pr ∧ pr < pa) := Lib.hid (by have h1 := HP.out; have h9 := hbf.size; have h2r := hbr.lt; omega)
      have HW := Lib.hid hwE; clear hwE
      go_upto_region 10 with fail
      rw [← HW.out, ← hpa]
      clear hpa HW
      replace hbr := hbr.kept hb
      replace hrx := hrx.below hb
      replace hry := hry.below hb
      replace hr := hr.below hb
      replace hax := hax.below hb
      replace hay := hay.below hb
      replace ha := ha.below hb
      replace hbf := hbf.trans (hb.mono hbf.size)
      clear hb
      clear hrx hry hax hay
      go_wp2_with fail
      go_loopg [11, 12] T.length (fun gg bv iv wr => ∃ i : Nat, i + gg = T.length ∧ bv = .bool (decide (46 ∈ T.take i)) ∧ iv = .int .i64 (i : Int) ∧ w6 = wr)
      case atStart => exact ⟨0, by omega, rfl, rfl, rfl⟩
      case round =>
        obtain ⟨i, hi, rfl, rfl, rfl⟩ := hrel
        by_cases hil : i < T.length
        case pos =>
          have hby := byte_at T i hil (by simpa [ByteArray.size] using hil)
          have HTK := Lib.hid (take46 hil)
          have hil2 : ((i : Nat) : Int) < ((T.length : Nat) : Int) := by omega
          generalize T[i]?.getD 0 = c at *
          generalize decide (46 ∈ T.take i) = bt at *
          cases bt
          case false =>
            by_cases hc46 : c = 46
            case pos =>
              subst hc46
              go_wp2_with fail
              go_roundg (gk - 1)
              case measure => omega
              case rel => exact ⟨i + 1, by omega, by rw [HTK.out]; rfl, by go_num, rfl⟩
            case neg =>
              have hb46 := byte46 hc46
              have hd46 : decide (c = 46) = false := decide_eq_false hc46
              have HD46 := Lib.hid hd46
              clear hd46
              go_wp2_with fail
              go_roundg (gk - 1)
              case measure => omega
              case rel => exact ⟨i + 1, by omega, by rw [HTK.out, HD46.out]; rfl, by go_num, rfl⟩
          case true =>
            go_wp2_with fail
            go_roundg (gk - 1)
            case measure => omega
            case rel => exact ⟨i + 1, by omega, by rw [HTK.out]; rfl, by go_num, rfl⟩
        case neg =>
          obtain rfl : i = T.length := by omega
          rw [List.take_length]
          obtain ⟨pt, hpt⟩ : ∃ b, b = decide (46 ∈ T) := ⟨_, rfl⟩
          rw [← hpt]
          have HPT := Lib.hid hpt
          clear hpt
          cases pt
          case false =>
            have hp0 : places q = 0 := by have h1 := mem46 q; rw [← HT1.out] at h1; have h2 : ¬ 46 ∈ T := of_decide_eq_false HPT.out.symm; have h3 : ¬ 0 < places q := fun h => h2 (h1.2 h); omega
            obtain ⟨U, hU⟩ : ∃ U, U = T ++ [46] := ⟨_, rfl⟩
            have hU1 : (⟨T.toArray⟩ ++ ⟨#[46]⟩ : ByteArray) = ⟨U.toArray⟩ := by rw [hU]; exact bytes_append T [46]
            have hUl : U.length ≤ 301 := by rw [hU, List.length_append]; simp; omega
            have HU := Lib.hid hU
            clear hU
            go_wp2_with fail
            obtain ⟨go, hgo⟩ : ∃ go, go = gk := ⟨_, rfl⟩
            subst hgo
            go_loopg [7, 13] k (fun gg tv iv wr => ∃ i : Nat, i + gg = k ∧ tv = .string ⟨(U ++ List.replicate i 48).toArray⟩ ∧ iv = .int .i64 (i : Int) ∧ w6 = wr)
            case atStart => exact ⟨0, by omega, by simp, rfl, rfl⟩
            case round =>
              obtain ⟨i, hi, rfl, rfl, rfl⟩ := hrel
              obtain ⟨Y, hY⟩ : ∃ Y, Y = U ++ List.replicate i 48 := ⟨_, rfl⟩
              rw [← hY]
              have hYl : Y.length ≤ 400 := by rw [hY, List.length_append, List.length_replicate]; omega
              have HY := Lib.hid hY
              clear hY
              by_cases hik : i < k
              case pos =>
                have hY1 : (⟨Y.toArray⟩ ++ ⟨#[48]⟩ : ByteArray) = ⟨(Y ++ [48]).toArray⟩ := bytes_append Y [48]
                have hY2 : Y ++ [48] = U ++ List.replicate (i + 1) 48 := by rw [HY.out, List.replicate_succ', List.append_assoc]
                have HY2 := Lib.hid hY2
                clear hY2
                obtain ⟨Z, hZ⟩ : ∃ Z, Z = Y ++ [48] := ⟨_, rfl⟩
                rw [← hZ] at hY1
                have HZ := Lib.hid hZ
                clear hZ
                go_wp2_with fail
                go_roundg (gk - 1)
                case measure => omega
                case rel => exact ⟨i + 1, by omega, by rw [HZ.out, HY2.out], by go_num, rfl⟩
              case neg =>
                obtain rfl : k = i := by omega
                have hbk := lit_back_point HF.out.symm k (by rw [← HT1.out]; omega) hp0
                rw [← HT1.out] at hbk
                have hbk2 : litCode Y = 0 ∧ litVal Y = q := by rw [HY.out, HU.out]; exact hbk
                have HC2 : Hid ((0 : Int) = litCode Y) := Lib.hid hbk2.1.symm
                have HQ2 : Hid (q = litVal Y) := Lib.hid hbk2.2.symm
                clear hbk hbk2
                go_wp2_with fail
                refine (lparse_q Y q 0 _ HQ2 HC2 (by omega)).mono ?_
                rintro e w7 hq9
                obtain ⟨zB, zxO, zxL, zxC, zyO, zyL, zyC, rfl, hS, hzx, hzy, hz, hb⟩ := hq9.out
                have HzS := Lib.hid hS; clear hS
                replace hbr := hbr.kept hb
                replace hba := hba.kept hb
                replace hr := hr.below hb
                replace ha := ha.below hb
                replace hbf := hbf.trans (hb.mono hbf.size)
                clear hb
                obtain ⟨w8, hwE⟩ : ∃ W, W = (w7.alloc (.cells #[.bool zB, .slice zxO zxL zxC, .slice zyO zyL zyC] 33)) := ⟨_, rfl⟩
                have hb : Below w7.heap.size w7 w8 := by rw [hwE]; exact ((Below.refl _ w7).alloc (Nat.le_refl _) _)
                obtain ⟨pz, hpz⟩ : ∃ p, p = w7.heap.size := ⟨_, rfl⟩
                have hbz : Box3 w8 pz (Value.bool zB) (Value.slice zxO zxL zxC) (Value.slice zyO zyL zyC) := by rw [hwE, hpz]; exact ⟨by go_simp, by go_simp, by go_simp, by go_simp, by go_simp, by go_simp⟩
                replace HP : Hid (w.heap.size ≤ pr ∧ pr < pa ∧ pa < pz) := Lib.hid (by have h1 := HP.out; have h9 := hbf.size; have h2a := hba.lt; omega)
                have HW := Lib.hid hwE; clear hwE
                go_upto_region 22 with fail
                rw [← HW.out, ← hpz]
                clear hpz HW
                replace hbr := hbr.kept hb
                replace hba := hba.kept hb
                replace hr := hr.below hb
                replace ha := ha.below hb
                replace hzx := hzx.below hb
                replace hzy := hzy.below hb
                replace hz := hz.below hb
                replace hbf := hbf.trans (hb.mono hbf.size)
                clear hb
                have ea0 := hba.c0
                have ea1 := hba.c1
                have ea2 := hba.c2
                have ez0 := hbz.c0
                have ez1 := hbz.c1
                have ez2 := hbz.c2
                have er0 := hbr.c0
                have er1 := hbr.c1
                have er2 := hbr.c2
                go_wp2_with fail
                refine (same_y _ _ q q _ ha hr hok.1 hok.1 rfl).mono ?_
                rintro e w9 ⟨rfl, hb⟩
                clear ea0 ea1 ea2 ez0 ez1 ez2 er0 er1 er2
                replace hbr := hbr.kept hb
                replace hba := hba.kept hb
                replace hbz := hbz.kept hb
                replace hr := hr.below hb
                replace ha := ha.below hb
                replace hzx := hzx.below hb
                replace hzy := hzy.below hb
                replace hz := hz.below hb
                replace hbf := hbf.trans (hb.mono hbf.size)
                clear hb
                have ea0 := hba.c0
                have ea1 := hba.c1
                have ea2 := hba.c2
                have ez0 := hbz.c0
                have ez1 := hbz.c1
                have ez2 := hbz.c2
                have er0 := hbr.c0
                have er1 := hbr.c1
                have er2 := hbr.c2
                go_wp2_with fail
                refine (same_y _ _ q q _ hz hr hok.1 hok.1 rfl).mono ?_
                rintro e w10 ⟨rfl, hb⟩
                clear ea0 ea1 ea2 ez0 ez1 ez2 er0 er1 er2
                replace hbr := hbr.kept hb
                replace hba := hba.kept hb
                replace hbz := hbz.kept hb
                replace hr := hr.below hb
                replace ha := ha.below hb
                replace hzx := hzx.below hb
                replace hzy := hzy.below hb
                replace hz := hz.below hb
                replace hbf := hbf.trans (hb.mono hbf.size)
                clear hb
                go_wp2_with fail
                go_ret
                exact ⟨rfl, hbf⟩
          case true =>
            have hp0 : 0 < places q := by have h1 := mem46 q; rw [← HT1.out] at h1; exact h1.1 (of_decide_eq_true HPT.out.symm)
            obtain ⟨U, hU⟩ : ∃ U, U = T := ⟨_, rfl⟩
            have hUl : U.length ≤ 301 := by rw [hU]; omega
            have HU := Lib.hid hU
            rw [← hU]
            clear hU
            go_wp2_with fail
            obtain ⟨go, hgo⟩ : ∃ go, go = gk := ⟨_, rfl⟩
            subst hgo
            go_loopg [7, 13] k (fun gg tv iv wr => ∃ i : Nat, i + gg = k ∧ tv = .string ⟨(U ++ List.replicate i 48).toArray⟩ ∧ iv = .int .i64 (i : Int) ∧ w6 = wr)
            case atStart => exact ⟨0, by omega, by simp, rfl, rfl⟩
            case round =>
              obtain ⟨i, hi, rfl, rfl, rfl⟩ := hrel
              obtain ⟨Y, hY⟩ : ∃ Y, Y = U ++ List.replicate i 48 := ⟨_, rfl⟩
              rw [← hY]
              have hYl : Y.length ≤ 400 := by rw [hY, List.length_append, List.length_replicate]; omega
              have HY := Lib.hid hY
              clear hY
              by_cases hik : i < k
              case pos =>
                have hY1 : (⟨Y.toArray⟩ ++ ⟨#[48]⟩ : ByteArray) = ⟨(Y ++ [48]).toArray⟩ := bytes_append Y [48]
                have hY2 : Y ++ [48] = U ++ List.replicate (i + 1) 48 := by rw [HY.out, List.replicate_succ', List.append_assoc]
                have HY2 := Lib.hid hY2
                clear hY2
                obtain ⟨Z, hZ⟩ : ∃ Z, Z = Y ++ [48] := ⟨_, rfl⟩
                rw [← hZ] at hY1
                have HZ := Lib.hid hZ
                clear hZ
                go_wp2_with fail
                go_roundg (gk - 1)
                case measure => omega
                case rel => exact ⟨i + 1, by omega, by rw [HZ.out, HY2.out], by go_num, rfl⟩
              case neg =>
                obtain rfl : k = i := by omega
                have hbk := lit_back HF.out.symm k (by rw [← HT1.out]; omega) (fun _ => hp0)
                rw [← HT1.out] at hbk
                have hbk2 : litCode Y = 0 ∧ litVal Y = q := by rw [HY.out, HU.out]; exact hbk
                have HC2 : Hid ((0 : Int) = litCode Y) := Lib.hid hbk2.1.symm
                have HQ2 : Hid (q = litVal Y) := Lib.hid hbk2.2.symm
                clear hbk hbk2
                go_wp2_with fail
                refine (lparse_q Y q 0 _ HQ2 HC2 (by omega)).mono ?_
                rintro e w7 hq9
                obtain ⟨zB, zxO, zxL, zxC, zyO, zyL, zyC, rfl, hS, hzx, hzy, hz, hb⟩ := hq9.out
                have HzS := Lib.hid hS; clear hS
                replace hbr := hbr.kept hb
                replace hba := hba.kept hb
                replace hr := hr.below hb
                replace ha := ha.below hb
                replace hbf := hbf.trans (hb.mono hbf.size)
                clear hb
                obtain ⟨w8, hwE⟩ : ∃ W, W = (w7.alloc (.cells #[.bool zB, .slice zxO zxL zxC, .slice zyO zyL zyC] 33)) := ⟨_, rfl⟩
                have hb : Below w7.heap.size w7 w8 := by rw [hwE]; exact ((Below.refl _ w7).alloc (Nat.le_refl _) _)
                obtain ⟨pz, hpz⟩ : ∃ p, p = w7.heap.size := ⟨_, rfl⟩
                have hbz : Box3 w8 pz (Value.bool zB) (Value.slice zxO zxL zxC) (Value.slice zyO zyL zyC) := by rw [hwE, hpz]; exact ⟨by go_simp, by go_simp, by go_simp, by go_simp, by go_simp, by go_simp⟩
                replace HP : Hid (w.heap.size ≤ pr ∧ pr < pa ∧ pa < pz) := Lib.hid (by have h1 := HP.out; have h9 := hbf.size; have h2a := hba.lt; omega)
                have HW := Lib.hid hwE; clear hwE
                go_upto_region 22 with fail
                rw [← HW.out, ← hpz]
                clear hpz HW
                replace hbr := hbr.kept hb
                replace hba := hba.kept hb
                replace hr := hr.below hb
                replace ha := ha.below hb
                replace hzx := hzx.below hb
                replace hzy := hzy.below hb
                replace hz := hz.below hb
                replace hbf := hbf.trans (hb.mono hbf.size)
                clear hb
                have ea0 := hba.c0
                have ea1 := hba.c1
                have ea2 := hba.c2
                have ez0 := hbz.c0
                have ez1 := hbz.c1
                have ez2 := hbz.c2
                have er0 := hbr.c0
                have er1 := hbr.c1
                have er2 := hbr.c2
                go_wp2_with fail
                refine (same_y _ _ q q _ ha hr hok.1 hok.1 rfl).mono ?_
                rintro e w9 ⟨rfl, hb⟩
                clear ea0 ea1 ea2 ez0 ez1 ez2 er0 er1 er2
                replace hbr := hbr.kept hb
                replace hba := hba.kept hb
                replace hbz := hbz.kept hb
                replace hr := hr.below hb
                replace ha := ha.below hb
                replace hzx := hzx.below hb
                replace hzy := hzy.below hb
                replace hz := hz.below hb
                replace hbf := hbf.trans (hb.mono hbf.size)
                clear hb
                have ea0 := hba.c0
                have ea1 := hba.c1
                have ea2 := hba.c2
                have ez0 := hbz.c0
                have ez1 := hbz.c1
                have ez2 := hbz.c2
                have er0 := hbr.c0
                have er1 := hbr.c1
                have er2 := hbr.c2
                go_wp2_with fail
                refine (same_y _ _ q q _ hz hr hok.1 hok.1 rfl).mono ?_
                rintro e w10 ⟨rfl, hb⟩
                clear ea0 ea1 ea2 ez0 ez1 ez2 er0 er1 er2
                replace hbr := hbr.kept hb
                replace hba := hba.kept hb
                replace hbz := hbz.kept hb
                replace hr := hr.below hb
                replace ha := ha.below hb
                replace hzx := hzx.below hb
                replace hzy := hzy.below hb
                replace hz := hz.below hb
                replace hbf := hbf.trans (hb.mono hbf.size)
                clear hb
                go_wp2_with fail
                go_ret
                exact ⟨rfl, hbf⟩

theorem decBack_walk (a0 : ByteArray) (a1 : Int) (w0 : a0.size ≤ maxLen) (w1 : (Lit.int .i64 a1).wf = true) (w : World) :
    Calls Tryd.prog 4 #[.string a0, .int .i64 a1] w fun e w' => e = .returned (.bool true) ∧ Below w.heap.size w w' := by
  obtain ⟨l, rfl⟩ : ∃ l : List UInt8, a0 = ⟨l.toArray⟩ := ⟨a0.data.toList, by simp⟩
  have hs : l.length ≤ maxLen := by simpa [ByteArray.size] using w0
  by_cases h : 150 < l.length ∨ a1 < 0 ∨ 40 < a1
  · exact decBack_early l a1 w h
  · have := decBack_main l a1.toNat w (by omega) (by omega)
    rwa [Int.toNat_of_nonneg (by omega)] at this

end Go.Proofs.YtkghahehkeaikaaDoor
