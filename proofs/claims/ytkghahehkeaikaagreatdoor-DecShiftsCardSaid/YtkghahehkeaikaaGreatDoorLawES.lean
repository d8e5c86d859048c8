/-
  DecShifts: the walk.
-/
import Derived.Test.YtkghahehkeaikaaGreatDoorLawEA
import Derived.Test.YtkghahehkeaikaaGreatDoorRefQ
import Derived.Test.YtkghahehkeaikaaGreatDoorRefR
import Derived.Test.YtkghahehkeaikaaGreatDoorMathE
import Derived.Test.YtkghahehkeaikaaGreatDoorSeqW
import Derived.Deep.DeepCutAuto
import Derived.WalkMore
import Derived.Laws.StructEq
namespace Go.Proofs.YtkghahehkeaikaaGreatDoor
open Go.RowKit
set_option linter.unusedVariables false
set_option linter.unusedSimpArgs false
attribute [local go_sem] field_nat

theorem rqtext_t8 (va : Value) (a : Rat) (T : List UInt8) (w : World) (ha : RQIs w va a) (hla : QB a 30000) (hT : Hid (T = qtext a)) :
    Calls Tryz.prog 9 #[va] w fun e w' => e = .returned (.string ⟨T.toArray⟩) ∧ Below w.heap.size w w' := by
  rw [hT.out]; exact rqtext_any va a w ha hla
theorem same_y8 (va vc : Value) (a c : Rat) (w : World) (ha : QIs w va a) (hc : QIs w vc c) (hla : QB a 1300) (hlc : QB c 1300) (hac : a = c) :
    Calls Tryz.prog 21 #[va, vc] w fun e w' => e = .returned (.bool true) ∧ Below w.heap.size w w' := by
  have := same_q va vc a c 1300 1300 w ha hc hla hlc (by decide)
  rwa [decide_eq_true hac] at this
theorem QB.litQ (s : Bool) {n : Nat} {k : Int} (hn : (limbs n).length ≤ 61) (hk : k.natAbs ≤ 1000) : QB (litQ s n k) 1300 := by
  have h1 : (limbs (10 ^ k.natAbs)).length ≤ 1001 := limbs_ten _ (by omega)
  have hp : 0 < 10 ^ k.natAbs := Nat.pow_pos (by decide)
  unfold Go.Proofs.YtkghahehkeaikaaGreatDoor.litQ
  split
  · exact QB.of _ (Nat.le_trans hn (by decide)) (Nat.le_trans h1 (by decide)) hp
  · exact QB.of _ (Nat.le_trans (limbs_mul hn h1) (by decide)) (limbs_bound (by decide) (by decide)) (by decide)
theorem ten_qb : QB ((10 : Int) : Rat) 2 := by rw [← of_pos 10 (by decide)]; exact QB.small (by decide) (by decide) (by decide) (by decide)
theorem ten_ne : ((10 : Int) : Rat) ≠ 0 := by decide
theorem all_snocE {l : List UInt8} {k : Nat} (hk : k < l.length) (h : (l.take k).all (fun c => !isE c) = true) (hc : isE (l[k]?.getD 0) = false) : (l.take (k + 1)).all (fun c => !isE c) = true := by
  rw [List.take_add_one, List.getElem?_eq_getElem hk, List.all_append, h]
  rw [List.getElem?_eq_getElem hk] at hc
  simpa using hc
theorem notE_bytes8 {c : UInt8} (h1 : ¬ c = 101) (h2 : ¬ c = 69) : isE c = false := by simp [isE, h1, h2]
theorem byte_ne8 {c : UInt8} {k : UInt8} (h : ¬ c = k) : ((c.toNat : Int) == (k.toNat : Int)) = false := by
  rw [beq_eq_false_iff_ne]; intro e; apply h; rw [← UInt8.toNat_inj]; omega
set_option maxRecDepth 100000 in
set_option maxHeartbeats 1000000 in
theorem decShifts_early (l : List UInt8) (k : Int) (w : World) (h : 60 < l.length ∨ k < -60 ∨ 60 < k) :
    Calls Tryz.prog 4 #[.string ⟨l.toArray⟩, .int .i64 k] w fun e w' => e = .returned (.bool true) ∧ Below w.heap.size w w' := by
  by_cases h1 : (60 : Int) < ((l.length : Nat) : Int)
  · clear h
    go_enter Tryz.func4, Tryz.ntmps4
    go_wp2_with (go_at_call 5; refine (alive3_any _).mono ?_; rintro e w' ⟨rfl, hb⟩)
    go_ret
    exact ⟨rfl, hb⟩
  by_cases h2 : k < -60
  · clear h
    go_enter Tryz.func4, Tryz.ntmps4
    go_wp2_with (go_at_call 5; refine (alive3_any _).mono ?_; rintro e w' ⟨rfl, hb⟩)
    go_ret
    exact ⟨rfl, hb⟩
  by_cases h3 : 60 < k
  · clear h
    go_enter Tryz.func4, Tryz.ntmps4
    go_wp2_with (go_at_call 5; refine (alive3_any _).mono ?_; rintro e w' ⟨rfl, hb⟩)
    go_ret
    exact ⟨rfl, hb⟩
  omega

theorem str_len8 (n : Nat) : (str (dec n)).length = (dec n).length := by unfold str; simp

set_option maxRecDepth 100000 in
set_option maxHeartbeats 8000000 in
/-- DecShifts. -/
theorem decShifts_main (l : List UInt8) (x : Int) (w : World) (hl : l.length ≤ 60) (hx1 : -60 ≤ x) (hx2 : x ≤ 60) :
    Calls Tryz.prog 4 #[.string ⟨l.toArray⟩, .int .i64 x] w fun e w' => e = .returned (.bool true) ∧ Below w.heap.size w w' := by
  have k1 : ¬ (60 : Int) < ((l.length : Nat) : Int) := by omega
  have k2 : ¬ x < -60 := by omega
  have k3 : ¬ (60 : Int) < x := by omega
  obtain ⟨q, hq⟩ : ∃ q, q = litVal l := ⟨_, rfl⟩
  obtain ⟨c, hc⟩ : ∃ c, c = litCode l := ⟨_, rfl⟩
  have HQ := Lib.hid hq
  have HC := Lib.hid hc
  clear hq hc
  have hbf : Below w.heap.size w w := Below.refl _ _
  go_enter Tryz.func4, Tryz.ntmps4
  go_wp2_with fail
  refine (alive3_any _).mono ?_
  rintro e w1 ⟨rfl, hb⟩
  replace hbf := hbf.trans (hb.mono hbf.size)
  clear hb
  go_wp2_with fail
  go_loopg [5] l.length (fun gg iv wr => ∃ i : Nat, i + gg = l.length ∧ iv = .int .i64 (i : Int) ∧ Hid ((l.take i).all (fun c => !isE c) = true) ∧ w1 = wr)
  case atStart => exact ⟨0, by omega, rfl, Lib.hid (by simp), rfl⟩
  case round =>
    obtain ⟨i, hi, rfl, HA, rfl⟩ := hrel
    by_cases hil : i < l.length
    case pos =>
      have hby := byte_at l i hil (by simpa [ByteArray.size] using hil)
      have HNX := Lib.hid (all_snocE hil HA.out)
      have hil2 : ((i : Nat) : Int) < ((l.length : Nat) : Int) := by omega
      generalize l[i]?.getD 0 = c9 at *
      by_cases hc1 : c9 = 101
      case pos =>
        subst hc1
        go_wp2_with fail
        go_ret
        exact ⟨rfl, hbf⟩
      case neg =>
        have hn1 : ((c9.toNat : Int) == 101) = false := byte_ne8 (k := 101) hc1
        by_cases hc2 : c9 = 69
        case pos =>
          subst hc2
          go_wp2_with fail
          go_ret
          exact ⟨rfl, hbf⟩
        case neg =>
          have hn2 : ((c9.toNat : Int) == 69) = false := byte_ne8 (k := 69) hc2
          have HN2 := Lib.hid (HNX.out (notE_bytes8 hc1 hc2))
          go_wp2_with fail
          go_roundg (gk - 1)
          case measure => omega
          case rel => exact ⟨i + 1, by omega, by go_num, HN2, rfl⟩
    case neg =>
      have hall := HA.out
      rw [List.take_of_length_le (by omega)] at hall
      have HALL := Lib.hid hall
      have hil2 : ¬ ((i : Nat) : Int) < ((l.length : Nat) : Int) := by omega
      clear hall HA
      go_wp2_with fail
      refine (lparse_q l q c _ HQ HC (by omega)).mono ?_
      rintro e w2 hq9
      obtain ⟨rB, rxO, rxL, rxC, ryO, ryL, ryC, rfl, hS, hrx, hry, hr, hb⟩ := hq9.out
      have HrS := Lib.hid hS; clear hS
      replace hbf := hbf.trans (hb.mono hbf.size)
      clear hb
      obtain ⟨w3, hwE⟩ : ∃ W, W = (w2.alloc (.cells #[.bool rB, .slice rxO rxL rxC, .slice ryO ryL ryC] 27)) := ⟨_, rfl⟩
      have hb : Below w2.heap.size w2 w3 := by rw [hwE]; exact ((Below.refl _ w2).alloc (Nat.le_refl _) _)
      obtain ⟨pr, hpr⟩ : ∃ p, p = w2.heap.size := ⟨_, rfl⟩
      have hbr : Box3 w3 pr (Value.bool rB) (Value.slice rxO rxL rxC) (Value.slice ryO ryL ryC) := by rw [hwE, hpr]; exact ⟨by go_simp, by go_simp, by go_simp, by go_simp, by go_simp, by go_simp⟩
      have HP : Hid (w.heap.size ≤ pr) := Lib.hid (by have h9 := hbf.size; omega)
      have HW := Lib.hid hwE; clear hwE
      go_upto_region 9 with fail
      rw [← HW.out, ← hpr]
      clear hpr HW
      replace hrx := hrx.below hb
      replace hry := hry.below hb
      replace hr := hr.below hb
      replace hbf := hbf.trans (hb.mono hbf.size)
      clear hb
      clear hrx hry
      by_cases hc0 : ¬ c = 0
      case pos =>
        have hc9 : (c == 0) = false := by rw [beq_eq_false_iff_ne]; exact hc0
        go_wp2_with fail
        go_ret
        exact ⟨rfl, hbf⟩
      case neg =>
        obtain rfl : c = 0 := by omega
        clear hc0
        have hz := litCode_zero HC.out.symm
        have hzp := litIs_parts hz.1
        obtain ⟨n, hn⟩ : ∃ n, n = dnum (lall l) := ⟨_, rfl⟩
        obtain ⟨E9, hE⟩ : ∃ E, E = expOf l := ⟨_, rfl⟩
        obtain ⟨s9, hs⟩ : ∃ s, s = sneg l := ⟨_, rfl⟩
        have hal := Nat.le_trans (lall_le l) (lman_le l)
        have hE9 : -461 < E9 ∧ E9 < 461 := by have := expOf_le HC.out.symm (K := 60) (by omega); rw [hE]; omega
        obtain ⟨hE1, hE2⟩ := hE9
        have hln : (limbs n).length ≤ 61 := by rw [hn]; exact limbs_dnum hzp.2.2.1 (by omega)
        have hq0 : q = litQ s9 n E9 := by rw [HQ.out, litVal_of HC.out.symm, hn, hE, hs]
        have hex := lit_exp (e := x) HALL.out HC.out.symm (by omega)
        rw [← hn, ← hE, ← hs] at hex
        obtain ⟨T, hT⟩ : ∃ T, T = qtext (x : Rat) := ⟨_, rfl⟩
        rw [← hT] at hex
        obtain ⟨U, hU⟩ : ∃ U, U = l ++ 101 :: T := ⟨_, rfl⟩
        rw [← hU] at hex
        obtain ⟨q2, hq2⟩ : ∃ q, q = litQ s9 n (E9 + x) := ⟨_, rfl⟩
        have HC2 : Hid ((0 : Int) = litCode U) := Lib.hid hex.1.symm
        have HQ2 : Hid (q2 = litVal U) := Lib.hid (by rw [hq2, hex.2])
        have hTl : T.length ≤ 100 := by rw [hT, int_text, List.length_append, str_len8]; have h1 := dec_le (n := x.natAbs) (k := 10) (by omega) (by decide); unfold sgn; split <;> simp <;> omega
        have hb1 : (⟨l.toArray⟩ ++ ⟨#[101]⟩ : ByteArray) = ⟨(l ++ [101]).toArray⟩ := bytes_append l [101]
        obtain ⟨l1, hl1⟩ : ∃ l1, l1 = l ++ [101] := ⟨_, rfl⟩
        rw [← hl1] at hb1
        have hb2 : (⟨l1.toArray⟩ ++ ⟨T.toArray⟩ : ByteArray) = ⟨U.toArray⟩ := by rw [hU, hl1]; rw [show l ++ 101 :: T = (l ++ [101]) ++ T by simp]; exact bytes_append _ _
        have hl1l : l1.length ≤ 61 := by rw [hl1, List.length_append]; simp; omega
        have hUl : U.length ≤ 200 := by rw [hU, List.length_append]; simp; omega
        have HT := Lib.hid hT
        have HQ3 := Lib.hid hq2
        have hxq : QB (x : Rat) 30000 := QB.int (by omega) (by decide)
        subst hq0
        clear hn hE hs hz hzp hex hT hU hl1 hq2 HQ HC HALL hal
        go_wp2_with fail
        refine (rint_any x _ (by omega) (by omega)).mono ?_
        rintro e w4 hq9
        obtain ⟨zB, zxO, zxL, zxC, zyO, zyL, zyC, rfl, hS, hzx, hzy, hz, hb⟩ := hq9.out
        have HzS := Lib.hid hS; clear hS
        replace hbr := hbr.kept hb
        replace hr := hr.below hb
        replace hbf := hbf.trans (hb.mono hbf.size)
        clear hb
        go_wp2_with fail
        refine (rqtext_t8 _ (x : Rat) T _ hz hxq HT).mono ?_
        rintro e w5 ⟨rfl, hb⟩
        replace hbr := hbr.kept hb
        replace hr := hr.below hb
        replace hzx := hzx.below hb
        replace hzy := hzy.below hb
        replace hz := hz.below hb
        replace hbf := hbf.trans (hb.mono hbf.size)
        clear hb
        clear hz hzx hzy
        go_wp2_with fail
        refine (lparse_q U q2 0 _ HQ2 HC2 (by omega)).mono ?_
        rintro e w6 hq9
        obtain ⟨aB, axO, axL, axC, ayO, ayL, ayC, rfl, hS, hax, hay, ha, hb⟩ := hq9.out
        have HaS := Lib.hid hS; clear hS
        replace hbr := hbr.kept hb
        replace hr := hr.below hb
        replace hbf := hbf.trans (hb.mono hbf.size)
        clear hb
        obtain ⟨w7, hwE⟩ : ∃ W, W = (w6.alloc (.cells #[.bool aB, .slice axO axL axC, .slice ayO ayL ayC] 27)) := ⟨_, rfl⟩
        have hb : Below w6.heap.size w6 w7 := by rw [hwE]; exact ((Below.refl _ w6).alloc (Nat.le_refl _) _)
        obtain ⟨pa, hpa⟩ : ∃ p, p = w6.heap.size := ⟨_, rfl⟩
        have hba : Box3 w7 pa (Value.bool aB) (Value.slice axO axL axC) (Value.slice ayO ayL ayC) := by rw [hwE, hpa]; exact ⟨by go_simp, by go_simp, by go_simp, by go_simp, by go_simp, by go_simp⟩
        replace HP : Hid (w.heap.size ≤ pr ∧ pr < pa) := Lib.hid (by have h1 := HP.out; have h9 := hbf.size; have h2r := hbr.lt; omega)
        have HW := Lib.hid hwE; clear hwE
        go_upto_region 12 with fail
        rw [← HW.out, ← hpa]
        clear hpa HW
        replace hbr := hbr.kept hb
        replace hr := hr.below hb
        replace hax := hax.below hb
        replace hay := hay.below hb
        replace ha := ha.below hb
        replace hbf := hbf.trans (hb.mono hbf.size)
        clear hb
        clear hax hay hb1 hb2
        go_wp2_with fail
        obtain ⟨go, hgo⟩ : ∃ go, go = gk := ⟨_, rfl⟩
        subst hgo
        go_loopg [10] x.toNat (fun gg kv wr => ∃ (k : Nat) (rB : Bool) (rxO : Option Addr) (rxL rxC : Nat) (ryO : Option Addr) (ryL ryC : Nat), kv = .int .i64 (k : Int) ∧ k + gg = x.toNat ∧ Box3 wr pr (.bool rB) (.slice rxO rxL rxC) (.slice ryO ryL ryC) ∧ QIs wr (.agg #[.bool rB, .slice rxO rxL rxC, .slice ryO ryL ryC]) (litQ s9 n (E9 + (k : Int))) ∧ Box3 wr pa (.bool aB) (.slice axO axL axC) (.slice ayO ayL ayC) ∧ QIs wr (.agg #[.bool aB, .slice axO axL axC, .slice ayO ayL ayC]) q2 ∧ Below w.heap.size w wr)
        case atStart => exact ⟨0, _, _, _, _, _, _, _, rfl, by omega, hbr, by rw [show E9 + ((0 : Nat) : Int) = E9 by omega]; exact hr, hba, ha, hbf⟩
        clear hbr hba hr ha hbf
        case round =>
          obtain ⟨k, rB, rxO, rxL, rxC, ryO, ryL, ryC, rfl, hkg, hbr, hr, hba, ha, hbf⟩ := hrel
          have hlq : QB (litQ s9 n (E9 + (k : Int))) 1300 := QB.litQ s9 hln (by omega)
          by_cases hkx : (k : Int) < x
          case pos =>
            have er0 := hbr.c0
            have er1 := hbr.c1
            have er2 := hbr.c2
            go_wp2_with fail
            clear er0 er1 er2
            refine wp_region_seqT (S := fun w' => Box3 w' pr (Value.bool rB) (Value.slice rxO rxL rxC) (Value.slice ryO ryL ryC)) [(true, 0), (false, 1), (false, 2)] (by kernel_rfl) (by kernel_rfl) (by kernel_rfl) (by kernel_rfl) (by kernel_rfl) (by kernel_rfl) (fun d _ _ _ _ h => by cases d <;> exact h) hbr.drew (fun _ => ?_)
            simp only [pickOps, List.append_eq, List.cons_append, List.nil_append, List.getElem?_toArray, List.getElem?_cons_succ, List.getElem?_cons_zero]
            have hb : Below wr.heap.size wr wr.drew := (Below.refl _ _).drew
            generalize wr.drew = w8 at hb ⊢
            replace hbr := hbr.kept hb
            replace hba := hba.kept hb
            replace hr := hr.below hb
            replace ha := ha.below hb
            replace hbf := hbf.trans (hb.mono hbf.size)
            clear hb
            repeat (first | (refine seq_take (v := ?_) (by rfl) ?_ ?_; rotate_left; (· intro w hSw; (try dsimp only at hSw); obtain ⟨er0, er1, er2, _, _, _⟩ := hSw; go_simp; all_goals with_reducible rfl); (try simp only [Act.put, List.setIfInBounds_toArray, List.set_cons_zero, List.set_cons_succ])) | (refine seq_leave (by rfl) ?_; (try simp only [Act.put, List.setIfInBounds_toArray, List.set_cons_zero, List.set_cons_succ])))
            refine seq_step (by rfl) (fun K hK => ?_)
            go_simp
            go_at_call 19
            (with_reducible refine (of_q 10 _ (by decide) (by decide)).mono ?_)
            rintro e w9 hq9
            obtain ⟨tB, txO, txL, txC, tyO, tyL, tyC, rfl, hS, htx, hty, ht, hb⟩ := hq9.out
            have HtS := Lib.hid hS; clear hS
            replace hbr := hbr.kept hb
            replace hba := hba.kept hb
            replace hr := hr.below hb
            replace ha := ha.below hb
            replace hbf := hbf.trans (hb.mono hbf.size)
            clear hb
            first | refine hK.out _ _ hbr (fun _ => ?_) | (go_wp2_with fail; refine hK.out _ _ hbr (fun _ => ?_))
            clear hK K
            (try simp only [Act.put, List.setIfInBounds_toArray, List.set_cons_zero, List.set_cons_succ])
            refine seq_step (by rfl) (fun K hK => ?_)
            go_simp
            go_at_call 18
            (with_reducible refine (qmul_any _ _ _ ((10 : Int) : Rat) 1300 2 _ hr ht hlq ten_qb (by decide)).mono ?_)
            rintro e w10 hq9
            obtain ⟨vB, vxO, vxL, vxC, vyO, vyL, vyC, rfl, hS, hvx, hvy, hv, hb⟩ := hq9.out
            have HvS := Lib.hid hS; clear hS
            replace hbr := hbr.kept hb
            replace hba := hba.kept hb
            replace hr := hr.below hb
            replace ha := ha.below hb
            replace htx := htx.below hb
            replace hty := hty.below hb
            replace ht := ht.below hb
            replace hbf := hbf.trans (hb.mono hbf.size)
            clear hb
            first | refine hK.out _ _ hbr (fun _ => ?_) | (go_wp2_with fail; refine hK.out _ _ hbr (fun _ => ?_))
            clear hK K
            (try simp only [Act.put, List.setIfInBounds_toArray, List.set_cons_zero, List.set_cons_succ])
            refine seq_end ?_
            refine tail_end rfl rfl ?_
            have er0 := hbr.c0
            have fr0 := hbr.f0
            have er1 := hbr.c1
            have fr1 := hbr.f1
            have er2 := hbr.c2
            have fr2 := hbr.f2
            go_simp
            clear er0 fr0 er1 fr1 er2 fr2
            obtain ⟨w11, hwE⟩ : ∃ W, W = ((w10.setCell ⟨pr, 0, none⟩ (Value.bool vB)).setCell ⟨pr, 1, none⟩ (Value.slice vxO vxL vxC)).setCell ⟨pr, 2, none⟩ (Value.slice vyO vyL vyC) := ⟨_, rfl⟩
            rw [← hwE]
            replace hr := hr.set3 (u0 := (Value.bool vB)) (u1 := (Value.slice vxO vxL vxC)) (u2 := (Value.slice vyO vyL vyC)) hbr; rw [← hwE] at hr
            replace ha := ha.set3 (u0 := (Value.bool vB)) (u1 := (Value.slice vxO vxL vxC)) (u2 := (Value.slice vyO vyL vyC)) hbr; rw [← hwE] at ha
            replace htx := htx.set3 (u0 := (Value.bool vB)) (u1 := (Value.slice vxO vxL vxC)) (u2 := (Value.slice vyO vyL vyC)) hbr; rw [← hwE] at htx
            replace hty := hty.set3 (u0 := (Value.bool vB)) (u1 := (Value.slice vxO vxL vxC)) (u2 := (Value.slice vyO vyL vyC)) hbr; rw [← hwE] at hty
            replace ht := ht.set3 (u0 := (Value.bool vB)) (u1 := (Value.slice vxO vxL vxC)) (u2 := (Value.slice vyO vyL vyC)) hbr; rw [← hwE] at ht
            replace hvx := hvx.set3 (u0 := (Value.bool vB)) (u1 := (Value.slice vxO vxL vxC)) (u2 := (Value.slice vyO vyL vyC)) hbr; rw [← hwE] at hvx
            replace hvy := hvy.set3 (u0 := (Value.bool vB)) (u1 := (Value.slice vxO vxL vxC)) (u2 := (Value.slice vyO vyL vyC)) hbr; rw [← hwE] at hvy
            replace hv := hv.set3 (u0 := (Value.bool vB)) (u1 := (Value.slice vxO vxL vxC)) (u2 := (Value.slice vyO vyL vyC)) hbr; rw [← hwE] at hv
            replace hba := hba.set3o (u0 := (Value.bool vB)) (u1 := (Value.slice vxO vxL vxC)) (u2 := (Value.slice vyO vyL vyC)) (show pa ≠ pr by have := HP.out; omega); rw [← hwE] at hba
            replace hbf := below_set3 (u0 := (Value.bool vB)) (u1 := (Value.slice vxO vxL vxC)) (u2 := (Value.slice vyO vyL vyC)) hbf (show w.heap.size ≤ pr by have := HP.out; omega); rw [← hwE] at hbf
            replace hbr := hbr.set3 (u0 := (Value.bool vB)) (u1 := (Value.slice vxO vxL vxC)) (u2 := (Value.slice vyO vyL vyC)); rw [← hwE] at hbr; clear hwE
            rw [litQ_up] at hv
            go_wp2_with fail
            go_roundg (gk - 1)
            case measure => omega
            case rel => exact ⟨k + 1, _, _, _, _, _, _, _, by go_num, by omega, hbr, by rw [show E9 + ((k + 1 : Nat) : Int) = E9 + (k : Int) + 1 by omega]; exact hv, hba, ha, hbf⟩
          case neg =>
            obtain rfl : k = x.toNat := by omega
            obtain ⟨E8, hE8⟩ : ∃ E, E = E9 + ((x.toNat : Nat) : Int) := ⟨_, rfl⟩
            rw [← hE8] at hr
            have hE3 : E8 = E9 + (x.toNat : Int) := hE8
            have hE4 : -461 < E8 ∧ E8 < 522 := by omega
            obtain ⟨hE5, hE6⟩ := hE4
            have HE8 := Lib.hid hE3
            clear hE8 hE3 hlq
            go_wp2_with fail
            obtain ⟨go, hgo⟩ : ∃ go, go = gk := ⟨_, rfl⟩
            subst hgo
            go_loopg [11] (-x).toNat (fun gg kv wr => ∃ (k : Nat) (rB : Bool) (rxO : Option Addr) (rxL rxC : Nat) (ryO : Option Addr) (ryL ryC : Nat), kv = .int .i64 (-(k : Int)) ∧ k + gg = (-x).toNat ∧ Box3 wr pr (.bool rB) (.slice rxO rxL rxC) (.slice ryO ryL ryC) ∧ QIs wr (.agg #[.bool rB, .slice rxO rxL rxC, .slice ryO ryL ryC]) (litQ s9 n (E8 - (k : Int))) ∧ Box3 wr pa (.bool aB) (.slice axO axL axC) (.slice ayO ayL ayC) ∧ QIs wr (.agg #[.bool aB, .slice axO axL axC, .slice ayO ayL ayC]) q2 ∧ Below w.heap.size w wr)
            case atStart => exact ⟨0, _, _, _, _, _, _, _, rfl, by omega, hbr, by rw [show E8 - ((0 : Nat) : Int) = E8 by omega]; exact hr, hba, ha, hbf⟩
            clear hbr hba hr ha hbf
            case round =>
              obtain ⟨k, rB, rxO, rxL, rxC, ryO, ryL, ryC, rfl, hkg, hbr, hr, hba, ha, hbf⟩ := hrel
              have hlq : QB (litQ s9 n (E8 - (k : Int))) 1300 := QB.litQ s9 hln (by omega)
              by_cases hkx2 : x < -(k : Int)
              case pos =>
                have er0 := hbr.c0
                have er1 := hbr.c1
                have er2 := hbr.c2
                go_wp2_with fail
                clear er0 er1 er2
                refine wp_region_two (S := fun _ => True) 0 1 [(false, 1), (false, 2), (true, 3), (true, 4), (true, 5), (false, 6)] [(false, 0), (false, 2), (true, 3), (true, 4), (true, 5), (false, 6)] (by kernel_rfl) (by kernel_rfl) (by kernel_rfl) (by kernel_rfl) (by kernel_rfl) (by kernel_rfl) (by kernel_rfl) (by kernel_rfl) (by kernel_rfl) (by kernel_rfl) (by kernel_rfl) (fun d _ _ _ _ h => by cases d <;> exact h) True.intro ?_ ?_
                all_goals simp only [pickOps, List.append_eq, List.cons_append, List.nil_append, List.getElem?_toArray, List.getElem?_cons_succ, List.getElem?_cons_zero]
                all_goals have hb : Below wr.heap.size wr wr.drew := (Below.refl _ _).drew
                all_goals generalize wr.drew = w8 at hb ⊢
                all_goals replace hbr := hbr.kept hb
                all_goals replace hba := hba.kept hb
                all_goals replace hr := hr.below hb
                all_goals replace ha := ha.below hb
                all_goals replace hbf := hbf.trans (hb.mono hbf.size)
                all_goals clear hb
                · skip
                  refine seq_step (by rfl) (fun K hK => ?_)
                  have er0 := hbr.c0
                  have er1 := hbr.c1
                  have er2 := hbr.c2
                  go_simp
                  clear er0 er1 er2
                  first | refine hK.out _ _ True.intro (fun _ => ?_) | (go_wp2_with fail; refine hK.out _ _ True.intro (fun _ => ?_))
                  clear hK K
                  (try simp only [Act.put, List.setIfInBounds_toArray, List.set_cons_zero, List.set_cons_succ])
                  refine seq_step (by rfl) (fun K hK => ?_)
                  go_simp
                  go_at_call 19
                  (with_reducible refine (of_q 10 _ (by decide) (by decide)).mono ?_)
                  rintro e w9 hq9
                  obtain ⟨tB, txO, txL, txC, tyO, tyL, tyC, rfl, hS, htx, hty, ht, hb⟩ := hq9.out
                  have HtS := Lib.hid hS; clear hS
                  replace hbr := hbr.kept hb
                  replace hba := hba.kept hb
                  replace hr := hr.below hb
                  replace ha := ha.below hb
                  replace hbf := hbf.trans (hb.mono hbf.size)
                  clear hb
                  first | refine hK.out _ _ True.intro (fun _ => ?_) | (go_wp2_with fail; refine hK.out _ _ True.intro (fun _ => ?_))
                  clear hK K
                  (try simp only [Act.put, List.setIfInBounds_toArray, List.set_cons_zero, List.set_cons_succ])
                  refine seq_step (by rfl) (fun K hK => ?_)
                  go_simp
                  go_at_call 20
                  (with_reducible refine (qdiv_ok _ _ _ ((10 : Int) : Rat) 1300 2 _ hr ht hlq ten_qb (by decide) ten_ne).mono ?_)
                  rintro e w10 hq9
                  obtain ⟨vB, vxO, vxL, vxC, vyO, vyL, vyC, rfl, hS, hvx, hvy, hv, hb⟩ := hq9.out
                  have HvS := Lib.hid hS; clear hS
                  replace hbr := hbr.kept hb
                  replace hba := hba.kept hb
                  replace hr := hr.below hb
                  replace ha := ha.below hb
                  replace htx := htx.below hb
                  replace hty := hty.below hb
                  replace ht := ht.below hb
                  replace hbf := hbf.trans (hb.mono hbf.size)
                  clear hb
                  first | refine hK.out _ _ True.intro (fun _ => ?_) | (go_wp2_with fail; refine hK.out _ _ True.intro (fun _ => ?_))
                  clear hK K
                  (try simp only [Act.put, List.setIfInBounds_toArray, List.set_cons_zero, List.set_cons_succ])
                  repeat (first | (refine seq_take (v := ?_) (by rfl) ?_ ?_; rotate_left; (· intro w hSw; (try dsimp only at hSw); go_simp; all_goals with_reducible rfl); (try simp only [Act.put, List.setIfInBounds_toArray, List.set_cons_zero, List.set_cons_succ])) | (refine seq_leave (by rfl) ?_; (try simp only [Act.put, List.setIfInBounds_toArray, List.set_cons_zero, List.set_cons_succ])))
                  refine seq_step (by rfl) (fun K hK => ?_)
                  have er0 := hbr.c0
                  have fr0 := hbr.f0
                  have er1 := hbr.c1
                  have fr1 := hbr.f1
                  have er2 := hbr.c2
                  have fr2 := hbr.f2
                  go_simp
                  clear er0 fr0 er1 fr1 er2 fr2
                  obtain ⟨w11, hwE⟩ : ∃ W, W = ((w10.setCell ⟨pr, 0, none⟩ (Value.bool vB)).setCell ⟨pr, 1, none⟩ (Value.slice vxO vxL vxC)).setCell ⟨pr, 2, none⟩ (Value.slice vyO vyL vyC) := ⟨_, rfl⟩
                  rw [← hwE]
                  replace hr := hr.set3 (u0 := (Value.bool vB)) (u1 := (Value.slice vxO vxL vxC)) (u2 := (Value.slice vyO vyL vyC)) hbr; rw [← hwE] at hr
                  replace ha := ha.set3 (u0 := (Value.bool vB)) (u1 := (Value.slice vxO vxL vxC)) (u2 := (Value.slice vyO vyL vyC)) hbr; rw [← hwE] at ha
                  replace htx := htx.set3 (u0 := (Value.bool vB)) (u1 := (Value.slice vxO vxL vxC)) (u2 := (Value.slice vyO vyL vyC)) hbr; rw [← hwE] at htx
                  replace hty := hty.set3 (u0 := (Value.bool vB)) (u1 := (Value.slice vxO vxL vxC)) (u2 := (Value.slice vyO vyL vyC)) hbr; rw [← hwE] at hty
                  replace ht := ht.set3 (u0 := (Value.bool vB)) (u1 := (Value.slice vxO vxL vxC)) (u2 := (Value.slice vyO vyL vyC)) hbr; rw [← hwE] at ht
                  replace hvx := hvx.set3 (u0 := (Value.bool vB)) (u1 := (Value.slice vxO vxL vxC)) (u2 := (Value.slice vyO vyL vyC)) hbr; rw [← hwE] at hvx
                  replace hvy := hvy.set3 (u0 := (Value.bool vB)) (u1 := (Value.slice vxO vxL vxC)) (u2 := (Value.slice vyO vyL vyC)) hbr; rw [← hwE] at hvy
                  replace hv := hv.set3 (u0 := (Value.bool vB)) (u1 := (Value.slice vxO vxL vxC)) (u2 := (Value.slice vyO vyL vyC)) hbr; rw [← hwE] at hv
                  replace hba := hba.set3o (u0 := (Value.bool vB)) (u1 := (Value.slice vxO vxL vxC)) (u2 := (Value.slice vyO vyL vyC)) (show pa ≠ pr by have := HP.out; omega); rw [← hwE] at hba
                  replace hbf := below_set3 (u0 := (Value.bool vB)) (u1 := (Value.slice vxO vxL vxC)) (u2 := (Value.slice vyO vyL vyC)) hbf (show w.heap.size ≤ pr by have := HP.out; omega); rw [← hwE] at hbf
                  replace hbr := hbr.set3 (u0 := (Value.bool vB)) (u1 := (Value.slice vxO vxL vxC)) (u2 := (Value.slice vyO vyL vyC)); rw [← hwE] at hbr; clear hwE
                  first | refine hK.out _ _ True.intro (fun _ => ?_) | (go_wp2_with fail; refine hK.out _ _ True.intro (fun _ => ?_))
                  clear hK K
                  (try simp only [Act.put, List.setIfInBounds_toArray, List.set_cons_zero, List.set_cons_succ])
                  refine seq_end ?_
                  rw [litQ_down] at hv
                  go_wp2_with fail
                  go_roundg (gk - 1)
                  case measure => omega
                  case rel => exact ⟨k + 1, _, _, _, _, _, _, _, by go_num, by omega, hbr, by rw [show E8 - ((k + 1 : Nat) : Int) = E8 - (k : Int) - 1 by omega]; exact hv, hba, ha, hbf⟩
                · skip
                  refine seq_step (by rfl) (fun K hK => ?_)
                  go_simp
                  go_at_call 19
                  (with_reducible refine (of_q 10 _ (by decide) (by decide)).mono ?_)
                  rintro e w9 hq9
                  obtain ⟨tB, txO, txL, txC, tyO, tyL, tyC, rfl, hS, htx, hty, ht, hb⟩ := hq9.out
                  have HtS := Lib.hid hS; clear hS
                  replace hbr := hbr.kept hb
                  replace hba := hba.kept hb
                  replace hr := hr.below hb
                  replace ha := ha.below hb
                  replace hbf := hbf.trans (hb.mono hbf.size)
                  clear hb
                  first | refine hK.out _ _ True.intro (fun _ => ?_) | (go_wp2_with fail; refine hK.out _ _ True.intro (fun _ => ?_))
                  clear hK K
                  (try simp only [Act.put, List.setIfInBounds_toArray, List.set_cons_zero, List.set_cons_succ])
                  refine seq_step (by rfl) (fun K hK => ?_)
                  have er0 := hbr.c0
                  have er1 := hbr.c1
                  have er2 := hbr.c2
                  go_simp
                  clear er0 er1 er2
                  first | refine hK.out _ _ True.intro (fun _ => ?_) | (go_wp2_with fail; refine hK.out _ _ True.intro (fun _ => ?_))
                  clear hK K
                  (try simp only [Act.put, List.setIfInBounds_toArray, List.set_cons_zero, List.set_cons_succ])
                  refine seq_step (by rfl) (fun K hK => ?_)
                  go_simp
                  go_at_call 20
                  (with_reducible refine (qdiv_ok _ _ _ ((10 : Int) : Rat) 1300 2 _ hr ht hlq ten_qb (by decide) ten_ne).mono ?_)
                  rintro e w10 hq9
                  obtain ⟨vB, vxO, vxL, vxC, vyO, vyL, vyC, rfl, hS, hvx, hvy, hv, hb⟩ := hq9.out
                  have HvS := Lib.hid hS; clear hS
                  replace hbr := hbr.kept hb
                  replace hba := hba.kept hb
                  replace hr := hr.below hb
                  replace ha := ha.below hb
                  replace htx := htx.below hb
                  replace hty := hty.below hb
                  replace ht := ht.below hb
                  replace hbf := hbf.trans (hb.mono hbf.size)
                  clear hb
                  first | refine hK.out _ _ True.intro (fun _ => ?_) | (go_wp2_with fail; refine hK.out _ _ True.intro (fun _ => ?_))
                  clear hK K
                  (try simp only [Act.put, List.setIfInBounds_toArray, List.set_cons_zero, List.set_cons_succ])
                  repeat (first | (refine seq_take (v := ?_) (by rfl) ?_ ?_; rotate_left; (· intro w hSw; (try dsimp only at hSw); go_simp; all_goals with_reducible rfl); (try simp only [Act.put, List.setIfInBounds_toArray, List.set_cons_zero, List.set_cons_succ])) | (refine seq_leave (by rfl) ?_; (try simp only [Act.put, List.setIfInBounds_toArray, List.set_cons_zero, List.set_cons_succ])))
                  refine seq_step (by rfl) (fun K hK => ?_)
                  have er0 := hbr.c0
                  have fr0 := hbr.f0
                  have er1 := hbr.c1
                  have fr1 := hbr.f1
                  have er2 := hbr.c2
                  have fr2 := hbr.f2
                  go_simp
                  clear er0 fr0 er1 fr1 er2 fr2
                  obtain ⟨w11, hwE⟩ : ∃ W, W = ((w10.setCell ⟨pr, 0, none⟩ (Value.bool vB)).setCell ⟨pr, 1, none⟩ (Value.slice vxO vxL vxC)).setCell ⟨pr, 2, none⟩ (Value.slice vyO vyL vyC) := ⟨_, rfl⟩
                  rw [← hwE]
                  replace hr := hr.set3 (u0 := (Value.bool vB)) (u1 := (Value.slice vxO vxL vxC)) (u2 := (Value.slice vyO vyL vyC)) hbr; rw [← hwE] at hr
                  replace ha := ha.set3 (u0 := (Value.bool vB)) (u1 := (Value.slice vxO vxL vxC)) (u2 := (Value.slice vyO vyL vyC)) hbr; rw [← hwE] at ha
                  replace htx := htx.set3 (u0 := (Value.bool vB)) (u1 := (Value.slice vxO vxL vxC)) (u2 := (Value.slice vyO vyL vyC)) hbr; rw [← hwE] at htx
                  replace hty := hty.set3 (u0 := (Value.bool vB)) (u1 := (Value.slice vxO vxL vxC)) (u2 := (Value.slice vyO vyL vyC)) hbr; rw [← hwE] at hty
                  replace ht := ht.set3 (u0 := (Value.bool vB)) (u1 := (Value.slice vxO vxL vxC)) (u2 := (Value.slice vyO vyL vyC)) hbr; rw [← hwE] at ht
                  replace hvx := hvx.set3 (u0 := (Value.bool vB)) (u1 := (Value.slice vxO vxL vxC)) (u2 := (Value.slice vyO vyL vyC)) hbr; rw [← hwE] at hvx
                  replace hvy := hvy.set3 (u0 := (Value.bool vB)) (u1 := (Value.slice vxO vxL vxC)) (u2 := (Value.slice vyO vyL vyC)) hbr; rw [← hwE] at hvy
                  replace hv := hv.set3 (u0 := (Value.bool vB)) (u1 := (Value.slice vxO vxL vxC)) (u2 := (Value.slice vyO vyL vyC)) hbr; rw [← hwE] at hv
                  replace hba := hba.set3o (u0 := (Value.bool vB)) (u1 := (Value.slice vxO vxL vxC)) (u2 := (Value.slice vyO vyL vyC)) (show pa ≠ pr by have := HP.out; omega); rw [← hwE] at hba
                  replace hbf := below_set3 (u0 := (Value.bool vB)) (u1 := (Value.slice vxO vxL vxC)) (u2 := (Value.slice vyO vyL vyC)) hbf (show w.heap.size ≤ pr by have := HP.out; omega); rw [← hwE] at hbf
                  replace hbr := hbr.set3 (u0 := (Value.bool vB)) (u1 := (Value.slice vxO vxL vxC)) (u2 := (Value.slice vyO vyL vyC)); rw [← hwE] at hbr; clear hwE
                  first | refine hK.out _ _ True.intro (fun _ => ?_) | (go_wp2_with fail; refine hK.out _ _ True.intro (fun _ => ?_))
                  clear hK K
                  (try simp only [Act.put, List.setIfInBounds_toArray, List.set_cons_zero, List.set_cons_succ])
                  refine seq_end ?_
                  rw [litQ_down] at hv
                  go_wp2_with fail
                  go_roundg (gk - 1)
                  case measure => omega
                  case rel => exact ⟨k + 1, _, _, _, _, _, _, _, by go_num, by omega, hbr, by rw [show E8 - ((k + 1 : Nat) : Int) = E8 - (k : Int) - 1 by omega]; exact hv, hba, ha, hbf⟩
              case neg =>
                have hfin : q2 = litQ s9 n (E8 - (k : Int)) := by rw [HQ3.out, show E9 + x = E8 - (k : Int) by have := HE8.out; omega]
                have HFN := Lib.hid hfin
                clear hfin
                have ea0 := hba.c0
                have ea1 := hba.c1
                have ea2 := hba.c2
                have er0 := hbr.c0
                have er1 := hbr.c1
                have er2 := hbr.c2
                go_wp2_with fail
                refine (same_y8 _ _ q2 _ _ ha hr (by rw [HFN.out]; exact hlq) hlq HFN.out).mono ?_
                rintro e w8 ⟨rfl, hb⟩
                clear ea0 ea1 ea2 er0 er1 er2
                replace hbr := hbr.kept hb
                replace hba := hba.kept hb
                replace hr := hr.below hb
                replace ha := ha.below hb
                replace hbf := hbf.trans (hb.mono hbf.size)
                clear hb
                go_wp2_with fail
                go_ret
                exact ⟨rfl, hbf⟩

theorem decShifts_walk (a0 : ByteArray) (a1 : Int) (w0 : a0.size ≤ maxLen) (w1 : (Lit.int .i64 a1).wf = true) (w : World) :
    Calls Tryz.prog 4 #[.string a0, .int .i64 a1] w fun e w' => e = .returned (.bool true) ∧ Below w.heap.size w w' := by
  obtain ⟨l, rfl⟩ : ∃ l : List UInt8, a0 = ⟨l.toArray⟩ := ⟨a0.data.toList, by simp⟩
  by_cases h : 60 < l.length ∨ a1 < -60 ∨ 60 < a1
  · exact decShifts_early l a1 w h
  · exact decShifts_main l a1 w (by omega) (by omega) (by omega)

end Go.Proofs.YtkghahehkeaikaaGreatDoor
