/-
  The document's targets: text, ratio, Apply, ValidTarget.
-/
import Derived.Test.YtnajnbgjmgkcoaaGreatDoorTarA
import Derived.Test.YtnajnbgjmgkcoaaGreatDoorRefS
namespace Go.Proofs.YtnajnbgjmgkcoaaGreatDoor
open Go.RowKit
set_option linter.unusedVariables false
set_option linter.unusedSimpArgs false
attribute [local go_sem] field_nat

def TPost (w : World) (q : Rat) (x : Bool) (e : Ending) (w' : World) : Prop := ∃ r, e = .returned (.tuple #[r, .bool x]) ∧ RQIs w' r q ∧ Below w.heap.size w w'
theorem TPost.out {w w' : World} {q : Rat} {x : Bool} {e : Ending} (h : TPost w q x e w') : ∃ s xo xl xc yo yl yc, e = .returned (.tuple #[.agg #[.bool s, .slice xo xl xc, .slice yo yl yc], .bool x]) ∧ s = decide (q < 0) ∧ RIs w' (.slice xo xl xc) q.num.natAbs ∧ RIs w' (.slice yo yl yc) q.den ∧ RQIs w' (.agg #[.bool s, .slice xo xl xc, .slice yo yl yc]) q ∧ Below w.heap.size w w' := by
  obtain ⟨r, rfl, hq, hb⟩ := h
  obtain ⟨s, xo, xl, xc, yo, yl, yc, rfl, h1, h2, h3⟩ := hq.form
  exact ⟨_, _, _, _, _, _, _, rfl, h1, h2, h3, hq, hb⟩
theorem end_rb {fn : Func} {s : Nat} {act : Act} {w w9 : World} {b : Nat} {s0 : Bool} {o1 o2 : Option Addr} {l1 l2 c1 c2 : Nat} {u0 u1 u2 : Value} {q : Rat} {t : Nat} {x : Bool} (hres : fn.results = #[.cell s 39, .tmp t]) (hp : act.tmps.getD s undef = .pointer (some ⟨b, 0, none⟩)) (hu : act.tmps.getD t undef = .bool x) (hd : act.defers = []) (hb : Box3 w9 b (.bool s0) (.slice o1 l1 c1) (.slice o2 l2 c2)) (hge : w.heap.size ≤ b) (hq : RQIs w9 (.agg #[u0, u1, u2]) q) (hB : Below w.heap.size w w9) :
    bodyPost Tryz.prog fn (TPost w q x) .ret act (((w9.setCell ⟨b, 0, none⟩ u0).setCell ⟨b, 1, none⟩ u1).setCell ⟨b, 2, none⟩ u2) :=
  ret_rrat_tmp hres hp hu hb.set3 hd ⟨_, rfl, hq.set3 hb, below_set3 hB hge⟩
theorem rcmp_z (va vc : Value) (a c : Rat) (k : Int) (i j : Nat) (w : World) (ha : RQIs w va a) (hc : RQIs w vc c) (hla : QB a i) (hlc : QB c j) (hij : i + j ≤ 90000) (hk : Hid (qcmp a c = k)) :
    Calls Tryz.prog 19 #[va, vc] w fun e w' => e = .returned (.int .i64 k) ∧ Below w.heap.size w w' := by
  have := rqcmp_any va vc a c i j w ha hc hla hlc hij
  rwa [hk.out] at this

set_option maxRecDepth 100000 in
set_option maxHeartbeats 1000000 in
/-- text. -/
theorem text12_any (l : List UInt8) (q : Rat) (b : Bool) (w : World) (HQ : Hid (q = qval l)) (HB : Hid (b = tis l)) (hl : l.length ≤ 100000) : Calls Tryz.prog 17 #[.string ⟨l.toArray⟩] w (TPost w q b) := by
  obtain ⟨w0, hw0⟩ : ∃ w0, w0 = (w.alloc (.cells #[.bool false, .slice none 0 0, .slice none 0 0] 39)) := ⟨_, rfl⟩
  have hbf : Below w.heap.size w w0 := by rw [hw0]; exact ((Below.refl _ w).alloc (Nat.le_refl _) _)
  obtain ⟨pr, hpr⟩ : ∃ p, p = w.heap.size := ⟨_, rfl⟩
  have hbr : Box3 w0 pr (Value.bool false) (Value.slice none 0 0) (Value.slice none 0 0) := by rw [hw0, hpr]; exact ⟨by go_simp, by go_simp, by go_simp, by go_simp, by go_simp, by go_simp⟩
  have HP : Hid (w.heap.size ≤ pr) := Lib.hid (by omega)
  have HW := Lib.hid hw0; clear hw0
  go_enter Tryz.func17, Tryz.ntmps17
  go_upto_region 1 with fail
  rw [← HW.out, ← hpr]
  clear hpr HW
  obtain ⟨k9, hk9⟩ : ∃ c, c = qcode l := ⟨_, rfl⟩
  have hkb : (k9 == 0) = b := by rw [hk9, tis_code]; exact HB.out.symm
  have HK := Lib.hid hk9
  clear hk9
  go_wp2_with fail
  refine (rqparse_main l _ q k9 HQ HK (by omega)).mono ?_
  rintro e w1 hq9
  obtain ⟨vB, vxO, vxL, vxC, vyO, vyL, vyC, rfl, hS, hvx, hvy, hv, hb⟩ := hq9.out
  have HvS := Lib.hid hS; clear hS
  replace hbr := hbr.kept hb
  replace hbf := hbf.trans (hb.mono hbf.size)
  clear hb
  obtain ⟨w2, hwE⟩ : ∃ W, W = (w1.alloc (.cells #[.bool vB, .slice vxO vxL vxC, .slice vyO vyL vyC] 39)) := ⟨_, rfl⟩
  have hb : Below w1.heap.size w1 w2 := by rw [hwE]; exact ((Below.refl _ w1).alloc (Nat.le_refl _) _)
  obtain ⟨pv, hpv⟩ : ∃ p, p = w1.heap.size := ⟨_, rfl⟩
  have hbv : Box3 w2 pv (Value.bool vB) (Value.slice vxO vxL vxC) (Value.slice vyO vyL vyC) := by rw [hwE, hpv]; exact ⟨by go_simp, by go_simp, by go_simp, by go_simp, by go_simp, by go_simp⟩
  replace HP : Hid (w.heap.size ≤ pr ∧ pr < pv) := Lib.hid (by have h1 := HP.out; have h9 := hbf.size; have h2r := hbr.lt; omega)
  have HW := Lib.hid hwE; clear hwE
  go_upto_region 2 with fail
  rw [← HW.out, ← hpv]
  clear hpv HW
  replace hbr := hbr.kept hb
  replace hvx := hvx.below hb
  replace hvy := hvy.below hb
  replace hv := hv.below hb
  replace hbf := hbf.trans (hb.mono hbf.size)
  clear hb
  have ev0 := hbv.c0
  have ev1 := hbv.c1
  have ev2 := hbv.c2
  have er0 := hbr.c0
  have fr0 := hbr.f0
  have er1 := hbr.c1
  have fr1 := hbr.f1
  have er2 := hbr.c2
  have fr2 := hbr.f2
  go_wp2_with fail
  exact end_rb rfl rfl rfl rfl hbr (show w.heap.size ≤ pr by have := HP.out; omega) hv hbf

set_option maxRecDepth 100000 in
set_option maxHeartbeats 1000000 in
/-- ratio. -/
theorem ratio_any (l : List UInt8) (o : Bool) (w : World) (HO : Hid (o = tok l)) (hl : l.length ≤ 100000) : Calls Tryz.prog 18 #[.string ⟨l.toArray⟩] w fun e w' => e = .returned (.bool o) ∧ Below w.heap.size w w' := by
  go_enter Tryz.func18, Tryz.ntmps18
  obtain ⟨b, HB⟩ : ∃ b, Hid (b = tis l) := ⟨_, Lib.hid rfl⟩
  obtain ⟨q, HQ⟩ : ∃ q, Hid (q = qval l) := ⟨_, Lib.hid rfl⟩
  obtain ⟨k9, hk9⟩ : ∃ c, c = qcode l := ⟨_, rfl⟩
  have hkb : (k9 == 0) = b := by rw [hk9, tis_code]; exact HB.out.symm
  have HK := Lib.hid hk9
  clear hk9
  go_wp2_with fail
  refine (rqparse_main l _ q k9 HQ HK (by omega)).mono ?_
  rintro e w1 hq9
  obtain ⟨vB, vxO, vxL, vxC, vyO, vyL, vyC, rfl, hS, hvx, hvy, hv, hb⟩ := hq9.out
  have HvS := Lib.hid hS; clear hS
  have hbf := hb
  clear hb
  obtain ⟨w2, hwE⟩ : ∃ W, W = (w1.alloc (.cells #[.bool vB, .slice vxO vxL vxC, .slice vyO vyL vyC] 39)) := ⟨_, rfl⟩
  have hb : Below w1.heap.size w1 w2 := by rw [hwE]; exact ((Below.refl _ w1).alloc (Nat.le_refl _) _)
  obtain ⟨pv, hpv⟩ : ∃ p, p = w1.heap.size := ⟨_, rfl⟩
  have hbv : Box3 w2 pv (Value.bool vB) (Value.slice vxO vxL vxC) (Value.slice vyO vyL vyC) := by rw [hwE, hpv]; exact ⟨by go_simp, by go_simp, by go_simp, by go_simp, by go_simp, by go_simp⟩
  have HP : Hid (w.heap.size ≤ pv) := Lib.hid (by have h9 := hbf.size; omega)
  have HW := Lib.hid hwE; clear hwE
  go_upto_region 2 with fail
  rw [← HW.out, ← hpv]
  clear hpv HW
  replace hvx := hvx.below hb
  replace hvy := hvy.below hb
  replace hv := hv.below hb
  replace hbf := hbf.trans (hb.mono hbf.size)
  clear hb
  by_cases h0 : l = []
  case pos =>
    have h1 : (l == []) = true := by rw [beq_iff_eq]; exact h0
    go_wp2_with fail
    go_ret
    exact ⟨ret_one (by rw [HO.out, h0]; rfl), hbf⟩
  case neg =>
    have h1 := nil_beq h0
    go_wp2_with fail
    go_ret
    exact ⟨ret_one (by rw [HO.out]; unfold tok; rw [decide_eq_false h0, ← HB.out]; rfl), hbf⟩

theorem tcast_qb3 {r : Rat} (c : Int) (h : QB r 6004) : QB (tcast c r) 30000 := by
  unfold tcast; split
  · exact h.round.mono (by decide)
  · split
    · exact h.neg.floor.neg.mono (by decide)
    · split
      · exact h.floor.mono (by decide)
      · exact h.mono (by decide)

set_option maxRecDepth 100000 in
set_option maxHeartbeats 1000000 in
/-- Apply. -/
theorem rapply_any (mn mx fa co num : List UInt8) (c : Int) (w : World) (h1 : mn.length ≤ 100000) (h2 : mx.length ≤ 100000) (h3 : fa.length ≤ 100000) (h4 : co.length ≤ 100000) (h5 : num.length ≤ 100000) : Calls Tryz.prog 10 #[tgtV mn mx fa co c, .string ⟨num.toArray⟩] w fun e w' => e = .returned (.string ⟨(tapply mn mx fa co c num).toArray⟩) ∧ Below w.heap.size w w' := by
  obtain ⟨w0, hw0⟩ : ∃ w0, w0 = (w.alloc (.cells #[.string ⟨mn.toArray⟩, .string ⟨mx.toArray⟩, .string ⟨fa.toArray⟩, .string ⟨co.toArray⟩, .int .i64 c] 23)) := ⟨_, rfl⟩
  have hbf : Below w.heap.size w w0 := by rw [hw0]; exact ((Below.refl _ w).alloc (Nat.le_refl _) _)
  obtain ⟨pg, hpg⟩ : ∃ p, p = w.heap.size := ⟨_, rfl⟩
  have hbg : Box5 w0 pg (Value.string ⟨mn.toArray⟩) (Value.string ⟨mx.toArray⟩) (Value.string ⟨fa.toArray⟩) (Value.string ⟨co.toArray⟩) (Value.int .i64 c) := by rw [hw0, hpg]; exact ⟨by go_simp, by go_simp, by go_simp, by go_simp, by go_simp, by go_simp, by go_simp, by go_simp, by go_simp, by go_simp⟩
  have HP : Hid (w.heap.size ≤ pg) := Lib.hid (by omega)
  have HW := Lib.hid hw0; clear hw0
  go_enter Tryz.func10, Tryz.ntmps10
  go_upto_region 1 with fail
  rw [← HW.out, ← hpg]
  clear hpg HW
  obtain ⟨qu, iu, ou, HQu, HIu, HOu⟩ : ∃ (q : Rat) (i o : Bool), Hid (q = qval num) ∧ Hid (i = tis num) ∧ Hid (o = tok num) := ⟨_, _, _, Lib.hid rfl, Lib.hid rfl, Lib.hid rfl⟩
  have hqu : QB qu 2001 := by rw [HQu.out]; exact QB.any _
  obtain ⟨qv, iv, ov, HQv, HIv, HOv⟩ : ∃ (q : Rat) (i o : Bool), Hid (q = qval mn) ∧ Hid (i = tis mn) ∧ Hid (o = tok mn) := ⟨_, _, _, Lib.hid rfl, Lib.hid rfl, Lib.hid rfl⟩
  have hqv : QB qv 2001 := by rw [HQv.out]; exact QB.any _
  obtain ⟨qx, ix, ox, HQx, HIx, HOx⟩ : ∃ (q : Rat) (i o : Bool), Hid (q = qval mx) ∧ Hid (i = tis mx) ∧ Hid (o = tok mx) := ⟨_, _, _, Lib.hid rfl, Lib.hid rfl, Lib.hid rfl⟩
  have hqx : QB qx 2001 := by rw [HQx.out]; exact QB.any _
  obtain ⟨qy, iy, oy, HQy, HIy, HOy⟩ : ∃ (q : Rat) (i o : Bool), Hid (q = qval fa) ∧ Hid (i = tis fa) ∧ Hid (o = tok fa) := ⟨_, _, _, Lib.hid rfl, Lib.hid rfl, Lib.hid rfl⟩
  have hqy : QB qy 2001 := by rw [HQy.out]; exact QB.any _
  obtain ⟨qz, iz, oz, HQz, HIz, HOz⟩ : ∃ (q : Rat) (i o : Bool), Hid (q = qval co) ∧ Hid (i = tis co) ∧ Hid (o = tok co) := ⟨_, _, _, Lib.hid rfl, Lib.hid rfl, Lib.hid rfl⟩
  have hqz : QB qz 2001 := by rw [HQz.out]; exact QB.any _
  have HT : Hid (tapply mn mx fa co c num = if (iu && ov && ox && oy && oz) = true then qtext (tgval mn mx fa co c qu) else []) := Lib.hid (by rw [HIu.out, HOv.out, HOx.out, HOy.out, HOz.out, HQu.out]; rfl)
  go_wp2_with fail
  refine (text12_any num qu iu _ HQu HIu (by omega)).mono ?_
  rintro e w1 hq9
  obtain ⟨uB, uxO, uxL, uxC, uyO, uyL, uyC, rfl, hS, hux, huy, hu, hb⟩ := hq9.out
  have HuS := Lib.hid hS; clear hS
  replace hbg := hbg.kept hb
  replace hbf := hbf.trans (hb.mono hbf.size)
  clear hb
  obtain ⟨w2, hwE⟩ : ∃ W, W = (w1.alloc (.cells #[.bool uB, .slice uxO uxL uxC, .slice uyO uyL uyC] 39)) := ⟨_, rfl⟩
  have hb : Below w1.heap.size w1 w2 := by rw [hwE]; exact ((Below.refl _ w1).alloc (Nat.le_refl _) _)
  obtain ⟨pu, hpu⟩ : ∃ p, p = w1.heap.size := ⟨_, rfl⟩
  have hbu : Box3 w2 pu (Value.bool uB) (Value.slice uxO uxL uxC) (Value.slice uyO uyL uyC) := by rw [hwE, hpu]; exact ⟨by go_simp, by go_simp, by go_simp, by go_simp, by go_simp, by go_simp⟩
  replace HP : Hid (w.heap.size ≤ pg ∧ pg < pu) := Lib.hid (by have h1 := HP.out; have h9 := hbf.size; have h2g := hbg.lt; omega)
  have HW := Lib.hid hwE; clear hwE
  go_upto_region 2 with fail
  rw [← HW.out, ← hpu]
  clear hpu HW
  replace hbg := hbg.kept hb
  replace hux := hux.below hb
  replace huy := huy.below hb
  replace hu := hu.below hb
  replace hbf := hbf.trans (hb.mono hbf.size)
  clear hb
  cases iu
  case false =>
    have HT2 : Hid (tapply mn mx fa co c num = []) := Lib.hid (by rw [HT.out]; rfl)
    go_wp2_with fail
    go_ret
    exact ⟨ret_one (by rw [HT2.out]; rfl), hbf⟩
  case true =>
    have eg0 := hbg.c0
    have eg1 := hbg.c1
    have eg2 := hbg.c2
    have eg3 := hbg.c3
    have eg4 := hbg.c4
    go_wp2_with fail
    refine (ratio_any mn ov _ HOv (by omega)).mono ?_
    rintro e w3 ⟨rfl, hb⟩
    clear eg0 eg1 eg2 eg3 eg4
    replace hbg := hbg.kept hb
    replace hbu := hbu.kept hb
    replace hux := hux.below hb
    replace huy := huy.below hb
    replace hu := hu.below hb
    replace hbf := hbf.trans (hb.mono hbf.size)
    clear hb
    cases ov
    case false =>
      have HT2 : Hid (tapply mn mx fa co c num = []) := Lib.hid (by rw [HT.out]; rfl)
      go_wp2_with fail
      go_ret
      exact ⟨ret_one (by rw [HT2.out]; rfl), hbf⟩
    case true =>
      have eg0 := hbg.c0
      have eg1 := hbg.c1
      have eg2 := hbg.c2
      have eg3 := hbg.c3
      have eg4 := hbg.c4
      go_wp2_with fail
      refine (ratio_any mx ox _ HOx (by omega)).mono ?_
      rintro e w4 ⟨rfl, hb⟩
      clear eg0 eg1 eg2 eg3 eg4
      replace hbg := hbg.kept hb
      replace hbu := hbu.kept hb
      replace hux := hux.below hb
      replace huy := huy.below hb
      replace hu := hu.below hb
      replace hbf := hbf.trans (hb.mono hbf.size)
      clear hb
      cases ox
      case false =>
        have HT2 : Hid (tapply mn mx fa co c num = []) := Lib.hid (by rw [HT.out]; rfl)
        go_wp2_with fail
        go_ret
        exact ⟨ret_one (by rw [HT2.out]; rfl), hbf⟩
      case true =>
        have eg0 := hbg.c0
        have eg1 := hbg.c1
        have eg2 := hbg.c2
        have eg3 := hbg.c3
        have eg4 := hbg.c4
        go_wp2_with fail
        refine (ratio_any fa oy _ HOy (by omega)).mono ?_
        rintro e w5 ⟨rfl, hb⟩
        clear eg0 eg1 eg2 eg3 eg4
        replace hbg := hbg.kept hb
        replace hbu := hbu.kept hb
        replace hux := hux.below hb
        replace huy := huy.below hb
        replace hu := hu.below hb
        replace hbf := hbf.trans (hb.mono hbf.size)
        clear hb
        cases oy
        case false =>
          have HT2 : Hid (tapply mn mx fa co c num = []) := Lib.hid (by rw [HT.out]; rfl)
          go_wp2_with fail
          go_ret
          exact ⟨ret_one (by rw [HT2.out]; rfl), hbf⟩
        case true =>
          have eg0 := hbg.c0
          have eg1 := hbg.c1
          have eg2 := hbg.c2
          have eg3 := hbg.c3
          have eg4 := hbg.c4
          go_wp2_with fail
          refine (ratio_any co oz _ HOz (by omega)).mono ?_
          rintro e w6 ⟨rfl, hb⟩
          clear eg0 eg1 eg2 eg3 eg4
          replace hbg := hbg.kept hb
          replace hbu := hbu.kept hb
          replace hux := hux.below hb
          replace huy := huy.below hb
          replace hu := hu.below hb
          replace hbf := hbf.trans (hb.mono hbf.size)
          clear hb
          cases oz
          case false =>
            have HT2 : Hid (tapply mn mx fa co c num = []) := Lib.hid (by rw [HT.out]; rfl)
            go_wp2_with fail
            go_ret
            exact ⟨ret_one (by rw [HT2.out]; rfl), hbf⟩
          case true =>
            have HTA : Hid (tapply mn mx fa co c num = qtext (tgval mn mx fa co c qu)) := Lib.hid (by rw [HT.out]; rfl)
            clear HT HOu HOv HOx HOy HOz
            clear hux huy
            have eg0 := hbg.c0
            have eg1 := hbg.c1
            have eg2 := hbg.c2
            have eg3 := hbg.c3
            have eg4 := hbg.c4
            go_wp2_with fail
            refine (text12_any mn qv iv _ HQv HIv (by omega)).mono ?_
            rintro e w7 hq9
            obtain ⟨vB, vxO, vxL, vxC, vyO, vyL, vyC, rfl, hS, hvx, hvy, hv, hb⟩ := hq9.out
            have HvS := Lib.hid hS; clear hS
            clear eg0 eg1 eg2 eg3 eg4
            replace hbg := hbg.kept hb
            replace hbu := hbu.kept hb
            replace hu := hu.below hb
            replace hbf := hbf.trans (hb.mono hbf.size)
            clear hb
            obtain ⟨w8, hwE⟩ : ∃ W, W = (w7.alloc (.cells #[.bool vB, .slice vxO vxL vxC, .slice vyO vyL vyC] 39)) := ⟨_, rfl⟩
            have hb : Below w7.heap.size w7 w8 := by rw [hwE]; exact ((Below.refl _ w7).alloc (Nat.le_refl _) _)
            obtain ⟨pv, hpv⟩ : ∃ p, p = w7.heap.size := ⟨_, rfl⟩
            have hbv : Box3 w8 pv (Value.bool vB) (Value.slice vxO vxL vxC) (Value.slice vyO vyL vyC) := by rw [hwE, hpv]; exact ⟨by go_simp, by go_simp, by go_simp, by go_simp, by go_simp, by go_simp⟩
            replace HP : Hid (w.heap.size ≤ pg ∧ pg < pu ∧ pu < pv) := Lib.hid (by have h1 := HP.out; have h9 := hbf.size; have h2u := hbu.lt; omega)
            have HW := Lib.hid hwE; clear hwE
            go_upto_region 5 with fail
            rw [← HW.out, ← hpv]
            clear hpv HW
            replace hbg := hbg.kept hb
            replace hbu := hbu.kept hb
            replace hu := hu.below hb
            replace hvx := hvx.below hb
            replace hvy := hvy.below hb
            replace hv := hv.below hb
            replace hbf := hbf.trans (hb.mono hbf.size)
            clear hb
            clear hvx hvy
            obtain ⟨r1, HR1⟩ : ∃ r, Hid (r = tlow qu mn) := ⟨_, Lib.hid rfl⟩
            obtain ⟨t1, HT1⟩ : ∃ t, Hid (t = (iv && decide (qu < qv))) := ⟨_, Lib.hid rfl⟩
            have HY1 : Hid (r1 = if t1 = true then qv else qu) := Lib.hid (by rw [HR1.out, tlow_is, HT1.out, HIv.out, HQv.out])
            go_upto_region 5 with fail
            go_cut [52] (fun p529 wx => p529 = .bool t1 ∧ Box5 wx pg (Value.string ⟨mn.toArray⟩) (Value.string ⟨mx.toArray⟩) (Value.string ⟨fa.toArray⟩) (Value.string ⟨co.toArray⟩) (Value.int .i64 c) ∧ Box3 wx pu (Value.bool uB) (Value.slice uxO uxL uxC) (Value.slice uyO uyL uyC) ∧ Box3 wx pv (Value.bool vB) (Value.slice vxO vxL vxC) (Value.slice vyO vyL vyC) ∧ RQIs wx (.agg #[.bool uB, .slice uxO uxL uxC, .slice uyO uyL uyC]) qu ∧ RQIs wx (.agg #[.bool vB, .slice vxO vxL vxC, .slice vyO vyL vyC]) qv ∧ Below w.heap.size w wx)
            case first =>
              cases iv
              case false =>
                obtain rfl : t1 = false := by rw [HT1.out]; rfl
                go_wp2_with fail
                go_meet
                case rel => exact ⟨rfl, hbg, hbu, hbv, hu, hv, hbf⟩
              case true =>
                by_cases hlt : qu < qv
                case pos =>
                  obtain rfl : t1 = true := by rw [HT1.out, decide_eq_true hlt]; rfl
                  have eu0 := hbu.c0
                  have eu1 := hbu.c1
                  have eu2 := hbu.c2
                  have ev0 := hbv.c0
                  have ev1 := hbv.c1
                  have ev2 := hbv.c2
                  go_wp2_with fail
                  refine (rcmp_z _ _ qu qv (-1) 2001 2001 _ hu hv hqu hqv (by decide) (Lib.hid (qcmp_lt hlt))).mono ?_
                  rintro e w9 ⟨rfl, hb⟩
                  clear eu0 eu1 eu2 ev0 ev1 ev2
                  replace hbg := hbg.kept hb
                  replace hbu := hbu.kept hb
                  replace hbv := hbv.kept hb
                  replace hu := hu.below hb
                  replace hv := hv.below hb
                  replace hbf := hbf.trans (hb.mono hbf.size)
                  clear hb
                  go_wp2_with fail
                  go_meet
                  case rel => exact ⟨rfl, hbg, hbu, hbv, hu, hv, hbf⟩
                case neg =>
                  obtain rfl : t1 = false := by rw [HT1.out, decide_eq_false hlt]; rfl
                  obtain ⟨z9, hz9⟩ : ∃ z, qcmp qu qv = z := ⟨_, rfl⟩
                  have HZ := Lib.hid hz9
                  have hc : decide (z9 < 0) = false := decide_eq_false (by rw [← hz9]; exact qcmp_nlt hlt)
                  clear hz9
                  have eu0 := hbu.c0
                  have eu1 := hbu.c1
                  have eu2 := hbu.c2
                  have ev0 := hbv.c0
                  have ev1 := hbv.c1
                  have ev2 := hbv.c2
                  go_wp2_with fail
                  refine (rcmp_z _ _ qu qv z9 2001 2001 _ hu hv hqu hqv (by decide) HZ).mono ?_
                  rintro e w9 ⟨rfl, hb⟩
                  clear eu0 eu1 eu2 ev0 ev1 ev2
                  replace hbg := hbg.kept hb
                  replace hbu := hbu.kept hb
                  replace hbv := hbv.kept hb
                  replace hu := hu.below hb
                  replace hv := hv.below hb
                  replace hbf := hbf.trans (hb.mono hbf.size)
                  clear hb
                  go_wp2_with fail
                  go_meet
                  case rel => exact ⟨rfl, hbg, hbu, hbv, hu, hv, hbf⟩
            case rest =>
              clear hbg hbu hbv hu hv hbf
              obtain ⟨rfl, hbg, hbu, hbv, hu, hv, hbf⟩ := hcut
              obtain ⟨w9, hwE⟩ : ∃ W, W = wc := ⟨_, rfl⟩
              subst hwE
              have hqr1 : QB r1 2001 := by rw [HR1.out]; exact tlow_qb hqu (QB.any mn)
              go_upto_if 52 with fail
              go_cut [] (fun wx => ∃ (sB : Bool) (xO : Option Addr) (xL xC : Nat) (yO : Option Addr) (yL yC : Nat), Box3 wx pu (.bool sB) (.slice xO xL xC) (.slice yO yL yC) ∧ RQIs wx (.agg #[.bool sB, .slice xO xL xC, .slice yO yL yC]) (r1) ∧ Box5 wx pg (Value.string ⟨mn.toArray⟩) (Value.string ⟨mx.toArray⟩) (Value.string ⟨fa.toArray⟩) (Value.string ⟨co.toArray⟩) (Value.int .i64 c) ∧ Box3 wx pv (Value.bool vB) (Value.slice vxO vxL vxC) (Value.slice vyO vyL vyC) ∧ Below w.heap.size w wx)
              case first =>
                cases t1
                case false =>
                  have hr9 : r1 = qu := by rw [HY1.out]; rfl
                  rw [← hr9] at hu
                  go_wp2_with fail
                  go_meet
                  case rel => exact ⟨_, _, _, _, _, _, _, hbu, hu, hbg, hbv, hbf⟩
                case true =>
                  have hr9 : r1 = qv := by rw [HY1.out]; rfl
                  have hnew := hv
                  rw [← hr9] at hnew
                  have ev0 := hbv.c0
                  have ev1 := hbv.c1
                  have ev2 := hbv.c2
                  have eu0 := hbu.c0
                  have fu0 := hbu.f0
                  have eu1 := hbu.c1
                  have fu1 := hbu.f1
                  have eu2 := hbu.c2
                  have fu2 := hbu.f2
                  go_wp2_with fail
                  clear ev0 ev1 ev2 eu0 fu0 eu1 fu1 eu2 fu2
                  obtain ⟨w10, hwE⟩ : ∃ W, W = ((w9.setCell ⟨pu, 0, none⟩ (Value.bool vB)).setCell ⟨pu, 1, none⟩ (Value.slice vxO vxL vxC)).setCell ⟨pu, 2, none⟩ (Value.slice vyO vyL vyC) := ⟨_, rfl⟩
                  rw [← hwE]
                  replace hu := hu.set3 (u0 := (Value.bool vB)) (u1 := (Value.slice vxO vxL vxC)) (u2 := (Value.slice vyO vyL vyC)) hbu; rw [← hwE] at hu
                  replace hv := hv.set3 (u0 := (Value.bool vB)) (u1 := (Value.slice vxO vxL vxC)) (u2 := (Value.slice vyO vyL vyC)) hbu; rw [← hwE] at hv
                  replace hnew := hnew.set3 (u0 := (Value.bool vB)) (u1 := (Value.slice vxO vxL vxC)) (u2 := (Value.slice vyO vyL vyC)) hbu; rw [← hwE] at hnew
                  replace hbg := hbg.set3t (u0 := (Value.bool vB)) (u1 := (Value.slice vxO vxL vxC)) (u2 := (Value.slice vyO vyL vyC)) (show pg ≠ pu by have := HP.out; omega); rw [← hwE] at hbg
                  replace hbv := hbv.set3o (u0 := (Value.bool vB)) (u1 := (Value.slice vxO vxL vxC)) (u2 := (Value.slice vyO vyL vyC)) (show pv ≠ pu by have := HP.out; omega); rw [← hwE] at hbv
                  replace hbf := below_set3 (u0 := (Value.bool vB)) (u1 := (Value.slice vxO vxL vxC)) (u2 := (Value.slice vyO vyL vyC)) hbf (show w.heap.size ≤ pu by have := HP.out; omega); rw [← hwE] at hbf
                  replace hbu := hbu.set3 (u0 := (Value.bool vB)) (u1 := (Value.slice vxO vxL vxC)) (u2 := (Value.slice vyO vyL vyC)); rw [← hwE] at hbu; clear hwE
                  go_meet
                  case rel => exact ⟨_, _, _, _, _, _, _, hbu, hnew, hbg, hbv, hbf⟩
              case rest =>
                clear hbu hbg hbv hbf
                obtain ⟨k9B, k9xO, k9xL, k9xC, k9yO, k9yL, k9yC, hbu, hk9, hbg, hbv, hbf⟩ := hcut
                obtain ⟨w11, hwE⟩ : ∃ W, W = wc := ⟨_, rfl⟩
                subst hwE
                have eg0 := hbg.c0
                have eg1 := hbg.c1
                have eg2 := hbg.c2
                have eg3 := hbg.c3
                have eg4 := hbg.c4
                go_wp2_with fail
                refine (text12_any mx qx ix _ HQx HIx (by omega)).mono ?_
                rintro e w12 hq9
                obtain ⟨xB, xxO, xxL, xxC, xyO, xyL, xyC, rfl, hS, hxx, hxy, hx, hb⟩ := hq9.out
                have HxS := Lib.hid hS; clear hS
                clear eg0 eg1 eg2 eg3 eg4
                replace hbg := hbg.kept hb
                replace hbu := hbu.kept hb
                replace hbv := hbv.kept hb
                replace hk9 := hk9.below hb
                replace hbf := hbf.trans (hb.mono hbf.size)
                clear hb
                have ev0 := hbv.c0
                have fv0 := hbv.f0
                have ev1 := hbv.c1
                have fv1 := hbv.f1
                have ev2 := hbv.c2
                have fv2 := hbv.f2
                go_upto_region 8 with fail
                clear ev0 fv0 ev1 fv1 ev2 fv2
                obtain ⟨w13, hwE⟩ : ∃ W, W = ((w12.setCell ⟨pv, 0, none⟩ (Value.bool xB)).setCell ⟨pv, 1, none⟩ (Value.slice xxO xxL xxC)).setCell ⟨pv, 2, none⟩ (Value.slice xyO xyL xyC) := ⟨_, rfl⟩
                rw [← hwE]
                replace hk9 := hk9.set3 (u0 := (Value.bool xB)) (u1 := (Value.slice xxO xxL xxC)) (u2 := (Value.slice xyO xyL xyC)) hbv; rw [← hwE] at hk9
                replace hxx := hxx.set3 (u0 := (Value.bool xB)) (u1 := (Value.slice xxO xxL xxC)) (u2 := (Value.slice xyO xyL xyC)) hbv; rw [← hwE] at hxx
                replace hxy := hxy.set3 (u0 := (Value.bool xB)) (u1 := (Value.slice xxO xxL xxC)) (u2 := (Value.slice xyO xyL xyC)) hbv; rw [← hwE] at hxy
                replace hx := hx.set3 (u0 := (Value.bool xB)) (u1 := (Value.slice xxO xxL xxC)) (u2 := (Value.slice xyO xyL xyC)) hbv; rw [← hwE] at hx
                replace hbg := hbg.set3t (u0 := (Value.bool xB)) (u1 := (Value.slice xxO xxL xxC)) (u2 := (Value.slice xyO xyL xyC)) (show pg ≠ pv by have := HP.out; omega); rw [← hwE] at hbg
                replace hbu := hbu.set3o (u0 := (Value.bool xB)) (u1 := (Value.slice xxO xxL xxC)) (u2 := (Value.slice xyO xyL xyC)) (show pu ≠ pv by have := HP.out; omega); rw [← hwE] at hbu
                replace hbf := below_set3 (u0 := (Value.bool xB)) (u1 := (Value.slice xxO xxL xxC)) (u2 := (Value.slice xyO xyL xyC)) hbf (show w.heap.size ≤ pv by have := HP.out; omega); rw [← hwE] at hbf
                replace hbv := hbv.set3 (u0 := (Value.bool xB)) (u1 := (Value.slice xxO xxL xxC)) (u2 := (Value.slice xyO xyL xyC)); rw [← hwE] at hbv; clear hwE
                clear hxx hxy
                obtain ⟨r2, HR2⟩ : ∃ r, Hid (r = thigh r1 mx) := ⟨_, Lib.hid rfl⟩
                obtain ⟨t2, HT2⟩ : ∃ t, Hid (t = (ix && decide (qx < r1))) := ⟨_, Lib.hid rfl⟩
                have HY2 : Hid (r2 = if t2 = true then qx else r1) := Lib.hid (by rw [HR2.out, thigh_is, HT2.out, HIx.out, HQx.out])
                go_upto_region 8 with fail
                go_cut [66] (fun p669 wx => p669 = .bool t2 ∧ Box5 wx pg (Value.string ⟨mn.toArray⟩) (Value.string ⟨mx.toArray⟩) (Value.string ⟨fa.toArray⟩) (Value.string ⟨co.toArray⟩) (Value.int .i64 c) ∧ Box3 wx pu (Value.bool k9B) (Value.slice k9xO k9xL k9xC) (Value.slice k9yO k9yL k9yC) ∧ Box3 wx pv (Value.bool xB) (Value.slice xxO xxL xxC) (Value.slice xyO xyL xyC) ∧ RQIs wx (.agg #[.bool k9B, .slice k9xO k9xL k9xC, .slice k9yO k9yL k9yC]) r1 ∧ RQIs wx (.agg #[.bool xB, .slice xxO xxL xxC, .slice xyO xyL xyC]) qx ∧ Below w.heap.size w wx)
                case first =>
                  cases ix
                  case false =>
                    obtain rfl : t2 = false := by rw [HT2.out]; rfl
                    go_wp2_with fail
                    go_meet
                    case rel => exact ⟨rfl, hbg, hbu, hbv, hk9, hx, hbf⟩
                  case true =>
                    by_cases hlt : qx < r1
                    case pos =>
                      obtain rfl : t2 = true := by rw [HT2.out, decide_eq_true hlt]; rfl
                      have eu0 := hbu.c0
                      have eu1 := hbu.c1
                      have eu2 := hbu.c2
                      have ev0 := hbv.c0
                      have ev1 := hbv.c1
                      have ev2 := hbv.c2
                      go_wp2_with fail
                      refine (rcmp_z _ _ r1 qx (1) 2001 2001 _ hk9 hx hqr1 hqx (by decide) (Lib.hid (qcmp_gt hlt))).mono ?_
                      rintro e w14 ⟨rfl, hb⟩
                      clear eu0 eu1 eu2 ev0 ev1 ev2
                      replace hbg := hbg.kept hb
                      replace hbu := hbu.kept hb
                      replace hbv := hbv.kept hb
                      replace hk9 := hk9.below hb
                      replace hx := hx.below hb
                      replace hbf := hbf.trans (hb.mono hbf.size)
                      clear hb
                      go_wp2_with fail
                      go_meet
                      case rel => exact ⟨rfl, hbg, hbu, hbv, hk9, hx, hbf⟩
                    case neg =>
                      obtain rfl : t2 = false := by rw [HT2.out, decide_eq_false hlt]; rfl
                      obtain ⟨z9, hz9⟩ : ∃ z, qcmp r1 qx = z := ⟨_, rfl⟩
                      have HZ := Lib.hid hz9
                      have hc : decide (0 < z9) = false := decide_eq_false (by rw [← hz9]; exact qcmp_ngt2 hlt)
                      clear hz9
                      have eu0 := hbu.c0
                      have eu1 := hbu.c1
                      have eu2 := hbu.c2
                      have ev0 := hbv.c0
                      have ev1 := hbv.c1
                      have ev2 := hbv.c2
                      go_wp2_with fail
                      refine (rcmp_z _ _ r1 qx z9 2001 2001 _ hk9 hx hqr1 hqx (by decide) HZ).mono ?_
                      rintro e w14 ⟨rfl, hb⟩
                      clear eu0 eu1 eu2 ev0 ev1 ev2
                      replace hbg := hbg.kept hb
                      replace hbu := hbu.kept hb
                      replace hbv := hbv.kept hb
                      replace hk9 := hk9.below hb
                      replace hx := hx.below hb
                      replace hbf := hbf.trans (hb.mono hbf.size)
                      clear hb
                      go_wp2_with fail
                      go_meet
                      case rel => exact ⟨rfl, hbg, hbu, hbv, hk9, hx, hbf⟩
                case rest =>
                  clear hbg hbu hbv hk9 hx hbf
                  obtain ⟨rfl, hbg, hbu, hbv, hk9, hx, hbf⟩ := hcut
                  obtain ⟨w14, hwE⟩ : ∃ W, W = wc := ⟨_, rfl⟩
                  subst hwE
                  have hqr2 : QB r2 2001 := by rw [HR2.out]; exact thigh_qb hqr1 (QB.any mx)
                  go_upto_if 66 with fail
                  go_cut [] (fun wx => ∃ (sB : Bool) (xO : Option Addr) (xL xC : Nat) (yO : Option Addr) (yL yC : Nat), Box3 wx pu (.bool sB) (.slice xO xL xC) (.slice yO yL yC) ∧ RQIs wx (.agg #[.bool sB, .slice xO xL xC, .slice yO yL yC]) (r2) ∧ Box5 wx pg (Value.string ⟨mn.toArray⟩) (Value.string ⟨mx.toArray⟩) (Value.string ⟨fa.toArray⟩) (Value.string ⟨co.toArray⟩) (Value.int .i64 c) ∧ Box3 wx pv (Value.bool xB) (Value.slice xxO xxL xxC) (Value.slice xyO xyL xyC) ∧ Below w.heap.size w wx)
                  case first =>
                    cases t2
                    case false =>
                      have hr9 : r2 = r1 := by rw [HY2.out]; rfl
                      rw [← hr9] at hk9
                      go_wp2_with fail
                      go_meet
                      case rel => exact ⟨_, _, _, _, _, _, _, hbu, hk9, hbg, hbv, hbf⟩
                    case true =>
                      have hr9 : r2 = qx := by rw [HY2.out]; rfl
                      have hnew := hx
                      rw [← hr9] at hnew
                      have ev0 := hbv.c0
                      have ev1 := hbv.c1
                      have ev2 := hbv.c2
                      have eu0 := hbu.c0
                      have fu0 := hbu.f0
                      have eu1 := hbu.c1
                      have fu1 := hbu.f1
                      have eu2 := hbu.c2
                      have fu2 := hbu.f2
                      go_wp2_with fail
                      clear ev0 ev1 ev2 eu0 fu0 eu1 fu1 eu2 fu2
                      obtain ⟨w15, hwE⟩ : ∃ W, W = ((w14.setCell ⟨pu, 0, none⟩ (Value.bool xB)).setCell ⟨pu, 1, none⟩ (Value.slice xxO xxL xxC)).setCell ⟨pu, 2, none⟩ (Value.slice xyO xyL xyC) := ⟨_, rfl⟩
                      rw [← hwE]
                      replace hk9 := hk9.set3 (u0 := (Value.bool xB)) (u1 := (Value.slice xxO xxL xxC)) (u2 := (Value.slice xyO xyL xyC)) hbu; rw [← hwE] at hk9
                      replace hx := hx.set3 (u0 := (Value.bool xB)) (u1 := (Value.slice xxO xxL xxC)) (u2 := (Value.slice xyO xyL xyC)) hbu; rw [← hwE] at hx
                      replace hnew := hnew.set3 (u0 := (Value.bool xB)) (u1 := (Value.slice xxO xxL xxC)) (u2 := (Value.slice xyO xyL xyC)) hbu; rw [← hwE] at hnew
                      replace hbg := hbg.set3t (u0 := (Value.bool xB)) (u1 := (Value.slice xxO xxL xxC)) (u2 := (Value.slice xyO xyL xyC)) (show pg ≠ pu by have := HP.out; omega); rw [← hwE] at hbg
                      replace hbv := hbv.set3o (u0 := (Value.bool xB)) (u1 := (Value.slice xxO xxL xxC)) (u2 := (Value.slice xyO xyL xyC)) (show pv ≠ pu by have := HP.out; omega); rw [← hwE] at hbv
                      replace hbf := below_set3 (u0 := (Value.bool xB)) (u1 := (Value.slice xxO xxL xxC)) (u2 := (Value.slice xyO xyL xyC)) hbf (show w.heap.size ≤ pu by have := HP.out; omega); rw [← hwE] at hbf
                      replace hbu := hbu.set3 (u0 := (Value.bool xB)) (u1 := (Value.slice xxO xxL xxC)) (u2 := (Value.slice xyO xyL xyC)); rw [← hwE] at hbu; clear hwE
                      go_meet
                      case rel => exact ⟨_, _, _, _, _, _, _, hbu, hnew, hbg, hbv, hbf⟩
                  case rest =>
                    clear hbu hbg hbv hbf
                    obtain ⟨k14B, k14xO, k14xL, k14xC, k14yO, k14yL, k14yC, hbu, hk14, hbg, hbv, hbf⟩ := hcut
                    obtain ⟨w16, hwE⟩ : ∃ W, W = wc := ⟨_, rfl⟩
                    subst hwE
                    have eg0 := hbg.c0
                    have eg1 := hbg.c1
                    have eg2 := hbg.c2
                    have eg3 := hbg.c3
                    have eg4 := hbg.c4
                    go_wp2_with fail
                    refine (text12_any fa qy iy _ HQy HIy (by omega)).mono ?_
                    rintro e w17 hq9
                    obtain ⟨yB, yxO, yxL, yxC, yyO, yyL, yyC, rfl, hS, hyx, hyy, hy, hb⟩ := hq9.out
                    have HyS := Lib.hid hS; clear hS
                    clear eg0 eg1 eg2 eg3 eg4
                    replace hbg := hbg.kept hb
                    replace hbu := hbu.kept hb
                    replace hbv := hbv.kept hb
                    replace hk14 := hk14.below hb
                    replace hbf := hbf.trans (hb.mono hbf.size)
                    clear hb
                    have ev0 := hbv.c0
                    have fv0 := hbv.f0
                    have ev1 := hbv.c1
                    have fv1 := hbv.f1
                    have ev2 := hbv.c2
                    have fv2 := hbv.f2
                    go_upto_region 11 with fail
                    clear ev0 fv0 ev1 fv1 ev2 fv2
                    obtain ⟨w18, hwE⟩ : ∃ W, W = ((w17.setCell ⟨pv, 0, none⟩ (Value.bool yB)).setCell ⟨pv, 1, none⟩ (Value.slice yxO yxL yxC)).setCell ⟨pv, 2, none⟩ (Value.slice yyO yyL yyC) := ⟨_, rfl⟩
                    rw [← hwE]
                    replace hk14 := hk14.set3 (u0 := (Value.bool yB)) (u1 := (Value.slice yxO yxL yxC)) (u2 := (Value.slice yyO yyL yyC)) hbv; rw [← hwE] at hk14
                    replace hyx := hyx.set3 (u0 := (Value.bool yB)) (u1 := (Value.slice yxO yxL yxC)) (u2 := (Value.slice yyO yyL yyC)) hbv; rw [← hwE] at hyx
                    replace hyy := hyy.set3 (u0 := (Value.bool yB)) (u1 := (Value.slice yxO yxL yxC)) (u2 := (Value.slice yyO yyL yyC)) hbv; rw [← hwE] at hyy
                    replace hy := hy.set3 (u0 := (Value.bool yB)) (u1 := (Value.slice yxO yxL yxC)) (u2 := (Value.slice yyO yyL yyC)) hbv; rw [← hwE] at hy
                    replace hbg := hbg.set3t (u0 := (Value.bool yB)) (u1 := (Value.slice yxO yxL yxC)) (u2 := (Value.slice yyO yyL yyC)) (show pg ≠ pv by have := HP.out; omega); rw [← hwE] at hbg
                    replace hbu := hbu.set3o (u0 := (Value.bool yB)) (u1 := (Value.slice yxO yxL yxC)) (u2 := (Value.slice yyO yyL yyC)) (show pu ≠ pv by have := HP.out; omega); rw [← hwE] at hbu
                    replace hbf := below_set3 (u0 := (Value.bool yB)) (u1 := (Value.slice yxO yxL yxC)) (u2 := (Value.slice yyO yyL yyC)) hbf (show w.heap.size ≤ pv by have := HP.out; omega); rw [← hwE] at hbf
                    replace hbv := hbv.set3 (u0 := (Value.bool yB)) (u1 := (Value.slice yxO yxL yxC)) (u2 := (Value.slice yyO yyL yyC)); rw [← hwE] at hbv; clear hwE
                    clear hyx hyy
                    obtain ⟨r3, HR3⟩ : ∃ r, Hid (r = tmul r2 fa) := ⟨_, Lib.hid rfl⟩
                    have hqr3 : QB r3 4002 := by rw [HR3.out]; exact tmul_qb hqr2 (QB.any fa)
                    go_upto_if 74 with fail
                    go_cut [] (fun wx => ∃ (sB : Bool) (xO : Option Addr) (xL xC : Nat) (yO : Option Addr) (yL yC : Nat), Box3 wx pu (.bool sB) (.slice xO xL xC) (.slice yO yL yC) ∧ RQIs wx (.agg #[.bool sB, .slice xO xL xC, .slice yO yL yC]) (r3) ∧ Box5 wx pg (Value.string ⟨mn.toArray⟩) (Value.string ⟨mx.toArray⟩) (Value.string ⟨fa.toArray⟩) (Value.string ⟨co.toArray⟩) (Value.int .i64 c) ∧ Box3 wx pv (Value.bool yB) (Value.slice yxO yxL yxC) (Value.slice yyO yyL yyC) ∧ Below w.heap.size w wx)
                    case first =>
                      cases iy
                      case false =>
                        have hr9 : r3 = r2 := by rw [HR3.out]; exact tmul_no HIy.out.symm
                        rw [← hr9] at hk14
                        go_wp2_with fail
                        go_meet
                        case rel => exact ⟨_, _, _, _, _, _, _, hbu, hk14, hbg, hbv, hbf⟩
                      case true =>
                        have hr9 : r3 = r2 * qy := by rw [HR3.out, HQy.out]; exact tmul_yes HIy.out.symm
                        have eu0 := hbu.c0
                        have eu1 := hbu.c1
                        have eu2 := hbu.c2
                        have ev0 := hbv.c0
                        have ev1 := hbv.c1
                        have ev2 := hbv.c2
                        go_wp2_with fail
                        refine (rqmul_any _ _ r2 qy 2001 2001 _ hk14 hy hqr2 hqy (by decide)).mono ?_
                        rintro e w19 hq9
                        obtain ⟨nB, nxO, nxL, nxC, nyO, nyL, nyC, rfl, hS, hnx, hny, hn, hb⟩ := hq9.out
                        have HnS := Lib.hid hS; clear hS
                        clear eu0 eu1 eu2 ev0 ev1 ev2
                        replace hbg := hbg.kept hb
                        replace hbu := hbu.kept hb
                        replace hbv := hbv.kept hb
                        replace hk14 := hk14.below hb
                        replace hy := hy.below hb
                        replace hbf := hbf.trans (hb.mono hbf.size)
                        clear hb
                        rw [← hr9] at hn
                        have eu0 := hbu.c0
                        have fu0 := hbu.f0
                        have eu1 := hbu.c1
                        have fu1 := hbu.f1
                        have eu2 := hbu.c2
                        have fu2 := hbu.f2
                        go_wp2_with fail
                        clear eu0 fu0 eu1 fu1 eu2 fu2
                        obtain ⟨w20, hwE⟩ : ∃ W, W = ((w19.setCell ⟨pu, 0, none⟩ (Value.bool nB)).setCell ⟨pu, 1, none⟩ (Value.slice nxO nxL nxC)).setCell ⟨pu, 2, none⟩ (Value.slice nyO nyL nyC) := ⟨_, rfl⟩
                        rw [← hwE]
                        replace hk14 := hk14.set3 (u0 := (Value.bool nB)) (u1 := (Value.slice nxO nxL nxC)) (u2 := (Value.slice nyO nyL nyC)) hbu; rw [← hwE] at hk14
                        replace hy := hy.set3 (u0 := (Value.bool nB)) (u1 := (Value.slice nxO nxL nxC)) (u2 := (Value.slice nyO nyL nyC)) hbu; rw [← hwE] at hy
                        replace hnx := hnx.set3 (u0 := (Value.bool nB)) (u1 := (Value.slice nxO nxL nxC)) (u2 := (Value.slice nyO nyL nyC)) hbu; rw [← hwE] at hnx
                        replace hny := hny.set3 (u0 := (Value.bool nB)) (u1 := (Value.slice nxO nxL nxC)) (u2 := (Value.slice nyO nyL nyC)) hbu; rw [← hwE] at hny
                        replace hn := hn.set3 (u0 := (Value.bool nB)) (u1 := (Value.slice nxO nxL nxC)) (u2 := (Value.slice nyO nyL nyC)) hbu; rw [← hwE] at hn
                        replace hbg := hbg.set3t (u0 := (Value.bool nB)) (u1 := (Value.slice nxO nxL nxC)) (u2 := (Value.slice nyO nyL nyC)) (show pg ≠ pu by have := HP.out; omega); rw [← hwE] at hbg
                        replace hbv := hbv.set3o (u0 := (Value.bool nB)) (u1 := (Value.slice nxO nxL nxC)) (u2 := (Value.slice nyO nyL nyC)) (show pv ≠ pu by have := HP.out; omega); rw [← hwE] at hbv
                        replace hbf := below_set3 (u0 := (Value.bool nB)) (u1 := (Value.slice nxO nxL nxC)) (u2 := (Value.slice nyO nyL nyC)) hbf (show w.heap.size ≤ pu by have := HP.out; omega); rw [← hwE] at hbf
                        replace hbu := hbu.set3 (u0 := (Value.bool nB)) (u1 := (Value.slice nxO nxL nxC)) (u2 := (Value.slice nyO nyL nyC)); rw [← hwE] at hbu; clear hwE
                        go_meet
                        case rel => exact ⟨_, _, _, _, _, _, _, hbu, hn, hbg, hbv, hbf⟩
                    case rest =>
                      clear hbu hbg hbv hbf
                      obtain ⟨k18B, k18xO, k18xL, k18xC, k18yO, k18yL, k18yC, hbu, hk18, hbg, hbv, hbf⟩ := hcut
                      obtain ⟨w20, hwE⟩ : ∃ W, W = wc := ⟨_, rfl⟩
                      subst hwE
                      have eg0 := hbg.c0
                      have eg1 := hbg.c1
                      have eg2 := hbg.c2
                      have eg3 := hbg.c3
                      have eg4 := hbg.c4
                      go_wp2_with fail
                      refine (text12_any co qz iz _ HQz HIz (by omega)).mono ?_
                      rintro e w21 hq9
                      obtain ⟨zB, zxO, zxL, zxC, zyO, zyL, zyC, rfl, hS, hzx, hzy, hz, hb⟩ := hq9.out
                      have HzS := Lib.hid hS; clear hS
                      clear eg0 eg1 eg2 eg3 eg4
                      replace hbg := hbg.kept hb
                      replace hbu := hbu.kept hb
                      replace hbv := hbv.kept hb
                      replace hk18 := hk18.below hb
                      replace hbf := hbf.trans (hb.mono hbf.size)
                      clear hb
                      have ev0 := hbv.c0
                      have fv0 := hbv.f0
                      have ev1 := hbv.c1
                      have fv1 := hbv.f1
                      have ev2 := hbv.c2
                      have fv2 := hbv.f2
                      go_upto_region 14 with fail
                      clear ev0 fv0 ev1 fv1 ev2 fv2
                      obtain ⟨w22, hwE⟩ : ∃ W, W = ((w21.setCell ⟨pv, 0, none⟩ (Value.bool zB)).setCell ⟨pv, 1, none⟩ (Value.slice zxO zxL zxC)).setCell ⟨pv, 2, none⟩ (Value.slice zyO zyL zyC) := ⟨_, rfl⟩
                      rw [← hwE]
                      replace hk18 := hk18.set3 (u0 := (Value.bool zB)) (u1 := (Value.slice zxO zxL zxC)) (u2 := (Value.slice zyO zyL zyC)) hbv; rw [← hwE] at hk18
                      replace hzx := hzx.set3 (u0 := (Value.bool zB)) (u1 := (Value.slice zxO zxL zxC)) (u2 := (Value.slice zyO zyL zyC)) hbv; rw [← hwE] at hzx
                      replace hzy := hzy.set3 (u0 := (Value.bool zB)) (u1 := (Value.slice zxO zxL zxC)) (u2 := (Value.slice zyO zyL zyC)) hbv; rw [← hwE] at hzy
                      replace hz := hz.set3 (u0 := (Value.bool zB)) (u1 := (Value.slice zxO zxL zxC)) (u2 := (Value.slice zyO zyL zyC)) hbv; rw [← hwE] at hz
                      replace hbg := hbg.set3t (u0 := (Value.bool zB)) (u1 := (Value.slice zxO zxL zxC)) (u2 := (Value.slice zyO zyL zyC)) (show pg ≠ pv by have := HP.out; omega); rw [← hwE] at hbg
                      replace hbu := hbu.set3o (u0 := (Value.bool zB)) (u1 := (Value.slice zxO zxL zxC)) (u2 := (Value.slice zyO zyL zyC)) (show pu ≠ pv by have := HP.out; omega); rw [← hwE] at hbu
                      replace hbf := below_set3 (u0 := (Value.bool zB)) (u1 := (Value.slice zxO zxL zxC)) (u2 := (Value.slice zyO zyL zyC)) hbf (show w.heap.size ≤ pv by have := HP.out; omega); rw [← hwE] at hbf
                      replace hbv := hbv.set3 (u0 := (Value.bool zB)) (u1 := (Value.slice zxO zxL zxC)) (u2 := (Value.slice zyO zyL zyC)); rw [← hwE] at hbv; clear hwE
                      clear hzx hzy
                      obtain ⟨r4, HR4⟩ : ∃ r, Hid (r = tadd r3 co) := ⟨_, Lib.hid rfl⟩
                      have hqr4 : QB r4 6004 := by rw [HR4.out]; exact tadd_qb hqr3 (QB.any co)
                      go_upto_if 84 with fail
                      go_cut [] (fun wx => ∃ (sB : Bool) (xO : Option Addr) (xL xC : Nat) (yO : Option Addr) (yL yC : Nat), Box3 wx pu (.bool sB) (.slice xO xL xC) (.slice yO yL yC) ∧ RQIs wx (.agg #[.bool sB, .slice xO xL xC, .slice yO yL yC]) (r4) ∧ Box5 wx pg (Value.string ⟨mn.toArray⟩) (Value.string ⟨mx.toArray⟩) (Value.string ⟨fa.toArray⟩) (Value.string ⟨co.toArray⟩) (Value.int .i64 c) ∧ Box3 wx pv (Value.bool zB) (Value.slice zxO zxL zxC) (Value.slice zyO zyL zyC) ∧ Below w.heap.size w wx)
                      case first =>
                        cases iz
                        case false =>
                          have hr9 : r4 = r3 := by rw [HR4.out]; exact tadd_no HIz.out.symm
                          rw [← hr9] at hk18
                          go_wp2_with fail
                          go_meet
                          case rel => exact ⟨_, _, _, _, _, _, _, hbu, hk18, hbg, hbv, hbf⟩
                        case true =>
                          have hr9 : r4 = r3 + qz := by rw [HR4.out, HQz.out]; exact tadd_yes HIz.out.symm
                          have eu0 := hbu.c0
                          have eu1 := hbu.c1
                          have eu2 := hbu.c2
                          have ev0 := hbv.c0
                          have ev1 := hbv.c1
                          have ev2 := hbv.c2
                          go_wp2_with fail
                          refine (rqadd_any _ _ r3 qz 4002 2001 _ hk18 hz hqr3 hqz (by decide)).mono ?_
                          rintro e w23 hq9
                          obtain ⟨nB, nxO, nxL, nxC, nyO, nyL, nyC, rfl, hS, hnx, hny, hn, hb⟩ := hq9.out
                          have HnS := Lib.hid hS; clear hS
                          clear eu0 eu1 eu2 ev0 ev1 ev2
                          replace hbg := hbg.kept hb
                          replace hbu := hbu.kept hb
                          replace hbv := hbv.kept hb
                          replace hk18 := hk18.below hb
                          replace hz := hz.below hb
                          replace hbf := hbf.trans (hb.mono hbf.size)
                          clear hb
                          rw [← hr9] at hn
                          have eu0 := hbu.c0
                          have fu0 := hbu.f0
                          have eu1 := hbu.c1
                          have fu1 := hbu.f1
                          have eu2 := hbu.c2
                          have fu2 := hbu.f2
                          go_wp2_with fail
                          clear eu0 fu0 eu1 fu1 eu2 fu2
                          obtain ⟨w24, hwE⟩ : ∃ W, W = ((w23.setCell ⟨pu, 0, none⟩ (Value.bool nB)).setCell ⟨pu, 1, none⟩ (Value.slice nxO nxL nxC)).setCell ⟨pu, 2, none⟩ (Value.slice nyO nyL nyC) := ⟨_, rfl⟩
                          rw [← hwE]
                          replace hk18 := hk18.set3 (u0 := (Value.bool nB)) (u1 := (Value.slice nxO nxL nxC)) (u2 := (Value.slice nyO nyL nyC)) hbu; rw [← hwE] at hk18
                          replace hz := hz.set3 (u0 := (Value.bool nB)) (u1 := (Value.slice nxO nxL nxC)) (u2 := (Value.slice nyO nyL nyC)) hbu; rw [← hwE] at hz
                          replace hnx := hnx.set3 (u0 := (Value.bool nB)) (u1 := (Value.slice nxO nxL nxC)) (u2 := (Value.slice nyO nyL nyC)) hbu; rw [← hwE] at hnx
                          replace hny := hny.set3 (u0 := (Value.bool nB)) (u1 := (Value.slice nxO nxL nxC)) (u2 := (Value.slice nyO nyL nyC)) hbu; rw [← hwE] at hny
                          replace hn := hn.set3 (u0 := (Value.bool nB)) (u1 := (Value.slice nxO nxL nxC)) (u2 := (Value.slice nyO nyL nyC)) hbu; rw [← hwE] at hn
                          replace hbg := hbg.set3t (u0 := (Value.bool nB)) (u1 := (Value.slice nxO nxL nxC)) (u2 := (Value.slice nyO nyL nyC)) (show pg ≠ pu by have := HP.out; omega); rw [← hwE] at hbg
                          replace hbv := hbv.set3o (u0 := (Value.bool nB)) (u1 := (Value.slice nxO nxL nxC)) (u2 := (Value.slice nyO nyL nyC)) (show pv ≠ pu by have := HP.out; omega); rw [← hwE] at hbv
                          replace hbf := below_set3 (u0 := (Value.bool nB)) (u1 := (Value.slice nxO nxL nxC)) (u2 := (Value.slice nyO nyL nyC)) hbf (show w.heap.size ≤ pu by have := HP.out; omega); rw [← hwE] at hbf
                          replace hbu := hbu.set3 (u0 := (Value.bool nB)) (u1 := (Value.slice nxO nxL nxC)) (u2 := (Value.slice nyO nyL nyC)); rw [← hwE] at hbu; clear hwE
                          go_meet
                          case rel => exact ⟨_, _, _, _, _, _, _, hbu, hn, hbg, hbv, hbf⟩
                      case rest =>
                        clear hbu hbg hbv hbf
                        obtain ⟨k22B, k22xO, k22xL, k22xC, k22yO, k22yL, k22yC, hbu, hk22, hbg, hbv, hbf⟩ := hcut
                        obtain ⟨w24, hwE⟩ : ∃ W, W = wc := ⟨_, rfl⟩
                        subst hwE
                        have HFI : Hid (tapply mn mx fa co c num = qtext (tcast c r4)) := Lib.hid (by rw [HTA.out, HR4.out, HR3.out, HR2.out, HR1.out]; rfl)
                        have hcq0 : QB (tcast c r4) 30000 := tcast_qb3 c hqr4
                        by_cases h10 : c = 1
                        case pos =>
                          subst h10
                          have hcq := hcq0
                          have eu0 := hbu.c0
                          have eu1 := hbu.c1
                          have eu2 := hbu.c2
                          have eg0 := hbg.c0
                          have eg1 := hbg.c1
                          have eg2 := hbg.c2
                          have eg3 := hbg.c3
                          have eg4 := hbg.c4
                          go_wp2_with fail
                          refine (rqround_any _ r4 6004 _ hk22 hqr4 (by decide)).mono ?_
                          rintro e w25 hq9
                          obtain ⟨oB, oxO, oxL, oxC, oyO, oyL, oyC, rfl, hS, hox, hoy, ho, hb⟩ := hq9.out
                          have HoS := Lib.hid hS; clear hS
                          clear eu0 eu1 eu2 eg0 eg1 eg2 eg3 eg4
                          replace hbg := hbg.kept hb
                          replace hbu := hbu.kept hb
                          replace hbv := hbv.kept hb
                          replace hk22 := hk22.below hb
                          replace hbf := hbf.trans (hb.mono hbf.size)
                          clear hb
                          have eu0 := hbu.c0
                          have fu0 := hbu.f0
                          have eu1 := hbu.c1
                          have fu1 := hbu.f1
                          have eu2 := hbu.c2
                          have fu2 := hbu.f2
                          go_upto_region 23 with fail
                          clear eu0 fu0 eu1 fu1 eu2 fu2
                          obtain ⟨w26, hwE⟩ : ∃ W, W = ((w25.setCell ⟨pu, 0, none⟩ (Value.bool oB)).setCell ⟨pu, 1, none⟩ (Value.slice oxO oxL oxC)).setCell ⟨pu, 2, none⟩ (Value.slice oyO oyL oyC) := ⟨_, rfl⟩
                          rw [← hwE]
                          replace hk22 := hk22.set3 (u0 := (Value.bool oB)) (u1 := (Value.slice oxO oxL oxC)) (u2 := (Value.slice oyO oyL oyC)) hbu; rw [← hwE] at hk22
                          replace hox := hox.set3 (u0 := (Value.bool oB)) (u1 := (Value.slice oxO oxL oxC)) (u2 := (Value.slice oyO oyL oyC)) hbu; rw [← hwE] at hox
                          replace hoy := hoy.set3 (u0 := (Value.bool oB)) (u1 := (Value.slice oxO oxL oxC)) (u2 := (Value.slice oyO oyL oyC)) hbu; rw [← hwE] at hoy
                          replace ho := ho.set3 (u0 := (Value.bool oB)) (u1 := (Value.slice oxO oxL oxC)) (u2 := (Value.slice oyO oyL oyC)) hbu; rw [← hwE] at ho
                          replace hbg := hbg.set3t (u0 := (Value.bool oB)) (u1 := (Value.slice oxO oxL oxC)) (u2 := (Value.slice oyO oyL oyC)) (show pg ≠ pu by have := HP.out; omega); rw [← hwE] at hbg
                          replace hbv := hbv.set3o (u0 := (Value.bool oB)) (u1 := (Value.slice oxO oxL oxC)) (u2 := (Value.slice oyO oyL oyC)) (show pv ≠ pu by have := HP.out; omega); rw [← hwE] at hbv
                          replace hbf := below_set3 (u0 := (Value.bool oB)) (u1 := (Value.slice oxO oxL oxC)) (u2 := (Value.slice oyO oyL oyC)) hbf (show w.heap.size ≤ pu by have := HP.out; omega); rw [← hwE] at hbf
                          replace hbu := hbu.set3 (u0 := (Value.bool oB)) (u1 := (Value.slice oxO oxL oxC)) (u2 := (Value.slice oyO oyL oyC)); rw [← hwE] at hbu; clear hwE
                          have eu0 := hbu.c0
                          have eu1 := hbu.c1
                          have eu2 := hbu.c2
                          go_wp2_with fail
                          refine (rqtext_any _ _ _ ho hcq).mono ?_
                          rintro e w27 ⟨rfl, hb⟩
                          clear eu0 eu1 eu2
                          replace hbg := hbg.kept hb
                          replace hbu := hbu.kept hb
                          replace hbv := hbv.kept hb
                          replace hk22 := hk22.below hb
                          replace hox := hox.below hb
                          replace hoy := hoy.below hb
                          replace ho := ho.below hb
                          replace hbf := hbf.trans (hb.mono hbf.size)
                          clear hb
                          go_wp2_with fail
                          go_ret
                          exact ⟨ret_one (by rw [HFI.out]; rfl), hbf⟩
                        case neg =>
                          have hc1 : (c == 1) = false := by rw [beq_eq_false_iff_ne]; exact h10
                          by_cases h11 : c = 2
                          case pos =>
                            subst h11
                            have hcq := hcq0
                            have eu0 := hbu.c0
                            have eu1 := hbu.c1
                            have eu2 := hbu.c2
                            have eg0 := hbg.c0
                            have eg1 := hbg.c1
                            have eg2 := hbg.c2
                            have eg3 := hbg.c3
                            have eg4 := hbg.c4
                            go_wp2_with fail
                            refine (rqceil_any _ r4 6004 _ hk22 hqr4 (by decide) (by decide)).mono ?_
                            rintro e w25 hq9
                            obtain ⟨oB, oxO, oxL, oxC, oyO, oyL, oyC, rfl, hS, hox, hoy, ho, hb⟩ := hq9.out
                            have HoS := Lib.hid hS; clear hS
                            clear eu0 eu1 eu2 eg0 eg1 eg2 eg3 eg4
                            replace hbg := hbg.kept hb
                            replace hbu := hbu.kept hb
                            replace hbv := hbv.kept hb
                            replace hk22 := hk22.below hb
                            replace hbf := hbf.trans (hb.mono hbf.size)
                            clear hb
                            have eu0 := hbu.c0
                            have fu0 := hbu.f0
                            have eu1 := hbu.c1
                            have fu1 := hbu.f1
                            have eu2 := hbu.c2
                            have fu2 := hbu.f2
                            go_upto_region 23 with fail
                            clear eu0 fu0 eu1 fu1 eu2 fu2
                            obtain ⟨w26, hwE⟩ : ∃ W, W = ((w25.setCell ⟨pu, 0, none⟩ (Value.bool oB)).setCell ⟨pu, 1, none⟩ (Value.slice oxO oxL oxC)).setCell ⟨pu, 2, none⟩ (Value.slice oyO oyL oyC) := ⟨_, rfl⟩
                            rw [← hwE]
                            replace hk22 := hk22.set3 (u0 := (Value.bool oB)) (u1 := (Value.slice oxO oxL oxC)) (u2 := (Value.slice oyO oyL oyC)) hbu; rw [← hwE] at hk22
                            replace hox := hox.set3 (u0 := (Value.bool oB)) (u1 := (Value.slice oxO oxL oxC)) (u2 := (Value.slice oyO oyL oyC)) hbu; rw [← hwE] at hox
                            replace hoy := hoy.set3 (u0 := (Value.bool oB)) (u1 := (Value.slice oxO oxL oxC)) (u2 := (Value.slice oyO oyL oyC)) hbu; rw [← hwE] at hoy
                            replace ho := ho.set3 (u0 := (Value.bool oB)) (u1 := (Value.slice oxO oxL oxC)) (u2 := (Value.slice oyO oyL oyC)) hbu; rw [← hwE] at ho
                            replace hbg := hbg.set3t (u0 := (Value.bool oB)) (u1 := (Value.slice oxO oxL oxC)) (u2 := (Value.slice oyO oyL oyC)) (show pg ≠ pu by have := HP.out; omega); rw [← hwE] at hbg
                            replace hbv := hbv.set3o (u0 := (Value.bool oB)) (u1 := (Value.slice oxO oxL oxC)) (u2 := (Value.slice oyO oyL oyC)) (show pv ≠ pu by have := HP.out; omega); rw [← hwE] at hbv
                            replace hbf := below_set3 (u0 := (Value.bool oB)) (u1 := (Value.slice oxO oxL oxC)) (u2 := (Value.slice oyO oyL oyC)) hbf (show w.heap.size ≤ pu by have := HP.out; omega); rw [← hwE] at hbf
                            replace hbu := hbu.set3 (u0 := (Value.bool oB)) (u1 := (Value.slice oxO oxL oxC)) (u2 := (Value.slice oyO oyL oyC)); rw [← hwE] at hbu; clear hwE
                            have eu0 := hbu.c0
                            have eu1 := hbu.c1
                            have eu2 := hbu.c2
                            go_wp2_with fail
                            refine (rqtext_any _ _ _ ho hcq).mono ?_
                            rintro e w27 ⟨rfl, hb⟩
                            clear eu0 eu1 eu2
                            replace hbg := hbg.kept hb
                            replace hbu := hbu.kept hb
                            replace hbv := hbv.kept hb
                            replace hk22 := hk22.below hb
                            replace hox := hox.below hb
                            replace hoy := hoy.below hb
                            replace ho := ho.below hb
                            replace hbf := hbf.trans (hb.mono hbf.size)
                            clear hb
                            go_wp2_with fail
                            go_ret
                            exact ⟨ret_one (by rw [HFI.out]; rfl), hbf⟩
                          case neg =>
                            have hc2 : (c == 2) = false := by rw [beq_eq_false_iff_ne]; exact h11
                            by_cases h12 : c = 3
                            case pos =>
                              subst h12
                              have hcq := hcq0
                              have eu0 := hbu.c0
                              have eu1 := hbu.c1
                              have eu2 := hbu.c2
                              have eg0 := hbg.c0
                              have eg1 := hbg.c1
                              have eg2 := hbg.c2
                              have eg3 := hbg.c3
                              have eg4 := hbg.c4
                              go_wp2_with fail
                              refine (rqfloor_any _ r4 6004 _ hk22 hqr4 (by decide) (by decide)).mono ?_
                              rintro e w25 hq9
                              obtain ⟨oB, oxO, oxL, oxC, oyO, oyL, oyC, rfl, hS, hox, hoy, ho, hb⟩ := hq9.out
                              have HoS := Lib.hid hS; clear hS
                              clear eu0 eu1 eu2 eg0 eg1 eg2 eg3 eg4
                              replace hbg := hbg.kept hb
                              replace hbu := hbu.kept hb
                              replace hbv := hbv.kept hb
                              replace hk22 := hk22.below hb
                              replace hbf := hbf.trans (hb.mono hbf.size)
                              clear hb
                              have eu0 := hbu.c0
                              have fu0 := hbu.f0
                              have eu1 := hbu.c1
                              have fu1 := hbu.f1
                              have eu2 := hbu.c2
                              have fu2 := hbu.f2
                              go_upto_region 23 with fail
                              clear eu0 fu0 eu1 fu1 eu2 fu2
                              obtain ⟨w26, hwE⟩ : ∃ W, W = ((w25.setCell ⟨pu, 0, none⟩ (Value.bool oB)).setCell ⟨pu, 1, none⟩ (Value.slice oxO oxL oxC)).setCell ⟨pu, 2, none⟩ (Value.slice oyO oyL oyC) := ⟨_, rfl⟩
                              rw [← hwE]
                              replace hk22 := hk22.set3 (u0 := (Value.bool oB)) (u1 := (Value.slice oxO oxL oxC)) (u2 := (Value.slice oyO oyL oyC)) hbu; rw [← hwE] at hk22
                              replace hox := hox.set3 (u0 := (Value.bool oB)) (u1 := (Value.slice oxO oxL oxC)) (u2 := (Value.slice oyO oyL oyC)) hbu; rw [← hwE] at hox
                              replace hoy := hoy.set3 (u0 := (Value.bool oB)) (u1 := (Value.slice oxO oxL oxC)) (u2 := (Value.slice oyO oyL oyC)) hbu; rw [← hwE] at hoy
                              replace ho := ho.set3 (u0 := (Value.bool oB)) (u1 := (Value.slice oxO oxL oxC)) (u2 := (Value.slice oyO oyL oyC)) hbu; rw [← hwE] at ho
                              replace hbg := hbg.set3t (u0 := (Value.bool oB)) (u1 := (Value.slice oxO oxL oxC)) (u2 := (Value.slice oyO oyL oyC)) (show pg ≠ pu by have := HP.out; omega); rw [← hwE] at hbg
                              replace hbv := hbv.set3o (u0 := (Value.bool oB)) (u1 := (Value.slice oxO oxL oxC)) (u2 := (Value.slice oyO oyL oyC)) (show pv ≠ pu by have := HP.out; omega); rw [← hwE] at hbv
                              replace hbf := below_set3 (u0 := (Value.bool oB)) (u1 := (Value.slice oxO oxL oxC)) (u2 := (Value.slice oyO oyL oyC)) hbf (show w.heap.size ≤ pu by have := HP.out; omega); rw [← hwE] at hbf
                              replace hbu := hbu.set3 (u0 := (Value.bool oB)) (u1 := (Value.slice oxO oxL oxC)) (u2 := (Value.slice oyO oyL oyC)); rw [← hwE] at hbu; clear hwE
                              have eu0 := hbu.c0
                              have eu1 := hbu.c1
                              have eu2 := hbu.c2
                              go_wp2_with fail
                              refine (rqtext_any _ _ _ ho hcq).mono ?_
                              rintro e w27 ⟨rfl, hb⟩
                              clear eu0 eu1 eu2
                              replace hbg := hbg.kept hb
                              replace hbu := hbu.kept hb
                              replace hbv := hbv.kept hb
                              replace hk22 := hk22.below hb
                              replace hox := hox.below hb
                              replace hoy := hoy.below hb
                              replace ho := ho.below hb
                              replace hbf := hbf.trans (hb.mono hbf.size)
                              clear hb
                              go_wp2_with fail
                              go_ret
                              exact ⟨ret_one (by rw [HFI.out]; rfl), hbf⟩
                            case neg =>
                              have hc3 : (c == 3) = false := by rw [beq_eq_false_iff_ne]; exact h12
                              have hcq : QB r4 30000 := hqr4.mono (by decide)
                              have HFJ : Hid (tapply mn mx fa co c num = qtext r4) := Lib.hid (by rw [HFI.out]; unfold tcast; rw [if_neg h10, if_neg h11, if_neg h12])
                              have eu0 := hbu.c0
                              have eu1 := hbu.c1
                              have eu2 := hbu.c2
                              have eg0 := hbg.c0
                              have eg1 := hbg.c1
                              have eg2 := hbg.c2
                              have eg3 := hbg.c3
                              have eg4 := hbg.c4
                              go_wp2_with fail
                              refine (rqtext_any _ _ _ hk22 hcq).mono ?_
                              rintro e w25 ⟨rfl, hb⟩
                              clear eu0 eu1 eu2 eg0 eg1 eg2 eg3 eg4
                              replace hbg := hbg.kept hb
                              replace hbu := hbu.kept hb
                              replace hbv := hbv.kept hb
                              replace hk22 := hk22.below hb
                              replace hbf := hbf.trans (hb.mono hbf.size)
                              clear hb
                              go_wp2_with fail
                              go_ret
                              exact ⟨ret_one (by rw [HFJ.out]; rfl), hbf⟩

set_option maxRecDepth 100000 in
set_option maxHeartbeats 1000000 in
/-- ValidTarget. -/
theorem rvalid17_any (mn mx fa co : List UInt8) (c : Int) (w : World) (h1 : mn.length ≤ 100000) (h2 : mx.length ≤ 100000) (h3 : fa.length ≤ 100000) (h4 : co.length ≤ 100000) : Calls Tryz.prog 13 #[tgtV mn mx fa co c] w fun e w' => e = .returned (.bool (tvalid mn mx fa co c)) ∧ Below w.heap.size w w' := by
  obtain ⟨w0, hw0⟩ : ∃ w0, w0 = (w.alloc (.cells #[.string ⟨mn.toArray⟩, .string ⟨mx.toArray⟩, .string ⟨fa.toArray⟩, .string ⟨co.toArray⟩, .int .i64 c] 23)) := ⟨_, rfl⟩
  have hbf : Below w.heap.size w w0 := by rw [hw0]; exact ((Below.refl _ w).alloc (Nat.le_refl _) _)
  obtain ⟨pg, hpg⟩ : ∃ p, p = w.heap.size := ⟨_, rfl⟩
  have hbg : Box5 w0 pg (Value.string ⟨mn.toArray⟩) (Value.string ⟨mx.toArray⟩) (Value.string ⟨fa.toArray⟩) (Value.string ⟨co.toArray⟩) (Value.int .i64 c) := by rw [hw0, hpg]; exact ⟨by go_simp, by go_simp, by go_simp, by go_simp, by go_simp, by go_simp, by go_simp, by go_simp, by go_simp, by go_simp⟩
  have HP : Hid (w.heap.size ≤ pg) := Lib.hid (by omega)
  have HW := Lib.hid hw0; clear hw0
  go_enter Tryz.func13, Tryz.ntmps13
  go_upto_region 1 with fail
  rw [← HW.out, ← hpg]
  clear hpg HW
  obtain ⟨qv, iv, ov, HQv, HIv, HOv⟩ : ∃ (q : Rat) (i o : Bool), Hid (q = qval mn) ∧ Hid (i = tis mn) ∧ Hid (o = tok mn) := ⟨_, _, _, Lib.hid rfl, Lib.hid rfl, Lib.hid rfl⟩
  have hqv : QB qv 2001 := by rw [HQv.out]; exact QB.any _
  obtain ⟨qx, ix, ox, HQx, HIx, HOx⟩ : ∃ (q : Rat) (i o : Bool), Hid (q = qval mx) ∧ Hid (i = tis mx) ∧ Hid (o = tok mx) := ⟨_, _, _, Lib.hid rfl, Lib.hid rfl, Lib.hid rfl⟩
  have hqx : QB qx 2001 := by rw [HQx.out]; exact QB.any _
  obtain ⟨qy, iy, oy, HQy, HIy, HOy⟩ : ∃ (q : Rat) (i o : Bool), Hid (q = qval fa) ∧ Hid (i = tis fa) ∧ Hid (o = tok fa) := ⟨_, _, _, Lib.hid rfl, Lib.hid rfl, Lib.hid rfl⟩
  have hqy : QB qy 2001 := by rw [HQy.out]; exact QB.any _
  obtain ⟨qz, iz, oz, HQz, HIz, HOz⟩ : ∃ (q : Rat) (i o : Bool), Hid (q = qval co) ∧ Hid (i = tis co) ∧ Hid (o = tok co) := ⟨_, _, _, Lib.hid rfl, Lib.hid rfl, Lib.hid rfl⟩
  have hqz : QB qz 2001 := by rw [HQz.out]; exact QB.any _
  obtain ⟨z9, hz9⟩ : ∃ z, qcmp qv qx = z := ⟨_, rfl⟩
  have HZ := Lib.hid hz9
  have HT : Hid (tvalid mn mx fa co c = (oy && oz && ov && ox && (!iv || !ix || decide (z9 ≤ 0)) && decide (0 ≤ c) && decide (c ≤ 3))) := Lib.hid (by rw [HOy.out, HOz.out, HOv.out, HOx.out, HIv.out, HIx.out, ← hz9, HQv.out, HQx.out]; rfl)
  clear hz9
  have eg0 := hbg.c0
  have eg1 := hbg.c1
  have eg2 := hbg.c2
  have eg3 := hbg.c3
  have eg4 := hbg.c4
  go_wp2_with fail
  refine (ratio_any mn ov _ HOv (by omega)).mono ?_
  rintro e w1 ⟨rfl, hb⟩
  clear eg0 eg1 eg2 eg3 eg4
  replace hbg := hbg.kept hb
  replace hbf := hbf.trans (hb.mono hbf.size)
  clear hb
  cases ov
  case false =>
    go_wp2_with fail
    go_ret
    exact ⟨ret_one (by rw [HT.out]; simp), hbf⟩
  case true =>
    have eg0 := hbg.c0
    have eg1 := hbg.c1
    have eg2 := hbg.c2
    have eg3 := hbg.c3
    have eg4 := hbg.c4
    go_wp2_with fail
    refine (ratio_any mx ox _ HOx (by omega)).mono ?_
    rintro e w2 ⟨rfl, hb⟩
    clear eg0 eg1 eg2 eg3 eg4
    replace hbg := hbg.kept hb
    replace hbf := hbf.trans (hb.mono hbf.size)
    clear hb
    cases ox
    case false =>
      go_wp2_with fail
      go_ret
      exact ⟨ret_one (by rw [HT.out]; simp), hbf⟩
    case true =>
      have eg0 := hbg.c0
      have eg1 := hbg.c1
      have eg2 := hbg.c2
      have eg3 := hbg.c3
      have eg4 := hbg.c4
      go_wp2_with fail
      refine (ratio_any fa oy _ HOy (by omega)).mono ?_
      rintro e w3 ⟨rfl, hb⟩
      clear eg0 eg1 eg2 eg3 eg4
      replace hbg := hbg.kept hb
      replace hbf := hbf.trans (hb.mono hbf.size)
      clear hb
      cases oy
      case false =>
        go_wp2_with fail
        go_ret
        exact ⟨ret_one (by rw [HT.out]; simp), hbf⟩
      case true =>
        have eg0 := hbg.c0
        have eg1 := hbg.c1
        have eg2 := hbg.c2
        have eg3 := hbg.c3
        have eg4 := hbg.c4
        go_wp2_with fail
        refine (ratio_any co oz _ HOz (by omega)).mono ?_
        rintro e w4 ⟨rfl, hb⟩
        clear eg0 eg1 eg2 eg3 eg4
        replace hbg := hbg.kept hb
        replace hbf := hbf.trans (hb.mono hbf.size)
        clear hb
        cases oz
        case false =>
          go_wp2_with fail
          go_ret
          exact ⟨ret_one (by rw [HT.out]; simp), hbf⟩
        case true =>
          by_cases h0 : c < 0
          case pos =>
            have hc0 : decide (c < 0) = true := decide_eq_true h0
            have hc1 : decide (0 ≤ c) = false := decide_eq_false (by omega)
            have eg0 := hbg.c0
            have eg1 := hbg.c1
            have eg2 := hbg.c2
            have eg3 := hbg.c3
            have eg4 := hbg.c4
            go_wp2_with fail
            go_ret
            exact ⟨ret_one (by rw [HT.out, hc1]; simp), hbf⟩
          have hc0 : decide (c < 0) = false := decide_eq_false h0
          have HC1 : Hid (decide (0 ≤ c) = true) := Lib.hid (decide_eq_true (by omega))
          by_cases h9 : 3 < c
          case pos =>
            have hc9 : decide (3 < c) = true := decide_eq_true h9
            have hc1 : decide (c ≤ 3) = false := decide_eq_false (by omega)
            have eg0 := hbg.c0
            have eg1 := hbg.c1
            have eg2 := hbg.c2
            have eg3 := hbg.c3
            have eg4 := hbg.c4
            go_wp2_with fail
            go_ret
            exact ⟨ret_one (by rw [HT.out, hc1]; simp), hbf⟩
          have hc9 : decide (3 < c) = false := decide_eq_false h9
          have HC3 : Hid (decide (c ≤ 3) = true) := Lib.hid (decide_eq_true (by omega))
          have eg0 := hbg.c0
          have eg1 := hbg.c1
          have eg2 := hbg.c2
          have eg3 := hbg.c3
          have eg4 := hbg.c4
          go_upto_region 3 with fail
          clear eg0 eg1 eg2 eg3 eg4
          have eg0 := hbg.c0
          have eg1 := hbg.c1
          have eg2 := hbg.c2
          have eg3 := hbg.c3
          have eg4 := hbg.c4
          go_wp2_with fail
          refine (text12_any mn qv iv _ HQv HIv (by omega)).mono ?_
          rintro e w5 hq9
          obtain ⟨vB, vxO, vxL, vxC, vyO, vyL, vyC, rfl, hS, hvx, hvy, hv, hb⟩ := hq9.out
          have HvS := Lib.hid hS; clear hS
          clear eg0 eg1 eg2 eg3 eg4
          replace hbg := hbg.kept hb
          replace hbf := hbf.trans (hb.mono hbf.size)
          clear hb
          obtain ⟨w6, hwE⟩ : ∃ W, W = (w5.alloc (.cells #[.bool vB, .slice vxO vxL vxC, .slice vyO vyL vyC] 39)) := ⟨_, rfl⟩
          have hb : Below w5.heap.size w5 w6 := by rw [hwE]; exact ((Below.refl _ w5).alloc (Nat.le_refl _) _)
          obtain ⟨pv, hpv⟩ : ∃ p, p = w5.heap.size := ⟨_, rfl⟩
          have hbv : Box3 w6 pv (Value.bool vB) (Value.slice vxO vxL vxC) (Value.slice vyO vyL vyC) := by rw [hwE, hpv]; exact ⟨by go_simp, by go_simp, by go_simp, by go_simp, by go_simp, by go_simp⟩
          replace HP : Hid (w.heap.size ≤ pg ∧ pg < pv) := Lib.hid (by have h1 := HP.out; have h9 := hbf.size; have h2g := hbg.lt; omega)
          have HW := Lib.hid hwE; clear hwE
          go_upto_region 4 with fail
          rw [← HW.out, ← hpv]
          clear hpv HW
          replace hbg := hbg.kept hb
          replace hvx := hvx.below hb
          replace hvy := hvy.below hb
          replace hv := hv.below hb
          replace hbf := hbf.trans (hb.mono hbf.size)
          clear hb
          have eg0 := hbg.c0
          have eg1 := hbg.c1
          have eg2 := hbg.c2
          have eg3 := hbg.c3
          have eg4 := hbg.c4
          go_wp2_with fail
          refine (text12_any mx qx ix _ HQx HIx (by omega)).mono ?_
          rintro e w7 hq9
          obtain ⟨xB, xxO, xxL, xxC, xyO, xyL, xyC, rfl, hS, hxx, hxy, hx, hb⟩ := hq9.out
          have HxS := Lib.hid hS; clear hS
          clear eg0 eg1 eg2 eg3 eg4
          replace hbg := hbg.kept hb
          replace hbv := hbv.kept hb
          replace hvx := hvx.below hb
          replace hvy := hvy.below hb
          replace hv := hv.below hb
          replace hbf := hbf.trans (hb.mono hbf.size)
          clear hb
          obtain ⟨w8, hwE⟩ : ∃ W, W = (w7.alloc (.cells #[.bool xB, .slice xxO xxL xxC, .slice xyO xyL xyC] 39)) := ⟨_, rfl⟩
          have hb : Below w7.heap.size w7 w8 := by rw [hwE]; exact ((Below.refl _ w7).alloc (Nat.le_refl _) _)
          obtain ⟨px, hpx⟩ : ∃ p, p = w7.heap.size := ⟨_, rfl⟩
          have hbx : Box3 w8 px (Value.bool xB) (Value.slice xxO xxL xxC) (Value.slice xyO xyL xyC) := by rw [hwE, hpx]; exact ⟨by go_simp, by go_simp, by go_simp, by go_simp, by go_simp, by go_simp⟩
          replace HP : Hid (w.heap.size ≤ pg ∧ pg < pv ∧ pv < px) := Lib.hid (by have h1 := HP.out; have h9 := hbf.size; have h2v := hbv.lt; omega)
          have HW := Lib.hid hwE; clear hwE
          go_upto_region 5 with fail
          rw [← HW.out, ← hpx]
          clear hpx HW
          replace hbg := hbg.kept hb
          replace hbv := hbv.kept hb
          replace hvx := hvx.below hb
          replace hvy := hvy.below hb
          replace hv := hv.below hb
          replace hxx := hxx.below hb
          replace hxy := hxy.below hb
          replace hx := hx.below hb
          replace hbf := hbf.trans (hb.mono hbf.size)
          clear hb
          cases iv
          case false =>
            go_wp2_with fail
            go_ret
            exact ⟨ret_one (by rw [HT.out, HC1.out, HC3.out]; simp), hbf⟩
          case true =>
            cases ix
            case false =>
              go_wp2_with fail
              go_ret
              exact ⟨ret_one (by rw [HT.out, HC1.out, HC3.out]; simp), hbf⟩
            case true =>
              have ev0 := hbv.c0
              have ev1 := hbv.c1
              have ev2 := hbv.c2
              have ex0 := hbx.c0
              have ex1 := hbx.c1
              have ex2 := hbx.c2
              go_wp2_with fail
              refine (rcmp_z _ _ qv qx z9 2001 2001 _ hv hx hqv hqx (by decide) HZ).mono ?_
              rintro e w9 ⟨rfl, hb⟩
              clear ev0 ev1 ev2 ex0 ex1 ex2
              replace hbg := hbg.kept hb
              replace hbv := hbv.kept hb
              replace hbx := hbx.kept hb
              replace hvx := hvx.below hb
              replace hvy := hvy.below hb
              replace hv := hv.below hb
              replace hxx := hxx.below hb
              replace hxy := hxy.below hb
              replace hx := hx.below hb
              replace hbf := hbf.trans (hb.mono hbf.size)
              clear hb
              go_wp2_with fail
              go_ret
              exact ⟨ret_one (by rw [HT.out, HC1.out, HC3.out]; simp), hbf⟩

end Go.Proofs.YtnajnbgjmgkcoaaGreatDoor
