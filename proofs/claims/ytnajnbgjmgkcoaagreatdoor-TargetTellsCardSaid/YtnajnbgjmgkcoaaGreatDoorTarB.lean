/-
  Targets: Plain, Valid; the laws' first call.
-/
import Derived.Test.YtnajnbgjmgkcoaaGreatDoorTarA
namespace Go.Proofs.YtnajnbgjmgkcoaaGreatDoor
open Go.RowKit
set_option linter.unusedVariables false
set_option linter.unusedSimpArgs false
attribute [local go_sem] field_nat

set_option maxRecDepth 100000 in
set_option maxHeartbeats 1000000 in
/-- Plain, of no target. -/
theorem plain_zero (w : World) : Calls Tryz.prog 14 #[tgtV [] [] [] [] 0] w fun e w' => e = .returned (.bool true) ∧ Below w.heap.size w w' := by
  obtain ⟨w0, hw0⟩ : ∃ w0, w0 = (w.alloc (.cells #[.string ⟨#[]⟩, .string ⟨#[]⟩, .string ⟨#[]⟩, .string ⟨#[]⟩, .int .i64 0] 23)) := ⟨_, rfl⟩
  have hbf : Below w.heap.size w w0 := by rw [hw0]; exact ((Below.refl _ w).alloc (Nat.le_refl _) _)
  obtain ⟨pg, hpg⟩ : ∃ p, p = w.heap.size := ⟨_, rfl⟩
  have hbg : Box5 w0 pg (Value.string ⟨#[]⟩) (Value.string ⟨#[]⟩) (Value.string ⟨#[]⟩) (Value.string ⟨#[]⟩) (Value.int .i64 0) := by rw [hw0, hpg]; exact ⟨by go_simp, by go_simp, by go_simp, by go_simp, by go_simp, by go_simp, by go_simp, by go_simp, by go_simp, by go_simp⟩
  have HP : Hid (w.heap.size ≤ pg) := Lib.hid (by omega)
  have HW := Lib.hid hw0; clear hw0
  go_enter Tryz.func14, Tryz.ntmps14
  go_upto_region 1 with fail
  rw [← HW.out, ← hpg]
  clear hpg HW
  have eg0 := hbg.c0
  have eg1 := hbg.c1
  have eg2 := hbg.c2
  have eg3 := hbg.c3
  have eg4 := hbg.c4
  go_wp2_with fail
  go_ret
  exact ⟨rfl, hbf⟩

set_option maxRecDepth 100000 in
set_option maxHeartbeats 1000000 in
/-- Valid. -/
theorem valid17_any (mn mx fa co : List UInt8) (c : Int) (w : World) (h1 : mn.length ≤ maxL) (h2 : mx.length ≤ maxL) (h3 : fa.length ≤ maxL) (h4 : co.length ≤ maxL) : Calls Tryz.prog 12 #[tgtV mn mx fa co c] w fun e w' => e = .returned (.bool (tvalid mn mx fa co c)) ∧ Below w.heap.size w w' := by
  obtain ⟨w0, hw0⟩ : ∃ w0, w0 = (w.alloc (.cells #[.string ⟨mn.toArray⟩, .string ⟨mx.toArray⟩, .string ⟨fa.toArray⟩, .string ⟨co.toArray⟩, .int .i64 c] 23)) := ⟨_, rfl⟩
  have hbf : Below w.heap.size w w0 := by rw [hw0]; exact ((Below.refl _ w).alloc (Nat.le_refl _) _)
  obtain ⟨pg, hpg⟩ : ∃ p, p = w.heap.size := ⟨_, rfl⟩
  have hbg : Box5 w0 pg (Value.string ⟨mn.toArray⟩) (Value.string ⟨mx.toArray⟩) (Value.string ⟨fa.toArray⟩) (Value.string ⟨co.toArray⟩) (Value.int .i64 c) := by rw [hw0, hpg]; exact ⟨by go_simp, by go_simp, by go_simp, by go_simp, by go_simp, by go_simp, by go_simp, by go_simp, by go_simp, by go_simp⟩
  have HP : Hid (w.heap.size ≤ pg) := Lib.hid (by omega)
  have HW := Lib.hid hw0; clear hw0
  go_enter Tryz.func12, Tryz.ntmps12
  go_upto_region 1 with fail
  rw [← HW.out, ← hpg]
  clear hpg HW
  obtain ⟨qy, iy, oy, HQy, HIy, HOy⟩ : ∃ (q : Rat) (i o : Bool), Hid (q = qval fa) ∧ Hid (i = tis fa) ∧ Hid (o = tok fa) := ⟨_, _, _, Lib.hid rfl, Lib.hid rfl, Lib.hid rfl⟩
  have hqy : QB qy 2001 := by rw [HQy.out]; exact QB.any _
  obtain ⟨qz, iz, oz, HQz, HIz, HOz⟩ : ∃ (q : Rat) (i o : Bool), Hid (q = qval co) ∧ Hid (i = tis co) ∧ Hid (o = tok co) := ⟨_, _, _, Lib.hid rfl, Lib.hid rfl, Lib.hid rfl⟩
  have hqz : QB qz 2001 := by rw [HQz.out]; exact QB.any _
  obtain ⟨qv, iv, ov, HQv, HIv, HOv⟩ : ∃ (q : Rat) (i o : Bool), Hid (q = qval mn) ∧ Hid (i = tis mn) ∧ Hid (o = tok mn) := ⟨_, _, _, Lib.hid rfl, Lib.hid rfl, Lib.hid rfl⟩
  have hqv : QB qv 2001 := by rw [HQv.out]; exact QB.any _
  obtain ⟨qx, ix, ox, HQx, HIx, HOx⟩ : ∃ (q : Rat) (i o : Bool), Hid (q = qval mx) ∧ Hid (i = tis mx) ∧ Hid (o = tok mx) := ⟨_, _, _, Lib.hid rfl, Lib.hid rfl, Lib.hid rfl⟩
  have hqx : QB qx 2001 := by rw [HQx.out]; exact QB.any _
  obtain ⟨z9, hz9⟩ : ∃ z, qcmp qv qx = z := ⟨_, rfl⟩
  have HZ := Lib.hid hz9
  have HT : Hid (tvalid mn mx fa co c = (oy && oz && ov && ox && (!iv || !ix || decide (z9 ≤ 0)) && decide (0 ≤ c) && decide (c ≤ 3))) := Lib.hid (by rw [HOy.out, HOz.out, HOv.out, HOx.out, HIv.out, HIx.out, ← hz9, HQv.out, HQx.out]; rfl)
  clear hz9
  obtain ⟨w1, hwE⟩ : ∃ W, W = (w0.alloc (.cells #[.string ⟨fa.toArray⟩, .string ⟨co.toArray⟩] 9)) := ⟨_, rfl⟩
  have hb : Below w0.heap.size w0 w1 := by rw [hwE]; exact ((Below.refl _ w0).alloc (Nat.le_refl _) _)
  obtain ⟨ps, hps⟩ : ∃ p, p = w0.heap.size := ⟨_, rfl⟩
  have hbs : Box2 w1 ps (Value.string ⟨fa.toArray⟩) (Value.string ⟨co.toArray⟩) := by rw [hwE, hps]; exact ⟨by go_simp, by go_simp, by go_simp, by go_simp⟩
  replace HP : Hid (w.heap.size ≤ pg ∧ pg < ps) := Lib.hid (by have h1 := HP.out; have h9 := hbf.size; have h2g := hbg.lt; omega)
  have eg0 := hbg.c0
  have eg1 := hbg.c1
  have eg2 := hbg.c2
  have eg3 := hbg.c3
  have eg4 := hbg.c4
  have HW := Lib.hid hwE; clear hwE
  go_wp2_with fail
  rw [← HW.out, ← hps]
  clear hps HW
  clear eg0 eg1 eg2 eg3 eg4
  replace hbg := hbg.kept hb
  replace hbf := hbf.trans (hb.mono hbf.size)
  clear hb
  (try go_step3)
  (try go_wp2_with fail)
  (try go_step3)
  (try go_wp2_with fail)
  go_loopg [20] 2 (fun gg iv9 wr => ∃ i : Nat, iv9 = .int .i64 (i : Int) ∧ i + gg = 2 ∧ (0 < i → oy = true) ∧ (1 < i → oz = true) ∧ Box5 wr pg (Value.string ⟨mn.toArray⟩) (Value.string ⟨mx.toArray⟩) (Value.string ⟨fa.toArray⟩) (Value.string ⟨co.toArray⟩) (Value.int .i64 c) ∧ Box2 wr ps (Value.string ⟨fa.toArray⟩) (Value.string ⟨co.toArray⟩) ∧ Below w.heap.size w wr)
  case atStart => exact ⟨0, rfl, rfl, fun h => by omega, fun h => by omega, hbg, hbs, hbf⟩
  clear hbg hbs hbf
  case round =>
    obtain ⟨i, rfl, hi, ho1, ho2, hbg, hbs, hbf⟩ := hrel
    have hi3 : i = 0 ∨ i = 1 ∨ i = 2 := by omega
    rcases hi3 with rfl | rfl | rfl
    · skip
      obtain rfl : gk = 2 := by omega
      have es0 := hbs.c0
      have es1 := hbs.c1
      go_wp2_with fail
      refine (part_any fa qy iy oy _ HQy HIy HOy (by omega)).mono ?_
      rintro e w2 hq9
      obtain ⟨yB, yxO, yxL, yxC, yyO, yyL, yyC, rfl, hS, hyx, hyy, hy, hb⟩ := hq9.out
      have HyS := Lib.hid hS; clear hS
      clear es0 es1
      replace hbg := hbg.kept hb
      replace hbs := hbs.kept hb
      replace hbf := hbf.trans (hb.mono hbf.size)
      clear hb
      obtain ⟨w3, hwE⟩ : ∃ W, W = (w2.alloc (.cells #[.bool yB, .slice yxO yxL yxC, .slice yyO yyL yyC] 51)) := ⟨_, rfl⟩
      have hb : Below w2.heap.size w2 w3 := by rw [hwE]; exact ((Below.refl _ w2).alloc (Nat.le_refl _) _)
      obtain ⟨py, hpy⟩ : ∃ p, p = w2.heap.size := ⟨_, rfl⟩
      have hby : Box3 w3 py (Value.bool yB) (Value.slice yxO yxL yxC) (Value.slice yyO yyL yyC) := by rw [hwE, hpy]; exact ⟨by go_simp, by go_simp, by go_simp, by go_simp, by go_simp, by go_simp⟩
      replace HP : Hid (w.heap.size ≤ pg ∧ pg < ps ∧ ps < py) := Lib.hid (by have h1 := HP.out; have h9 := hbf.size; have h2s := hbs.lt; omega)
      have HW := Lib.hid hwE; clear hwE
      go_upto_region 5 with fail
      rw [← HW.out, ← hpy]
      clear hpy HW
      replace hbg := hbg.kept hb
      replace hbs := hbs.kept hb
      replace hyx := hyx.below hb
      replace hyy := hyy.below hb
      replace hy := hy.below hb
      replace hbf := hbf.trans (hb.mono hbf.size)
      clear hb
      cases oy
      case false =>
        go_wp2_with fail
        go_ret
        exact ⟨ret_one (by rw [HT.out]; simp), hbf⟩
      case true =>
        go_wp2_with fail
        go_roundg (1)
        case measure => omega
        case rel => exact ⟨1, by first | rfl | (congr 1; omega), by omega, fun _ => by trivial, fun _ => by first | trivial | omega, hbg, hbs, hbf⟩
    · skip
      obtain rfl : gk = 1 := by omega
      obtain rfl : oy = true := ho1 (by omega)
      have es0 := hbs.c0
      have es1 := hbs.c1
      go_wp2_with fail
      refine (part_any co qz iz oz _ HQz HIz HOz (by omega)).mono ?_
      rintro e w2 hq9
      obtain ⟨zB, zxO, zxL, zxC, zyO, zyL, zyC, rfl, hS, hzx, hzy, hz, hb⟩ := hq9.out
      have HzS := Lib.hid hS; clear hS
      clear es0 es1
      replace hbg := hbg.kept hb
      replace hbs := hbs.kept hb
      replace hbf := hbf.trans (hb.mono hbf.size)
      clear hb
      obtain ⟨w3, hwE⟩ : ∃ W, W = (w2.alloc (.cells #[.bool zB, .slice zxO zxL zxC, .slice zyO zyL zyC] 51)) := ⟨_, rfl⟩
      have hb : Below w2.heap.size w2 w3 := by rw [hwE]; exact ((Below.refl _ w2).alloc (Nat.le_refl _) _)
      obtain ⟨pz, hpz⟩ : ∃ p, p = w2.heap.size := ⟨_, rfl⟩
      have hbz : Box3 w3 pz (Value.bool zB) (Value.slice zxO zxL zxC) (Value.slice zyO zyL zyC) := by rw [hwE, hpz]; exact ⟨by go_simp, by go_simp, by go_simp, by go_simp, by go_simp, by go_simp⟩
      replace HP : Hid (w.heap.size ≤ pg ∧ pg < ps ∧ ps < pz) := Lib.hid (by have h1 := HP.out; have h9 := hbf.size; have h2s := hbs.lt; omega)
      have HW := Lib.hid hwE; clear hwE
      go_upto_region 5 with fail
      rw [← HW.out, ← hpz]
      clear hpz HW
      replace hbg := hbg.kept hb
      replace hbs := hbs.kept hb
      replace hzx := hzx.below hb
      replace hzy := hzy.below hb
      replace hz := hz.below hb
      replace hbf := hbf.trans (hb.mono hbf.size)
      clear hb
      cases oz
      case false =>
        go_wp2_with fail
        go_ret
        exact ⟨ret_one (by rw [HT.out]; simp), hbf⟩
      case true =>
        go_wp2_with fail
        go_roundg (0)
        case measure => omega
        case rel => exact ⟨2, by first | rfl | (congr 1; omega), by omega, fun _ => by trivial, fun _ => by first | trivial | omega, hbg, hbs, hbf⟩
    · skip
      obtain rfl : gk = 0 := by omega
      obtain rfl : oy = true := ho1 (by omega)
      obtain rfl : oz = true := ho2 (by omega)
      have eg0 := hbg.c0
      have eg1 := hbg.c1
      have eg2 := hbg.c2
      have eg3 := hbg.c3
      have eg4 := hbg.c4
      go_wp2_with fail
      refine (part_any mn qv iv ov _ HQv HIv HOv (by omega)).mono ?_
      rintro e w2 hq9
      obtain ⟨vB, vxO, vxL, vxC, vyO, vyL, vyC, rfl, hS, hvx, hvy, hv, hb⟩ := hq9.out
      have HvS := Lib.hid hS; clear hS
      clear eg0 eg1 eg2 eg3 eg4
      replace hbg := hbg.kept hb
      replace hbs := hbs.kept hb
      replace hbf := hbf.trans (hb.mono hbf.size)
      clear hb
      obtain ⟨w3, hwE⟩ : ∃ W, W = (w2.alloc (.cells #[.bool vB, .slice vxO vxL vxC, .slice vyO vyL vyC] 51)) := ⟨_, rfl⟩
      have hb : Below w2.heap.size w2 w3 := by rw [hwE]; exact ((Below.refl _ w2).alloc (Nat.le_refl _) _)
      obtain ⟨pv, hpv⟩ : ∃ p, p = w2.heap.size := ⟨_, rfl⟩
      have hbv : Box3 w3 pv (Value.bool vB) (Value.slice vxO vxL vxC) (Value.slice vyO vyL vyC) := by rw [hwE, hpv]; exact ⟨by go_simp, by go_simp, by go_simp, by go_simp, by go_simp, by go_simp⟩
      replace HP : Hid (w.heap.size ≤ pg ∧ pg < ps ∧ ps < pv) := Lib.hid (by have h1 := HP.out; have h9 := hbf.size; have h2s := hbs.lt; omega)
      have HW := Lib.hid hwE; clear hwE
      go_upto_region 9 with fail
      rw [← HW.out, ← hpv]
      clear hpv HW
      replace hbg := hbg.kept hb
      replace hbs := hbs.kept hb
      replace hvx := hvx.below hb
      replace hvy := hvy.below hb
      replace hv := hv.below hb
      replace hbf := hbf.trans (hb.mono hbf.size)
      clear hb
      have eg0 := hbg.c0
      have eg1 := hbg.c1
      have eg2 := hbg.c2
      have eg3 := hbg.c3
      have eg4 := hbg.c4
      go_wp2_with fail
      refine (part_any mx qx ix ox _ HQx HIx HOx (by omega)).mono ?_
      rintro e w4 hq9
      obtain ⟨xB, xxO, xxL, xxC, xyO, xyL, xyC, rfl, hS, hxx, hxy, hx, hb⟩ := hq9.out
      have HxS := Lib.hid hS; clear hS
      clear eg0 eg1 eg2 eg3 eg4
      replace hbg := hbg.kept hb
      replace hbs := hbs.kept hb
      replace hbv := hbv.kept hb
      replace hvx := hvx.below hb
      replace hvy := hvy.below hb
      replace hv := hv.below hb
      replace hbf := hbf.trans (hb.mono hbf.size)
      clear hb
      obtain ⟨w5, hwE⟩ : ∃ W, W = (w4.alloc (.cells #[.bool xB, .slice xxO xxL xxC, .slice xyO xyL xyC] 51)) := ⟨_, rfl⟩
      have hb : Below w4.heap.size w4 w5 := by rw [hwE]; exact ((Below.refl _ w4).alloc (Nat.le_refl _) _)
      obtain ⟨px, hpx⟩ : ∃ p, p = w4.heap.size := ⟨_, rfl⟩
      have hbx : Box3 w5 px (Value.bool xB) (Value.slice xxO xxL xxC) (Value.slice xyO xyL xyC) := by rw [hwE, hpx]; exact ⟨by go_simp, by go_simp, by go_simp, by go_simp, by go_simp, by go_simp⟩
      replace HP : Hid (w.heap.size ≤ pg ∧ pg < ps ∧ ps < pv ∧ pv < px) := Lib.hid (by have h1 := HP.out; have h9 := hbf.size; have h2v := hbv.lt; omega)
      have HW := Lib.hid hwE; clear hwE
      go_upto_region 10 with fail
      rw [← HW.out, ← hpx]
      clear hpx HW
      replace hbg := hbg.kept hb
      replace hbs := hbs.kept hb
      replace hbv := hbv.kept hb
      replace hvx := hvx.below hb
      replace hvy := hvy.below hb
      replace hv := hv.below hb
      replace hxx := hxx.below hb
      replace hxy := hxy.below hb
      replace hx := hx.below hb
      replace hbf := hbf.trans (hb.mono hbf.size)
      clear hb
      cases ov
      case false =>
        go_wp2_with fail
        go_ret
        exact ⟨ret_one (by rw [HT.out]; simp), hbf⟩
      case true =>
        cases ox
        case false =>
          go_wp2_with fail
          go_ret
          exact ⟨ret_one (by rw [HT.out]; simp), hbf⟩
        case true =>
          cases iv
          case false =>
            by_cases h0 : 0 ≤ c
            case neg =>
              have hc0 : decide (0 ≤ c) = false := decide_eq_false h0
              have eg0 := hbg.c0
              have eg1 := hbg.c1
              have eg2 := hbg.c2
              have eg3 := hbg.c3
              have eg4 := hbg.c4
              go_wp2_with fail
              go_ret
              exact ⟨ret_one (by rw [HT.out, hc0]; simp), hbf⟩
            have hc0 : decide (0 ≤ c) = true := decide_eq_true h0
            by_cases h9 : c ≤ 3
            case neg =>
              have hc9 : decide (c ≤ 3) = false := decide_eq_false h9
              have eg0 := hbg.c0
              have eg1 := hbg.c1
              have eg2 := hbg.c2
              have eg3 := hbg.c3
              have eg4 := hbg.c4
              go_wp2_with fail
              go_ret
              exact ⟨ret_one (by rw [HT.out, hc9]; simp), hbf⟩
            have hc9 : decide (c ≤ 3) = true := decide_eq_true h9
            have eg0 := hbg.c0
            have eg1 := hbg.c1
            have eg2 := hbg.c2
            have eg3 := hbg.c3
            have eg4 := hbg.c4
            go_wp2_with fail
            go_ret
            exact ⟨ret_one (by rw [HT.out, hc0, hc9]; simp), hbf⟩
          case true =>
            cases ix
            case false =>
              by_cases h0 : 0 ≤ c
              case neg =>
                have hc0 : decide (0 ≤ c) = false := decide_eq_false h0
                have eg0 := hbg.c0
                have eg1 := hbg.c1
                have eg2 := hbg.c2
                have eg3 := hbg.c3
                have eg4 := hbg.c4
                go_wp2_with fail
                go_ret
                exact ⟨ret_one (by rw [HT.out, hc0]; simp), hbf⟩
              have hc0 : decide (0 ≤ c) = true := decide_eq_true h0
              by_cases h9 : c ≤ 3
              case neg =>
                have hc9 : decide (c ≤ 3) = false := decide_eq_false h9
                have eg0 := hbg.c0
                have eg1 := hbg.c1
                have eg2 := hbg.c2
                have eg3 := hbg.c3
                have eg4 := hbg.c4
                go_wp2_with fail
                go_ret
                exact ⟨ret_one (by rw [HT.out, hc9]; simp), hbf⟩
              have hc9 : decide (c ≤ 3) = true := decide_eq_true h9
              have eg0 := hbg.c0
              have eg1 := hbg.c1
              have eg2 := hbg.c2
              have eg3 := hbg.c3
              have eg4 := hbg.c4
              go_wp2_with fail
              go_ret
              exact ⟨ret_one (by rw [HT.out, hc0, hc9]; simp), hbf⟩
            case true =>
              have ev0 := hbv.c0
              have ev1 := hbv.c1
              have ev2 := hbv.c2
              have ex0 := hbx.c0
              have ex1 := hbx.c1
              have ex2 := hbx.c2
              go_wp2_with fail
              refine (cmp_z _ _ qv qx z9 2001 2001 _ hv hx hqv hqx (by decide) HZ).mono ?_
              rintro e w6 ⟨rfl, hb⟩
              clear ev0 ev1 ev2 ex0 ex1 ex2
              replace hbg := hbg.kept hb
              replace hbs := hbs.kept hb
              replace hbv := hbv.kept hb
              replace hbx := hbx.kept hb
              replace hvx := hvx.below hb
              replace hvy := hvy.below hb
              replace hv := hv.below hb
              replace hxx := hxx.below hb
              replace hxy := hxy.below hb
              replace hx := hx.below hb
              replace hbf := hbf.trans (hb.mono hbf.size)
              clear hb
              by_cases hz : z9 ≤ 0
              case neg =>
                have hzd : decide (z9 ≤ 0) = false := decide_eq_false hz
                have eg0 := hbg.c0
                have eg1 := hbg.c1
                have eg2 := hbg.c2
                have eg3 := hbg.c3
                have eg4 := hbg.c4
                go_wp2_with fail
                go_ret
                exact ⟨ret_one (by rw [HT.out, hzd]; simp), hbf⟩
              have hzd : decide (z9 ≤ 0) = true := decide_eq_true hz
              by_cases h0 : 0 ≤ c
              case neg =>
                have hc0 : decide (0 ≤ c) = false := decide_eq_false h0
                have eg0 := hbg.c0
                have eg1 := hbg.c1
                have eg2 := hbg.c2
                have eg3 := hbg.c3
                have eg4 := hbg.c4
                go_wp2_with fail
                go_ret
                exact ⟨ret_one (by rw [HT.out, hc0]; simp), hbf⟩
              have hc0 : decide (0 ≤ c) = true := decide_eq_true h0
              by_cases h9 : c ≤ 3
              case neg =>
                have hc9 : decide (c ≤ 3) = false := decide_eq_false h9
                have eg0 := hbg.c0
                have eg1 := hbg.c1
                have eg2 := hbg.c2
                have eg3 := hbg.c3
                have eg4 := hbg.c4
                go_wp2_with fail
                go_ret
                exact ⟨ret_one (by rw [HT.out, hc9]; simp), hbf⟩
              have hc9 : decide (c ≤ 3) = true := decide_eq_true h9
              have eg0 := hbg.c0
              have eg1 := hbg.c1
              have eg2 := hbg.c2
              have eg3 := hbg.c3
              have eg4 := hbg.c4
              go_wp2_with fail
              go_ret
              exact ⟨ret_one (by rw [HT.out, hc0, hc9, hzd]; simp), hbf⟩

theorem apply_t (mn mx fa co num T : List UInt8) (c : Int) (w : World) (HT : Hid (tapply mn mx fa co c num = T)) (h1 : mn.length ≤ maxL) (h2 : mx.length ≤ maxL) (h3 : fa.length ≤ maxL) (h4 : co.length ≤ maxL) (h5 : num.length ≤ maxL) : Calls Tryz.prog 11 #[tgtV mn mx fa co c, .string ⟨num.toArray⟩] w fun e w' => e = .returned (.string ⟨T.toArray⟩) ∧ Below w.heap.size w w' := by
  have h := apply_any mn mx fa co num c w h1 h2 h3 h4 h5
  rwa [HT.out] at h
theorem valid17_b (mn mx fa co : List UInt8) (c : Int) (b : Bool) (w : World) (HB : Hid (tvalid mn mx fa co c = b)) (h1 : mn.length ≤ maxL) (h2 : mx.length ≤ maxL) (h3 : fa.length ≤ maxL) (h4 : co.length ≤ maxL) : Calls Tryz.prog 12 #[tgtV mn mx fa co c] w fun e w' => e = .returned (.bool b) ∧ Below w.heap.size w w' := by
  have h := valid17_any mn mx fa co c w h1 h2 h3 h4
  rwa [HB.out] at h
theorem al17 : tapply [] [] [50] [49] 1 [51, 47, 52] = [51] := by decide +kernel
theorem al17z : tapply [] [] [] [] 0 [] = [] := tapply_no tis_nil

set_option maxRecDepth 100000 in
set_option maxHeartbeats 1000000 in
/-- alive. -/
theorem alive17_any (w : World) : Calls Tryz.prog 6 #[] w fun e w' => e = .returned (.bool true) ∧ Below w.heap.size w w' := by
  go_enter Tryz.func6, Tryz.ntmps6
  go_wp2_with fail
  refine (apply_t [] [] [50] [49] [51, 47, 52] [51] 1 _ (Lib.hid al17) (by decide) (by decide) (by decide) (by decide) (by decide)).mono ?_
  rintro e w1 ⟨rfl, hb⟩
  have hbf := hb
  clear hb
  go_wp2_with fail
  refine (apply_t [] [] [] [] [] [] 0 _ (Lib.hid al17z) (by decide) (by decide) (by decide) (by decide) (by decide)).mono ?_
  rintro e w2 ⟨rfl, hb⟩
  replace hbf := hbf.trans (hb.mono hbf.size)
  clear hb
  go_wp2_with fail
  refine (plain_zero _).mono ?_
  rintro e w3 ⟨rfl, hb⟩
  replace hbf := hbf.trans (hb.mono hbf.size)
  clear hb
  go_wp2_with fail
  go_ret
  exact ⟨rfl, hbf⟩

end Go.Proofs.YtnajnbgjmgkcoaaGreatDoor
