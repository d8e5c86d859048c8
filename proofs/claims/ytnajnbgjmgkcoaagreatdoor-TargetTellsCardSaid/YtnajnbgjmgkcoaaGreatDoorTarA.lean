/-
  Targets: part, cast, Plain, Valid, Apply.
-/
import Derived.Test.YtnajnbgjmgkcoaaGreatDoorRatD
import Derived.Test.YtnajnbgjmgkcoaaGreatDoorMathG
import Derived.Test.YtnajnbgjmgkcoaaGreatDoorHeapG
import Derived.Test.YtnajnbgjmgkcoaaGreatDoorHeapF
import Derived.Deep.DeepCutAuto
import Derived.Laws.StructEq
namespace Go.Proofs.YtnajnbgjmgkcoaaGreatDoor
open Go.RowKit
set_option linter.unusedVariables false
set_option linter.unusedSimpArgs false
attribute [local go_sem] field_nat

/-- How long a text may be. -/
abbrev maxL : Nat := 9223372036854775807
/-- A fraction and two yes-or-noes are told. -/
def PPost (w : World) (q : Rat) (x y : Bool) (e : Ending) (w' : World) : Prop := ∃ r, e = .returned (.tuple #[r, .bool x, .bool y]) ∧ QIs w' r q ∧ Below w.heap.size w w'
theorem PPost.out {w w' : World} {q : Rat} {x y : Bool} {e : Ending} (h : PPost w q x y e w') : ∃ s xo xl xc yo yl yc, e = .returned (.tuple #[.agg #[.bool s, .slice xo xl xc, .slice yo yl yc], .bool x, .bool y]) ∧ s = decide (q < 0) ∧ NatIs w' (.agg #[.slice xo xl xc]) q.num.natAbs ∧ NatIs w' (.agg #[.slice yo yl yc]) (den0 q) ∧ QIs w' (.agg #[.bool s, .slice xo xl xc, .slice yo yl yc]) q ∧ Below w.heap.size w w' := by
  obtain ⟨r, rfl, hq, hb⟩ := h
  obtain ⟨s, xo, xl, xc, yo, yl, yc, rfl, h1, h2, h3⟩ := hq.form
  exact ⟨_, _, _, _, _, _, _, rfl, h1, h2, h3, hq, hb⟩
theorem ret_rat_tmps {fn : Func} {s t t2 : Nat} {R : Ending → World → Prop} {a : Act} {w : World} {b : Nat} {x y z u u2 : Value} (hres : fn.results = #[.cell s 51, .tmp t, .tmp t2]) (hp : a.tmps.getD s undef = .pointer (some ⟨b, 0, none⟩)) (hu : a.tmps.getD t undef = u) (hu2 : a.tmps.getD t2 undef = u2) (hc : Box3 w b x y z) (hd : a.defers = []) (hR : R (.returned (.tuple #[.agg #[x, y, z], u, u2])) w) : bodyPost Tryz.prog fn R .ret a w := by
  refine bodyPost_ret (v := .tuple #[.agg #[x, y, z], u, u2]) ?_ hd hR
  have hp' : a.tmps[s]?.getD undef = .pointer (some ⟨b, 0, none⟩) := by simpa using hp
  have hu' : a.tmps[t]?.getD undef = u := by simpa using hu
  have hu2' : a.tmps[t2]?.getD undef = u2 := by simpa using hu2
  simp only [results, hres]
  simp [Sem.run_bind, Sem.run_pure, Result.andThen, hp', hu', hu2', asAddr, load_rat hc]
theorem end_qbb {fn : Func} {s : Nat} {act : Act} {w w9 : World} {b : Nat} {s0 : Bool} {o1 o2 : Option Addr} {l1 l2 c1 c2 : Nat} {u0 u1 u2 : Value} {q : Rat} {t t2 : Nat} {x y : Bool} (hres : fn.results = #[.cell s 51, .tmp t, .tmp t2]) (hp : act.tmps.getD s undef = .pointer (some ⟨b, 0, none⟩)) (hu : act.tmps.getD t undef = .bool x) (hu2 : act.tmps.getD t2 undef = .bool y) (hd : act.defers = []) (hb : Box3 w9 b (.bool s0) (.slice o1 l1 c1) (.slice o2 l2 c2)) (hge : w.heap.size ≤ b) (hq : QIs w9 (.agg #[u0, u1, u2]) q) (hB : Below w.heap.size w w9) :
    bodyPost Tryz.prog fn (PPost w q x y) .ret act (((w9.setCell ⟨b, 0, none⟩ u0).setCell ⟨b, 1, none⟩ u1).setCell ⟨b, 2, none⟩ u2) :=
  ret_rat_tmps hres hp hu hu2 hb.set3 hd ⟨_, rfl, hq.set3 hb, below_set3 hB hge⟩
theorem tis_code {l : List UInt8} : ((qcode l : Int) == 0) = tis l := by
  unfold tis
  by_cases h : qcode l = 0
  · rw [decide_eq_true h, beq_iff_eq]; exact h
  · rw [decide_eq_false h, beq_eq_false_iff_ne]; exact h
theorem nil_beq {l : List UInt8} (h : l ≠ []) : (l == []) = false := by rw [beq_eq_false_iff_ne]; exact h
theorem part_nil (w : World) : Calls Tryz.prog 26 #[.string ⟨#[]⟩] w (PPost w 0 false true) := by
  obtain ⟨w0, hw0⟩ : ∃ w0, w0 = (w.alloc (.cells #[.bool false, .slice none 0 0, .slice none 0 0] 51)) := ⟨_, rfl⟩
  have hbf : Below w.heap.size w w0 := by rw [hw0]; exact ((Below.refl _ w).alloc (Nat.le_refl _) _)
  obtain ⟨pr, hpr⟩ : ∃ p, p = w.heap.size := ⟨_, rfl⟩
  have hbr : Box3 w0 pr (Value.bool false) (Value.slice none 0 0) (Value.slice none 0 0) := by rw [hw0, hpr]; exact ⟨by go_simp, by go_simp, by go_simp, by go_simp, by go_simp, by go_simp⟩
  have HP : Hid (w.heap.size ≤ pr) := Lib.hid (by omega)
  have HW := Lib.hid hw0; clear hw0
  go_enter Tryz.func26, Tryz.ntmps26
  go_upto_region 1 with fail
  rw [← HW.out, ← hpr]
  clear hpr HW
  have er0 := hbr.c0
  have fr0 := hbr.f0
  have er1 := hbr.c1
  have fr1 := hbr.f1
  have er2 := hbr.c2
  have fr2 := hbr.f2
  go_wp2_with fail
  exact end_qbb rfl rfl rfl rfl rfl hbr (show w.heap.size ≤ pr by have := HP.out; omega) (QIs.zero _) hbf

set_option maxRecDepth 100000 in
set_option maxHeartbeats 1000000 in
/-- part. -/
theorem part_some (l : List UInt8) (q : Rat) (b : Bool) (w : World) (h0 : l ≠ []) (HQ : Hid (q = qval l)) (HB : Hid (b = tis l)) (hl : l.length ≤ maxL) : Calls Tryz.prog 26 #[.string ⟨l.toArray⟩] w (PPost w q b b) := by
  obtain ⟨w0, hw0⟩ : ∃ w0, w0 = (w.alloc (.cells #[.bool false, .slice none 0 0, .slice none 0 0] 51)) := ⟨_, rfl⟩
  have hbf : Below w.heap.size w w0 := by rw [hw0]; exact ((Below.refl _ w).alloc (Nat.le_refl _) _)
  obtain ⟨pr, hpr⟩ : ∃ p, p = w.heap.size := ⟨_, rfl⟩
  have hbr : Box3 w0 pr (Value.bool false) (Value.slice none 0 0) (Value.slice none 0 0) := by rw [hw0, hpr]; exact ⟨by go_simp, by go_simp, by go_simp, by go_simp, by go_simp, by go_simp⟩
  have HP : Hid (w.heap.size ≤ pr) := Lib.hid (by omega)
  have HW := Lib.hid hw0; clear hw0
  go_enter Tryz.func26, Tryz.ntmps26
  go_upto_region 1 with fail
  rw [← HW.out, ← hpr]
  clear hpr HW
  have hne := nil_beq h0
  obtain ⟨k9, hk9⟩ : ∃ c, c = qcode l := ⟨_, rfl⟩
  have hkb : (k9 == 0) = b := by rw [hk9, tis_code]; exact HB.out.symm
  have HK := Lib.hid hk9
  clear hk9
  go_wp2_with fail
  refine (qparse_main l _ q k9 HQ HK hl).mono ?_
  rintro e w1 hq9
  obtain ⟨vB, vxO, vxL, vxC, vyO, vyL, vyC, rfl, hS, hvx, hvy, hv, hb⟩ := hq9.out
  have HvS := Lib.hid hS; clear hS
  replace hbr := hbr.kept hb
  replace hbf := hbf.trans (hb.mono hbf.size)
  clear hb
  obtain ⟨w2, hwE⟩ : ∃ W, W = (w1.alloc (.cells #[.bool vB, .slice vxO vxL vxC, .slice vyO vyL vyC] 51)) := ⟨_, rfl⟩
  have hb : Below w1.heap.size w1 w2 := by rw [hwE]; exact ((Below.refl _ w1).alloc (Nat.le_refl _) _)
  obtain ⟨pv, hpv⟩ : ∃ p, p = w1.heap.size := ⟨_, rfl⟩
  have hbv : Box3 w2 pv (Value.bool vB) (Value.slice vxO vxL vxC) (Value.slice vyO vyL vyC) := by rw [hwE, hpv]; exact ⟨by go_simp, by go_simp, by go_simp, by go_simp, by go_simp, by go_simp⟩
  replace HP : Hid (w.heap.size ≤ pr ∧ pr < pv) := Lib.hid (by have h1 := HP.out; have h9 := hbf.size; have h2r := hbr.lt; omega)
  have HW := Lib.hid hwE; clear hwE
  go_upto_region 4 with fail
  rw [← HW.out, ← hpv]
  clear hpv HW
  replace hbr := hbr.kept hb
  replace hvx := hvx.below hb
  replace hvy := hvy.below hb
  replace hv := hv.below hb
  replace hbf := hbf.trans (hb.mono hbf.size)
  clear hb
  have ev0 := hbv.c0
  have ev1 := hbv.c1
  have ev2 := hbv.c2
  have er0 := hbr.c0
  have fr0 := hbr.f0
  have er1 := hbr.c1
  have fr1 := hbr.f1
  have er2 := hbr.c2
  have fr2 := hbr.f2
  go_wp2_with fail
  exact end_qbb rfl rfl rfl rfl rfl hbr (show w.heap.size ≤ pr by have := HP.out; omega) hv hbf

theorem part_any (l : List UInt8) (q : Rat) (b o : Bool) (w : World) (HQ : Hid (q = qval l)) (HB : Hid (b = tis l)) (HO : Hid (o = tok l)) (hl : l.length ≤ maxL) : Calls Tryz.prog 26 #[.string ⟨l.toArray⟩] w (PPost w q b o) := by
  by_cases h0 : l = []
  · subst h0
    have h1 : q = 0 := by rw [HQ.out]; decide
    have h2 : b = false := by rw [HB.out]; exact tis_nil
    have h3 : o = true := by rw [HO.out]; exact tok_nil
    subst h1 h2 h3
    exact part_nil w
  · have h3 : o = b := by rw [HO.out, HB.out]; unfold tok; rw [decide_eq_false h0]; rfl
    subst h3
    exact part_some l q o w h0 HQ HB hl

set_option maxRecDepth 100000 in
set_option maxHeartbeats 1000000 in
/-- cast. -/
theorem tcast_any (c : Int) (v : Value) (q : Rat) (k : Nat) (w : World) (h : QIs w v q) (hqb : QB q k) (hk1 : 1 ≤ k) (hk : k ≤ 80000) : Calls Tryz.prog 30 #[.int .i64 c, v] w (QPost w (tcast c q)) := by
  obtain ⟨qB, qxO, qxL, qxC, qyO, qyL, qyC, rfl, hS, hqx, hqy⟩ := h.form
  have HqS := Lib.hid hS; clear hS
  obtain ⟨w0, hw0⟩ : ∃ w0, w0 = ((w.alloc (.cells #[.bool qB, .slice qxO qxL qxC, .slice qyO qyL qyC] 51)).alloc (.cells #[.bool false, .slice none 0 0, .slice none 0 0] 51)) := ⟨_, rfl⟩
  have hbf : Below w.heap.size w w0 := by rw [hw0]; exact (((Below.refl _ w).alloc (Nat.le_refl _) _).alloc (by simp <;> omega) _)
  obtain ⟨pq, hpq⟩ : ∃ p, p = w.heap.size := ⟨_, rfl⟩
  have hbq : Box3 w0 pq (Value.bool qB) (Value.slice qxO qxL qxC) (Value.slice qyO qyL qyC) := by rw [hw0, hpq]; exact ⟨by go_simp, by go_simp, by go_simp, by go_simp, by go_simp, by go_simp⟩
  obtain ⟨pr, hpr⟩ : ∃ p, p = w.heap.size + 1 := ⟨_, rfl⟩
  have hbr : Box3 w0 pr (Value.bool false) (Value.slice none 0 0) (Value.slice none 0 0) := by rw [hw0, hpr]; exact ⟨by go_simp, by go_simp, by go_simp, by go_simp, by go_simp, by go_simp⟩
  have HP : Hid (w.heap.size ≤ pq ∧ pq < pr) := Lib.hid (by omega)
  replace h := h.below hbf
  replace hqx := hqx.below hbf
  replace hqy := hqy.below hbf
  have HW := Lib.hid hw0; clear hw0
  go_enter Tryz.func30, Tryz.ntmps30
  go_upto_region 1 with fail
  rw [← HW.out, ← hpr, ← hpq]
  clear hpq hpr HW
  by_cases h1 : c = 1
  case pos =>
    subst h1
    have eq0 := hbq.c0
    have eq1 := hbq.c1
    have eq2 := hbq.c2
    go_wp2_with fail
    refine (round_any _ q k _ h hqb (by omega)).mono ?_
    rintro e w1 hq9
    obtain ⟨vB, vxO, vxL, vxC, vyO, vyL, vyC, rfl, hS, hvx, hvy, hv, hb⟩ := hq9.out
    have HvS := Lib.hid hS; clear hS
    clear eq0 eq1 eq2
    replace hbq := hbq.kept hb
    replace hbr := hbr.kept hb
    replace h := h.below hb
    replace hqx := hqx.below hb
    replace hqy := hqy.below hb
    replace hbf := hbf.trans (hb.mono hbf.size)
    clear hb
    have er0 := hbr.c0
    have fr0 := hbr.f0
    have er1 := hbr.c1
    have fr1 := hbr.f1
    have er2 := hbr.c2
    have fr2 := hbr.f2
    go_wp2_with fail
    rw [show tcast 1 q = _ from rfl]
    exact end_q rfl rfl rfl hbr (show w.heap.size ≤ pr by have := HP.out; omega) hv hbf
  case neg =>
    have hc1 : (c == 1) = false := by rw [beq_eq_false_iff_ne]; exact h1
    by_cases h2 : c = 2
    case pos =>
      subst h2
      have eq0 := hbq.c0
      have eq1 := hbq.c1
      have eq2 := hbq.c2
      go_wp2_with fail
      refine (ceil_any _ q k _ h hqb hk1 (by omega)).mono ?_
      rintro e w1 hq9
      obtain ⟨vB, vxO, vxL, vxC, vyO, vyL, vyC, rfl, hS, hvx, hvy, hv, hb⟩ := hq9.out
      have HvS := Lib.hid hS; clear hS
      clear eq0 eq1 eq2
      replace hbq := hbq.kept hb
      replace hbr := hbr.kept hb
      replace h := h.below hb
      replace hqx := hqx.below hb
      replace hqy := hqy.below hb
      replace hbf := hbf.trans (hb.mono hbf.size)
      clear hb
      have er0 := hbr.c0
      have fr0 := hbr.f0
      have er1 := hbr.c1
      have fr1 := hbr.f1
      have er2 := hbr.c2
      have fr2 := hbr.f2
      go_wp2_with fail
      rw [show tcast 2 q = _ from rfl]
      exact end_q rfl rfl rfl hbr (show w.heap.size ≤ pr by have := HP.out; omega) hv hbf
    case neg =>
      have hc2 : (c == 2) = false := by rw [beq_eq_false_iff_ne]; exact h2
      by_cases h3 : c = 3
      case pos =>
        subst h3
        have eq0 := hbq.c0
        have eq1 := hbq.c1
        have eq2 := hbq.c2
        go_wp2_with fail
        refine (floor_any _ q k _ h hqb hk1 (by omega)).mono ?_
        rintro e w1 hq9
        obtain ⟨vB, vxO, vxL, vxC, vyO, vyL, vyC, rfl, hS, hvx, hvy, hv, hb⟩ := hq9.out
        have HvS := Lib.hid hS; clear hS
        clear eq0 eq1 eq2
        replace hbq := hbq.kept hb
        replace hbr := hbr.kept hb
        replace h := h.below hb
        replace hqx := hqx.below hb
        replace hqy := hqy.below hb
        replace hbf := hbf.trans (hb.mono hbf.size)
        clear hb
        have er0 := hbr.c0
        have fr0 := hbr.f0
        have er1 := hbr.c1
        have fr1 := hbr.f1
        have er2 := hbr.c2
        have fr2 := hbr.f2
        go_wp2_with fail
        rw [show tcast 3 q = _ from rfl]
        exact end_q rfl rfl rfl hbr (show w.heap.size ≤ pr by have := HP.out; omega) hv hbf
      case neg =>
        have hc3 : (c == 3) = false := by rw [beq_eq_false_iff_ne]; exact h3
        have eq0 := hbq.c0
        have eq1 := hbq.c1
        have eq2 := hbq.c2
        have er0 := hbr.c0
        have fr0 := hbr.f0
        have er1 := hbr.c1
        have fr1 := hbr.f1
        have er2 := hbr.c2
        have fr2 := hbr.f2
        go_wp2_with fail
        rw [show tcast c q = q by unfold tcast; rw [if_neg h1, if_neg h2, if_neg h3]]
        exact end_q rfl rfl rfl hbr (show w.heap.size ≤ pr by have := HP.out; omega) h hbf

theorem cmp_z (va vc : Value) (a c : Rat) (k : Int) (i j : Nat) (w : World) (ha : QIs w va a) (hc : QIs w vc c) (hla : QB a i) (hlc : QB c j) (hij : i + j ≤ 90000) (hk : Hid (qcmp a c = k)) :
    Calls Tryz.prog 27 #[va, vc] w fun e w' => e = .returned (.int .i64 k) ∧ Below w.heap.size w w' := by
  have := qcmp_any va vc a c i j w ha hc hla hlc hij
  rwa [hk.out] at this
theorem tlow_no {r : Rat} {s : List UInt8} (h : tis s = false) : tlow r s = r := by unfold tlow; rw [h]; simp
theorem thigh_no {r : Rat} {s : List UInt8} (h : tis s = false) : thigh r s = r := by unfold thigh; rw [h]; simp
theorem tmul_no {r : Rat} {s : List UInt8} (h : tis s = false) : tmul r s = r := by unfold tmul; rw [h]; simp
theorem tadd_no {r : Rat} {s : List UInt8} (h : tis s = false) : tadd r s = r := by unfold tadd; rw [h]; simp
theorem tlow_is {r : Rat} {s : List UInt8} : tlow r s = if (tis s && decide (r < qval s)) = true then qval s else r := by unfold tlow; simp
theorem thigh_is {r : Rat} {s : List UInt8} : thigh r s = if (tis s && decide (qval s < r)) = true then qval s else r := by unfold thigh; simp
theorem tlow_yes {r : Rat} {s : List UInt8} (h : tis s = true) (h2 : r < qval s) : tlow r s = qval s := by unfold tlow; rw [if_pos ⟨h, h2⟩]
theorem thigh_yes {r : Rat} {s : List UInt8} (h : tis s = true) (h2 : qval s < r) : thigh r s = qval s := by unfold thigh; rw [if_pos ⟨h, h2⟩]
theorem tlow_not {r : Rat} {s : List UInt8} (h2 : ¬ r < qval s) : tlow r s = r := by unfold tlow; rw [if_neg (fun h => h2 h.2)]
theorem thigh_not {r : Rat} {s : List UInt8} (h2 : ¬ qval s < r) : thigh r s = r := by unfold thigh; rw [if_neg (fun h => h2 h.2)]
theorem tmul_yes {r : Rat} {s : List UInt8} (h : tis s = true) : tmul r s = r * qval s := by unfold tmul; rw [if_pos h]
theorem tadd_yes {r : Rat} {s : List UInt8} (h : tis s = true) : tadd r s = r + qval s := by unfold tadd; rw [if_pos h]
theorem tlow_qb {r : Rat} {s : List UInt8} {K : Nat} (h : QB r K) (h2 : QB (qval s) K) : QB (tlow r s) K := by unfold tlow; split <;> assumption
theorem thigh_qb {r : Rat} {s : List UInt8} {K : Nat} (h : QB r K) (h2 : QB (qval s) K) : QB (thigh r s) K := by unfold thigh; split <;> assumption
theorem tmul_qb {r : Rat} {s : List UInt8} {K J : Nat} (h : QB r K) (h2 : QB (qval s) J) : QB (tmul r s) (K + J) := by
  unfold tmul; split
  · exact h.mul h2
  · exact h.mono (by omega)
theorem tadd_qb {r : Rat} {s : List UInt8} {K J : Nat} (h : QB r K) (h2 : QB (qval s) J) : QB (tadd r s) (K + J + 1) := by
  unfold tadd; split
  · exact h.add h2
  · exact h.mono (by omega)
theorem tcast_qb {r : Rat} {K : Nat} (c : Int) (h : QB r K) (hK : K ≤ 99990) : QB (tcast c r) 100000 := by
  unfold tcast; split
  · exact h.round.mono (by omega)
  · split
    · exact h.neg.floor.neg.mono (by omega)
    · split
      · exact h.floor.mono (by omega)
      · exact h.mono (by omega)
theorem qcmp_nlt {a b : Rat} (h : ¬ a < b) : ¬ qcmp a b < 0 := by
  have := qcmp_ge (Rat.not_lt.1 h); omega
theorem qcmp_ngt2 {a b : Rat} (h : ¬ b < a) : ¬ 0 < qcmp a b := by
  have := qcmp_le (Rat.not_lt.1 h); omega

set_option maxRecDepth 100000 in
set_option maxHeartbeats 1000000 in
/-- Apply. -/
theorem apply_any (mn mx fa co num : List UInt8) (c : Int) (w : World) (h1 : mn.length ≤ maxL) (h2 : mx.length ≤ maxL) (h3 : fa.length ≤ maxL) (h4 : co.length ≤ maxL) (h5 : num.length ≤ maxL) : Calls Tryz.prog 11 #[tgtV mn mx fa co c, .string ⟨num.toArray⟩] w fun e w' => e = .returned (.string ⟨(tapply mn mx fa co c num).toArray⟩) ∧ Below w.heap.size w w' := by
  obtain ⟨w0, hw0⟩ : ∃ w0, w0 = (w.alloc (.cells #[.string ⟨mn.toArray⟩, .string ⟨mx.toArray⟩, .string ⟨fa.toArray⟩, .string ⟨co.toArray⟩, .int .i64 c] 23)) := ⟨_, rfl⟩
  have hbf : Below w.heap.size w w0 := by rw [hw0]; exact ((Below.refl _ w).alloc (Nat.le_refl _) _)
  obtain ⟨pg, hpg⟩ : ∃ p, p = w.heap.size := ⟨_, rfl⟩
  have hbg : Box5 w0 pg (Value.string ⟨mn.toArray⟩) (Value.string ⟨mx.toArray⟩) (Value.string ⟨fa.toArray⟩) (Value.string ⟨co.toArray⟩) (Value.int .i64 c) := by rw [hw0, hpg]; exact ⟨by go_simp, by go_simp, by go_simp, by go_simp, by go_simp, by go_simp, by go_simp, by go_simp, by go_simp, by go_simp⟩
  have HP : Hid (w.heap.size ≤ pg) := Lib.hid (by omega)
  have HW := Lib.hid hw0; clear hw0
  go_enter Tryz.func11, Tryz.ntmps11
  go_upto_region 1 with fail
  rw [← HW.out, ← hpg]
  clear hpg HW
  obtain ⟨qu, iu, ou, HQu, HIu, HOu⟩ : ∃ (q : Rat) (i o : Bool), Hid (q = qval num) ∧ Hid (i = tis num) ∧ Hid (o = tok num) := ⟨_, _, _, Lib.hid rfl, Lib.hid rfl, Lib.hid rfl⟩
  have hqu : QB qu 2001 := by rw [HQu.out]; exact QB.any _
  obtain ⟨qv, iv, ov, HQv, HIv, HOv⟩ : ∃ (q : Rat) (i o : Bool), Hid (q = qval mn) ∧ Hid (i = tis mn) ∧ Hid (o = tok mn) := ⟨_, _, _, Lib.hid rfl, Lib.hid rfl, Lib.hid rfl⟩
  have hqv : QB qv 2001 := by rw [HQv.out]; exact QB.any _
  obtain ⟨qx, ix, ox, HQx, HIx, HOx⟩ : ∃ (q : Rat) (i o : Bool), Hid (q = qval mx) ∧ Hid (i = tis mx) ∧ Hid (o = tok mx) := ⟨_, _, _, Lib.hid rfl, Lib.hid rfl, Lib.hid rfl⟩
  have hqx : QB qx 2001 := by rw [HQx.out]; exact QB.any _
  obtain ⟨qy, iy, oy, HQy, HIy, HOy⟩ : ∃ (q : Rat) (i o : Bool), Hid (q = qval fa) ∧ Hid (i = tis fa) ∧ Hid (o = tok fa) := ⟨_, _, _, Lib.hid rfl, Lib.hid rfl, Lib.hid rfl⟩
  have hqy : QB qy 2001 := by rw [HQy.out]; exact QB.any _
  obtain ⟨qz, iz, oz, HQz, HIz, HOz⟩ : ∃ (q : Rat) (i o : Bool), Hid (q = qval co) ∧ Hid (i = tis co) ∧ Hid (o = tok co) := ⟨_, _, _, Lib.hid rfl, Lib.hid rfl, Lib.hid rfl⟩
  have hqz : QB qz 2001 := by rw [HQz.out]; exact QB.any _
  have HT : Hid (tapply mn mx fa co c num = if (iu && ov && ox && oy && oz) = true then qtext (tgval mn mx fa co c qu) else []) := Lib.hid (by rw [HIu.out, HOv.out, HOx.out, HOy.out, HOz.out, HQu.out]; rfl)
  go_wp2_with fail
  refine (part_any num qu iu ou _ HQu HIu HOu (by omega)).mono ?_
  rintro e w1 hq9
  obtain ⟨uB, uxO, uxL, uxC, uyO, uyL, uyC, rfl, hS, hux, huy, hu, hb⟩ := hq9.out
  have HuS := Lib.hid hS; clear hS
  replace hbg := hbg.kept hb
  replace hbf := hbf.trans (hb.mono hbf.size)
  clear hb
  obtain ⟨w2, hwE⟩ : ∃ W, W = (w1.alloc (.cells #[.bool uB, .slice uxO uxL uxC, .slice uyO uyL uyC] 51)) := ⟨_, rfl⟩
  have hb : Below w1.heap.size w1 w2 := by rw [hwE]; exact ((Below.refl _ w1).alloc (Nat.le_refl _) _)
  obtain ⟨pu, hpu⟩ : ∃ p, p = w1.heap.size := ⟨_, rfl⟩
  have hbu : Box3 w2 pu (Value.bool uB) (Value.slice uxO uxL uxC) (Value.slice uyO uyL uyC) := by rw [hwE, hpu]; exact ⟨by go_simp, by go_simp, by go_simp, by go_simp, by go_simp, by go_simp⟩
  replace HP : Hid (w.heap.size ≤ pg ∧ pg < pu) := Lib.hid (by have h1 := HP.out; have h9 := hbf.size; have h2g := hbg.lt; omega)
  have HW := Lib.hid hwE; clear hwE
  go_upto_region 2 with fail
  rw [← HW.out, ← hpu]
  clear hpu HW
  replace hbg := hbg.kept hb
  replace hux := hux.below hb
  replace huy := huy.below hb
  replace hu := hu.below hb
  replace hbf := hbf.trans (hb.mono hbf.size)
  clear hb
  have eg0 := hbg.c0
  have eg1 := hbg.c1
  have eg2 := hbg.c2
  have eg3 := hbg.c3
  have eg4 := hbg.c4
  go_wp2_with fail
  refine (part_any mn qv iv ov _ HQv HIv HOv (by omega)).mono ?_
  rintro e w3 hq9
  obtain ⟨vB, vxO, vxL, vxC, vyO, vyL, vyC, rfl, hS, hvx, hvy, hv, hb⟩ := hq9.out
  have HvS := Lib.hid hS; clear hS
  clear eg0 eg1 eg2 eg3 eg4
  replace hbg := hbg.kept hb
  replace hbu := hbu.kept hb
  replace hux := hux.below hb
  replace huy := huy.below hb
  replace hu := hu.below hb
  replace hbf := hbf.trans (hb.mono hbf.size)
  clear hb
  obtain ⟨w4, hwE⟩ : ∃ W, W = (w3.alloc (.cells #[.bool vB, .slice vxO vxL vxC, .slice vyO vyL vyC] 51)) := ⟨_, rfl⟩
  have hb : Below w3.heap.size w3 w4 := by rw [hwE]; exact ((Below.refl _ w3).alloc (Nat.le_refl _) _)
  obtain ⟨pv, hpv⟩ : ∃ p, p = w3.heap.size := ⟨_, rfl⟩
  have hbv : Box3 w4 pv (Value.bool vB) (Value.slice vxO vxL vxC) (Value.slice vyO vyL vyC) := by rw [hwE, hpv]; exact ⟨by go_simp, by go_simp, by go_simp, by go_simp, by go_simp, by go_simp⟩
  replace HP : Hid (w.heap.size ≤ pg ∧ pg < pu ∧ pu < pv) := Lib.hid (by have h1 := HP.out; have h9 := hbf.size; have h2u := hbu.lt; omega)
  have HW := Lib.hid hwE; clear hwE
  go_upto_region 3 with fail
  rw [← HW.out, ← hpv]
  clear hpv HW
  replace hbg := hbg.kept hb
  replace hbu := hbu.kept hb
  replace hux := hux.below hb
  replace huy := huy.below hb
  replace hu := hu.below hb
  replace hvx := hvx.below hb
  replace hvy := hvy.below hb
  replace hv := hv.below hb
  replace hbf := hbf.trans (hb.mono hbf.size)
  clear hb
  have eg0 := hbg.c0
  have eg1 := hbg.c1
  have eg2 := hbg.c2
  have eg3 := hbg.c3
  have eg4 := hbg.c4
  go_wp2_with fail
  refine (part_any mx qx ix ox _ HQx HIx HOx (by omega)).mono ?_
  rintro e w5 hq9
  obtain ⟨xB, xxO, xxL, xxC, xyO, xyL, xyC, rfl, hS, hxx, hxy, hx, hb⟩ := hq9.out
  have HxS := Lib.hid hS; clear hS
  clear eg0 eg1 eg2 eg3 eg4
  replace hbg := hbg.kept hb
  replace hbu := hbu.kept hb
  replace hbv := hbv.kept hb
  replace hux := hux.below hb
  replace huy := huy.below hb
  replace hu := hu.below hb
  replace hvx := hvx.below hb
  replace hvy := hvy.below hb
  replace hv := hv.below hb
  replace hbf := hbf.trans (hb.mono hbf.size)
  clear hb
  obtain ⟨w6, hwE⟩ : ∃ W, W = (w5.alloc (.cells #[.bool xB, .slice xxO xxL xxC, .slice xyO xyL xyC] 51)) := ⟨_, rfl⟩
  have hb : Below w5.heap.size w5 w6 := by rw [hwE]; exact ((Below.refl _ w5).alloc (Nat.le_refl _) _)
  obtain ⟨px, hpx⟩ : ∃ p, p = w5.heap.size := ⟨_, rfl⟩
  have hbx : Box3 w6 px (Value.bool xB) (Value.slice xxO xxL xxC) (Value.slice xyO xyL xyC) := by rw [hwE, hpx]; exact ⟨by go_simp, by go_simp, by go_simp, by go_simp, by go_simp, by go_simp⟩
  replace HP : Hid (w.heap.size ≤ pg ∧ pg < pu ∧ pu < pv ∧ pv < px) := Lib.hid (by have h1 := HP.out; have h9 := hbf.size; have h2v := hbv.lt; omega)
  have HW := Lib.hid hwE; clear hwE
  go_upto_region 4 with fail
  rw [← HW.out, ← hpx]
  clear hpx HW
  replace hbg := hbg.kept hb
  replace hbu := hbu.kept hb
  replace hbv := hbv.kept hb
  replace hux := hux.below hb
  replace huy := huy.below hb
  replace hu := hu.below hb
  replace hvx := hvx.below hb
  replace hvy := hvy.below hb
  replace hv := hv.below hb
  replace hxx := hxx.below hb
  replace hxy := hxy.below hb
  replace hx := hx.below hb
  replace hbf := hbf.trans (hb.mono hbf.size)
  clear hb
  have eg0 := hbg.c0
  have eg1 := hbg.c1
  have eg2 := hbg.c2
  have eg3 := hbg.c3
  have eg4 := hbg.c4
  go_wp2_with fail
  refine (part_any fa qy iy oy _ HQy HIy HOy (by omega)).mono ?_
  rintro e w7 hq9
  obtain ⟨yB, yxO, yxL, yxC, yyO, yyL, yyC, rfl, hS, hyx, hyy, hy, hb⟩ := hq9.out
  have HyS := Lib.hid hS; clear hS
  clear eg0 eg1 eg2 eg3 eg4
  replace hbg := hbg.kept hb
  replace hbu := hbu.kept hb
  replace hbv := hbv.kept hb
  replace hbx := hbx.kept hb
  replace hux := hux.below hb
  replace huy := huy.below hb
  replace hu := hu.below hb
  replace hvx := hvx.below hb
  replace hvy := hvy.below hb
  replace hv := hv.below hb
  replace hxx := hxx.below hb
  replace hxy := hxy.below hb
  replace hx := hx.below hb
  replace hbf := hbf.trans (hb.mono hbf.size)
  clear hb
  obtain ⟨w8, hwE⟩ : ∃ W, W = (w7.alloc (.cells #[.bool yB, .slice yxO yxL yxC, .slice yyO yyL yyC] 51)) := ⟨_, rfl⟩
  have hb : Below w7.heap.size w7 w8 := by rw [hwE]; exact ((Below.refl _ w7).alloc (Nat.le_refl _) _)
  obtain ⟨py, hpy⟩ : ∃ p, p = w7.heap.size := ⟨_, rfl⟩
  have hby : Box3 w8 py (Value.bool yB) (Value.slice yxO yxL yxC) (Value.slice yyO yyL yyC) := by rw [hwE, hpy]; exact ⟨by go_simp, by go_simp, by go_simp, by go_simp, by go_simp, by go_simp⟩
  replace HP : Hid (w.heap.size ≤ pg ∧ pg < pu ∧ pu < pv ∧ pv < px ∧ px < py) := Lib.hid (by have h1 := HP.out; have h9 := hbf.size; have h2x := hbx.lt; omega)
  have HW := Lib.hid hwE; clear hwE
  go_upto_region 5 with fail
  rw [← HW.out, ← hpy]
  clear hpy HW
  replace hbg := hbg.kept hb
  replace hbu := hbu.kept hb
  replace hbv := hbv.kept hb
  replace hbx := hbx.kept hb
  replace hux := hux.below hb
  replace huy := huy.below hb
  replace hu := hu.below hb
  replace hvx := hvx.below hb
  replace hvy := hvy.below hb
  replace hv := hv.below hb
  replace hxx := hxx.below hb
  replace hxy := hxy.below hb
  replace hx := hx.below hb
  replace hyx := hyx.below hb
  replace hyy := hyy.below hb
  replace hy := hy.below hb
  replace hbf := hbf.trans (hb.mono hbf.size)
  clear hb
  have eg0 := hbg.c0
  have eg1 := hbg.c1
  have eg2 := hbg.c2
  have eg3 := hbg.c3
  have eg4 := hbg.c4
  go_wp2_with fail
  refine (part_any co qz iz oz _ HQz HIz HOz (by omega)).mono ?_
  rintro e w9 hq9
  obtain ⟨zB, zxO, zxL, zxC, zyO, zyL, zyC, rfl, hS, hzx, hzy, hz, hb⟩ := hq9.out
  have HzS := Lib.hid hS; clear hS
  clear eg0 eg1 eg2 eg3 eg4
  replace hbg := hbg.kept hb
  replace hbu := hbu.kept hb
  replace hbv := hbv.kept hb
  replace hbx := hbx.kept hb
  replace hby := hby.kept hb
  replace hux := hux.below hb
  replace huy := huy.below hb
  replace hu := hu.below hb
  replace hvx := hvx.below hb
  replace hvy := hvy.below hb
  replace hv := hv.below hb
  replace hxx := hxx.below hb
  replace hxy := hxy.below hb
  replace hx := hx.below hb
  replace hyx := hyx.below hb
  replace hyy := hyy.below hb
  replace hy := hy.below hb
  replace hbf := hbf.trans (hb.mono hbf.size)
  clear hb
  obtain ⟨w10, hwE⟩ : ∃ W, W = (w9.alloc (.cells #[.bool zB, .slice zxO zxL zxC, .slice zyO zyL zyC] 51)) := ⟨_, rfl⟩
  have hb : Below w9.heap.size w9 w10 := by rw [hwE]; exact ((Below.refl _ w9).alloc (Nat.le_refl _) _)
  obtain ⟨pz, hpz⟩ : ∃ p, p = w9.heap.size := ⟨_, rfl⟩
  have hbz : Box3 w10 pz (Value.bool zB) (Value.slice zxO zxL zxC) (Value.slice zyO zyL zyC) := by rw [hwE, hpz]; exact ⟨by go_simp, by go_simp, by go_simp, by go_simp, by go_simp, by go_simp⟩
  replace HP : Hid (w.heap.size ≤ pg ∧ pg < pu ∧ pu < pv ∧ pv < px ∧ px < py ∧ py < pz) := Lib.hid (by have h1 := HP.out; have h9 := hbf.size; have h2y := hby.lt; omega)
  have HW := Lib.hid hwE; clear hwE
  go_upto_region 6 with fail
  rw [← HW.out, ← hpz]
  clear hpz HW
  replace hbg := hbg.kept hb
  replace hbu := hbu.kept hb
  replace hbv := hbv.kept hb
  replace hbx := hbx.kept hb
  replace hby := hby.kept hb
  replace hux := hux.below hb
  replace huy := huy.below hb
  replace hu := hu.below hb
  replace hvx := hvx.below hb
  replace hvy := hvy.below hb
  replace hv := hv.below hb
  replace hxx := hxx.below hb
  replace hxy := hxy.below hb
  replace hx := hx.below hb
  replace hyx := hyx.below hb
  replace hyy := hyy.below hb
  replace hy := hy.below hb
  replace hzx := hzx.below hb
  replace hzy := hzy.below hb
  replace hz := hz.below hb
  replace hbf := hbf.trans (hb.mono hbf.size)
  clear hb
  cases iu
  case false =>
    have HT2 : Hid (tapply mn mx fa co c num = []) := Lib.hid (by rw [HT.out]; rfl)
    go_wp2_with fail
    go_ret
    exact ⟨ret_one (by rw [HT2.out]; rfl), hbf⟩
  case true =>
    cases ov
    case false =>
      have HT2 : Hid (tapply mn mx fa co c num = []) := Lib.hid (by rw [HT.out]; rfl)
      go_wp2_with fail
      go_ret
      exact ⟨ret_one (by rw [HT2.out]; rfl), hbf⟩
    case true =>
      cases ox
      case false =>
        have HT2 : Hid (tapply mn mx fa co c num = []) := Lib.hid (by rw [HT.out]; rfl)
        go_wp2_with fail
        go_ret
        exact ⟨ret_one (by rw [HT2.out]; rfl), hbf⟩
      case true =>
        cases oy
        case false =>
          have HT2 : Hid (tapply mn mx fa co c num = []) := Lib.hid (by rw [HT.out]; rfl)
          go_wp2_with fail
          go_ret
          exact ⟨ret_one (by rw [HT2.out]; rfl), hbf⟩
        case true =>
          cases oz
          case false =>
            have HT2 : Hid (tapply mn mx fa co c num = []) := Lib.hid (by rw [HT.out]; rfl)
            go_wp2_with fail
            go_ret
            exact ⟨ret_one (by rw [HT2.out]; rfl), hbf⟩
          case true =>
            have HTA : Hid (tapply mn mx fa co c num = qtext (tgval mn mx fa co c qu)) := Lib.hid (by rw [HT.out]; rfl)
            clear HT
            clear hux huy hvx hvy hxx hxy hyx hyy hzx hzy
            obtain ⟨r1, HR1⟩ : ∃ r, Hid (r = tlow qu mn) := ⟨_, Lib.hid rfl⟩
            obtain ⟨t1, HT1⟩ : ∃ t, Hid (t = (iv && decide (qu < qv))) := ⟨_, Lib.hid rfl⟩
            have HY1 : Hid (r1 = if t1 = true then qv else qu) := Lib.hid (by rw [HR1.out, tlow_is, HT1.out, HIv.out, HQv.out])
            go_upto_region 8 with fail
            go_cut [78] (fun p789 wx => p789 = .bool t1 ∧ Box5 wx pg (Value.string ⟨mn.toArray⟩) (Value.string ⟨mx.toArray⟩) (Value.string ⟨fa.toArray⟩) (Value.string ⟨co.toArray⟩) (Value.int .i64 c) ∧ Box3 wx pu (Value.bool uB) (Value.slice uxO uxL uxC) (Value.slice uyO uyL uyC) ∧ Box3 wx pv (Value.bool vB) (Value.slice vxO vxL vxC) (Value.slice vyO vyL vyC) ∧ Box3 wx px (Value.bool xB) (Value.slice xxO xxL xxC) (Value.slice xyO xyL xyC) ∧ Box3 wx py (Value.bool yB) (Value.slice yxO yxL yxC) (Value.slice yyO yyL yyC) ∧ Box3 wx pz (Value.bool zB) (Value.slice zxO zxL zxC) (Value.slice zyO zyL zyC) ∧ QIs wx (.agg #[.bool uB, .slice uxO uxL uxC, .slice uyO uyL uyC]) qu ∧ QIs wx (.agg #[.bool vB, .slice vxO vxL vxC, .slice vyO vyL vyC]) qv ∧ QIs wx (.agg #[.bool xB, .slice xxO xxL xxC, .slice xyO xyL xyC]) qx ∧ QIs wx (.agg #[.bool yB, .slice yxO yxL yxC, .slice yyO yyL yyC]) qy ∧ QIs wx (.agg #[.bool zB, .slice zxO zxL zxC, .slice zyO zyL zyC]) qz ∧ Below w.heap.size w wx)
            case first =>
              cases iv
              case false =>
                obtain rfl : t1 = false := by rw [HT1.out]; rfl
                go_wp2_with fail
                go_meet
                case rel => exact ⟨rfl, hbg, hbu, hbv, hbx, hby, hbz, hu, hv, hx, hy, hz, hbf⟩
              case true =>
                by_cases hlt : qu < qv
                case pos =>
                  obtain rfl : t1 = true := by rw [HT1.out, decide_eq_true hlt]; rfl
                  have eu0 := hbu.c0
                  have eu1 := hbu.c1
                  have eu2 := hbu.c2
                  have ev0 := hbv.c0
                  have ev1 := hbv.c1
                  have ev2 := hbv.c2
                  go_wp2_with fail
                  refine (cmp_z _ _ qu qv (-1) 2001 2001 _ hu hv hqu hqv (by decide) (Lib.hid (qcmp_lt hlt))).mono ?_
                  rintro e w11 ⟨rfl, hb⟩
                  clear eu0 eu1 eu2 ev0 ev1 ev2
                  replace hbg := hbg.kept hb
                  replace hbu := hbu.kept hb
                  replace hbv := hbv.kept hb
                  replace hbx := hbx.kept hb
                  replace hby := hby.kept hb
                  replace hbz := hbz.kept hb
                  replace hu := hu.below hb
                  replace hv := hv.below hb
                  replace hx := hx.below hb
                  replace hy := hy.below hb
                  replace hz := hz.below hb
                  replace hbf := hbf.trans (hb.mono hbf.size)
                  clear hb
                  go_wp2_with fail
                  go_meet
                  case rel => exact ⟨rfl, hbg, hbu, hbv, hbx, hby, hbz, hu, hv, hx, hy, hz, hbf⟩
                case neg =>
                  obtain rfl : t1 = false := by rw [HT1.out, decide_eq_false hlt]; rfl
                  obtain ⟨z9, hz9⟩ : ∃ z, qcmp qu qv = z := ⟨_, rfl⟩
                  have HZ := Lib.hid hz9
                  have hc : decide (z9 < 0) = false := decide_eq_false (by rw [← hz9]; exact qcmp_nlt hlt)
                  clear hz9
                  have eu0 := hbu.c0
                  have eu1 := hbu.c1
                  have eu2 := hbu.c2
                  have ev0 := hbv.c0
                  have ev1 := hbv.c1
                  have ev2 := hbv.c2
                  go_wp2_with fail
                  refine (cmp_z _ _ qu qv z9 2001 2001 _ hu hv hqu hqv (by decide) HZ).mono ?_
                  rintro e w11 ⟨rfl, hb⟩
                  clear eu0 eu1 eu2 ev0 ev1 ev2
                  replace hbg := hbg.kept hb
                  replace hbu := hbu.kept hb
                  replace hbv := hbv.kept hb
                  replace hbx := hbx.kept hb
                  replace hby := hby.kept hb
                  replace hbz := hbz.kept hb
                  replace hu := hu.below hb
                  replace hv := hv.below hb
                  replace hx := hx.below hb
                  replace hy := hy.below hb
                  replace hz := hz.below hb
                  replace hbf := hbf.trans (hb.mono hbf.size)
                  clear hb
                  go_wp2_with fail
                  go_meet
                  case rel => exact ⟨rfl, hbg, hbu, hbv, hbx, hby, hbz, hu, hv, hx, hy, hz, hbf⟩
            case rest =>
              clear hbg hbu hbv hbx hby hbz hu hv hx hy hz hbf
              obtain ⟨rfl, hbg, hbu, hbv, hbx, hby, hbz, hu, hv, hx, hy, hz, hbf⟩ := hcut
              obtain ⟨w11, hwE⟩ : ∃ W, W = wc := ⟨_, rfl⟩
              subst hwE
              have hqr1 : QB r1 2001 := by rw [HR1.out]; exact tlow_qb hqu (QB.any mn)
              go_upto_if 78 with fail
              go_cut [] (fun wx => ∃ (sB : Bool) (xO : Option Addr) (xL xC : Nat) (yO : Option Addr) (yL yC : Nat), Box3 wx pu (.bool sB) (.slice xO xL xC) (.slice yO yL yC) ∧ QIs wx (.agg #[.bool sB, .slice xO xL xC, .slice yO yL yC]) (r1) ∧ Box5 wx pg (Value.string ⟨mn.toArray⟩) (Value.string ⟨mx.toArray⟩) (Value.string ⟨fa.toArray⟩) (Value.string ⟨co.toArray⟩) (Value.int .i64 c) ∧ Box3 wx pv (Value.bool vB) (Value.slice vxO vxL vxC) (Value.slice vyO vyL vyC) ∧ Box3 wx px (Value.bool xB) (Value.slice xxO xxL xxC) (Value.slice xyO xyL xyC) ∧ Box3 wx py (Value.bool yB) (Value.slice yxO yxL yxC) (Value.slice yyO yyL yyC) ∧ Box3 wx pz (Value.bool zB) (Value.slice zxO zxL zxC) (Value.slice zyO zyL zyC) ∧ QIs wx (.agg #[.bool xB, .slice xxO xxL xxC, .slice xyO xyL xyC]) qx ∧ QIs wx (.agg #[.bool yB, .slice yxO yxL yxC, .slice yyO yyL yyC]) qy ∧ QIs wx (.agg #[.bool zB, .slice zxO zxL zxC, .slice zyO zyL zyC]) qz ∧ Below w.heap.size w wx)
              case first =>
                cases t1
                case false =>
                  have hr9 : r1 = qu := by rw [HY1.out]; rfl
                  rw [← hr9] at hu
                  go_wp2_with fail
                  go_meet
                  case rel => exact ⟨_, _, _, _, _, _, _, hbu, hu, hbg, hbv, hbx, hby, hbz, hx, hy, hz, hbf⟩
                case true =>
                  have hr9 : r1 = qv := by rw [HY1.out]; rfl
                  have hnew := hv
                  rw [← hr9] at hnew
                  have ev0 := hbv.c0
                  have ev1 := hbv.c1
                  have ev2 := hbv.c2
                  have eu0 := hbu.c0
                  have fu0 := hbu.f0
                  have eu1 := hbu.c1
                  have fu1 := hbu.f1
                  have eu2 := hbu.c2
                  have fu2 := hbu.f2
                  go_wp2_with fail
                  clear ev0 ev1 ev2 eu0 fu0 eu1 fu1 eu2 fu2
                  obtain ⟨w12, hwE⟩ : ∃ W, W = ((w11.setCell ⟨pu, 0, none⟩ (Value.bool vB)).setCell ⟨pu, 1, none⟩ (Value.slice vxO vxL vxC)).setCell ⟨pu, 2, none⟩ (Value.slice vyO vyL vyC) := ⟨_, rfl⟩
                  rw [← hwE]
                  replace hu := hu.set3 (u0 := (Value.bool vB)) (u1 := (Value.slice vxO vxL vxC)) (u2 := (Value.slice vyO vyL vyC)) hbu; rw [← hwE] at hu
                  replace hv := hv.set3 (u0 := (Value.bool vB)) (u1 := (Value.slice vxO vxL vxC)) (u2 := (Value.slice vyO vyL vyC)) hbu; rw [← hwE] at hv
                  replace hx := hx.set3 (u0 := (Value.bool vB)) (u1 := (Value.slice vxO vxL vxC)) (u2 := (Value.slice vyO vyL vyC)) hbu; rw [← hwE] at hx
                  replace hy := hy.set3 (u0 := (Value.bool vB)) (u1 := (Value.slice vxO vxL vxC)) (u2 := (Value.slice vyO vyL vyC)) hbu; rw [← hwE] at hy
                  replace hz := hz.set3 (u0 := (Value.bool vB)) (u1 := (Value.slice vxO vxL vxC)) (u2 := (Value.slice vyO vyL vyC)) hbu; rw [← hwE] at hz
                  replace hnew := hnew.set3 (u0 := (Value.bool vB)) (u1 := (Value.slice vxO vxL vxC)) (u2 := (Value.slice vyO vyL vyC)) hbu; rw [← hwE] at hnew
                  replace hbg := hbg.set3t (u0 := (Value.bool vB)) (u1 := (Value.slice vxO vxL vxC)) (u2 := (Value.slice vyO vyL vyC)) (show pg ≠ pu by have := HP.out; omega); rw [← hwE] at hbg
                  replace hbv := hbv.set3o (u0 := (Value.bool vB)) (u1 := (Value.slice vxO vxL vxC)) (u2 := (Value.slice vyO vyL vyC)) (show pv ≠ pu by have := HP.out; omega); rw [← hwE] at hbv
                  replace hbx := hbx.set3o (u0 := (Value.bool vB)) (u1 := (Value.slice vxO vxL vxC)) (u2 := (Value.slice vyO vyL vyC)) (show px ≠ pu by have := HP.out; omega); rw [← hwE] at hbx
                  replace hby := hby.set3o (u0 := (Value.bool vB)) (u1 := (Value.slice vxO vxL vxC)) (u2 := (Value.slice vyO vyL vyC)) (show py ≠ pu by have := HP.out; omega); rw [← hwE] at hby
                  replace hbz := hbz.set3o (u0 := (Value.bool vB)) (u1 := (Value.slice vxO vxL vxC)) (u2 := (Value.slice vyO vyL vyC)) (show pz ≠ pu by have := HP.out; omega); rw [← hwE] at hbz
                  replace hbf := below_set3 (u0 := (Value.bool vB)) (u1 := (Value.slice vxO vxL vxC)) (u2 := (Value.slice vyO vyL vyC)) hbf (show w.heap.size ≤ pu by have := HP.out; omega); rw [← hwE] at hbf
                  replace hbu := hbu.set3 (u0 := (Value.bool vB)) (u1 := (Value.slice vxO vxL vxC)) (u2 := (Value.slice vyO vyL vyC)); rw [← hwE] at hbu; clear hwE
                  go_meet
                  case rel => exact ⟨_, _, _, _, _, _, _, hbu, hnew, hbg, hbv, hbx, hby, hbz, hx, hy, hz, hbf⟩
              case rest =>
                clear hbu hbg hbv hbx hby hbz hx hy hz hbf
                obtain ⟨k11B, k11xO, k11xL, k11xC, k11yO, k11yL, k11yC, hbu, hk11, hbg, hbv, hbx, hby, hbz, hx, hy, hz, hbf⟩ := hcut
                obtain ⟨w13, hwE⟩ : ∃ W, W = wc := ⟨_, rfl⟩
                subst hwE
                obtain ⟨r2, HR2⟩ : ∃ r, Hid (r = thigh r1 mx) := ⟨_, Lib.hid rfl⟩
                obtain ⟨t2, HT2⟩ : ∃ t, Hid (t = (ix && decide (qx < r1))) := ⟨_, Lib.hid rfl⟩
                have HY2 : Hid (r2 = if t2 = true then qx else r1) := Lib.hid (by rw [HR2.out, thigh_is, HT2.out, HIx.out, HQx.out])
                go_upto_region 10 with fail
                go_cut [86] (fun p869 wx => p869 = .bool t2 ∧ Box5 wx pg (Value.string ⟨mn.toArray⟩) (Value.string ⟨mx.toArray⟩) (Value.string ⟨fa.toArray⟩) (Value.string ⟨co.toArray⟩) (Value.int .i64 c) ∧ Box3 wx pu (Value.bool k11B) (Value.slice k11xO k11xL k11xC) (Value.slice k11yO k11yL k11yC) ∧ Box3 wx pv (Value.bool vB) (Value.slice vxO vxL vxC) (Value.slice vyO vyL vyC) ∧ Box3 wx px (Value.bool xB) (Value.slice xxO xxL xxC) (Value.slice xyO xyL xyC) ∧ Box3 wx py (Value.bool yB) (Value.slice yxO yxL yxC) (Value.slice yyO yyL yyC) ∧ Box3 wx pz (Value.bool zB) (Value.slice zxO zxL zxC) (Value.slice zyO zyL zyC) ∧ QIs wx (.agg #[.bool k11B, .slice k11xO k11xL k11xC, .slice k11yO k11yL k11yC]) r1 ∧ QIs wx (.agg #[.bool xB, .slice xxO xxL xxC, .slice xyO xyL xyC]) qx ∧ QIs wx (.agg #[.bool yB, .slice yxO yxL yxC, .slice yyO yyL yyC]) qy ∧ QIs wx (.agg #[.bool zB, .slice zxO zxL zxC, .slice zyO zyL zyC]) qz ∧ Below w.heap.size w wx)
                case first =>
                  cases ix
                  case false =>
                    obtain rfl : t2 = false := by rw [HT2.out]; rfl
                    go_wp2_with fail
                    go_meet
                    case rel => exact ⟨rfl, hbg, hbu, hbv, hbx, hby, hbz, hk11, hx, hy, hz, hbf⟩
                  case true =>
                    by_cases hlt : qx < r1
                    case pos =>
                      obtain rfl : t2 = true := by rw [HT2.out, decide_eq_true hlt]; rfl
                      have eu0 := hbu.c0
                      have eu1 := hbu.c1
                      have eu2 := hbu.c2
                      have ex0 := hbx.c0
                      have ex1 := hbx.c1
                      have ex2 := hbx.c2
                      go_wp2_with fail
                      refine (cmp_z _ _ r1 qx (1) 2001 2001 _ hk11 hx hqr1 hqx (by decide) (Lib.hid (qcmp_gt hlt))).mono ?_
                      rintro e w14 ⟨rfl, hb⟩
                      clear eu0 eu1 eu2 ex0 ex1 ex2
                      replace hbg := hbg.kept hb
                      replace hbu := hbu.kept hb
                      replace hbv := hbv.kept hb
                      replace hbx := hbx.kept hb
                      replace hby := hby.kept hb
                      replace hbz := hbz.kept hb
                      replace hx := hx.below hb
                      replace hy := hy.below hb
                      replace hz := hz.below hb
                      replace hk11 := hk11.below hb
                      replace hbf := hbf.trans (hb.mono hbf.size)
                      clear hb
                      go_wp2_with fail
                      go_meet
                      case rel => exact ⟨rfl, hbg, hbu, hbv, hbx, hby, hbz, hk11, hx, hy, hz, hbf⟩
                    case neg =>
                      obtain rfl : t2 = false := by rw [HT2.out, decide_eq_false hlt]; rfl
                      obtain ⟨z9, hz9⟩ : ∃ z, qcmp r1 qx = z := ⟨_, rfl⟩
                      have HZ := Lib.hid hz9
                      have hc : decide (0 < z9) = false := decide_eq_false (by rw [← hz9]; exact qcmp_ngt2 hlt)
                      clear hz9
                      have eu0 := hbu.c0
                      have eu1 := hbu.c1
                      have eu2 := hbu.c2
                      have ex0 := hbx.c0
                      have ex1 := hbx.c1
                      have ex2 := hbx.c2
                      go_wp2_with fail
                      refine (cmp_z _ _ r1 qx z9 2001 2001 _ hk11 hx hqr1 hqx (by decide) HZ).mono ?_
                      rintro e w14 ⟨rfl, hb⟩
                      clear eu0 eu1 eu2 ex0 ex1 ex2
                      replace hbg := hbg.kept hb
                      replace hbu := hbu.kept hb
                      replace hbv := hbv.kept hb
                      replace hbx := hbx.kept hb
                      replace hby := hby.kept hb
                      replace hbz := hbz.kept hb
                      replace hx := hx.below hb
                      replace hy := hy.below hb
                      replace hz := hz.below hb
                      replace hk11 := hk11.below hb
                      replace hbf := hbf.trans (hb.mono hbf.size)
                      clear hb
                      go_wp2_with fail
                      go_meet
                      case rel => exact ⟨rfl, hbg, hbu, hbv, hbx, hby, hbz, hk11, hx, hy, hz, hbf⟩
                case rest =>
                  clear hbg hbu hbv hbx hby hbz hk11 hx hy hz hbf
                  obtain ⟨rfl, hbg, hbu, hbv, hbx, hby, hbz, hk11, hx, hy, hz, hbf⟩ := hcut
                  obtain ⟨w14, hwE⟩ : ∃ W, W = wc := ⟨_, rfl⟩
                  subst hwE
                  have hqr2 : QB r2 2001 := by rw [HR2.out]; exact thigh_qb hqr1 (QB.any mx)
                  go_upto_if 86 with fail
                  go_cut [] (fun wx => ∃ (sB : Bool) (xO : Option Addr) (xL xC : Nat) (yO : Option Addr) (yL yC : Nat), Box3 wx pu (.bool sB) (.slice xO xL xC) (.slice yO yL yC) ∧ QIs wx (.agg #[.bool sB, .slice xO xL xC, .slice yO yL yC]) (r2) ∧ Box5 wx pg (Value.string ⟨mn.toArray⟩) (Value.string ⟨mx.toArray⟩) (Value.string ⟨fa.toArray⟩) (Value.string ⟨co.toArray⟩) (Value.int .i64 c) ∧ Box3 wx pv (Value.bool vB) (Value.slice vxO vxL vxC) (Value.slice vyO vyL vyC) ∧ Box3 wx px (Value.bool xB) (Value.slice xxO xxL xxC) (Value.slice xyO xyL xyC) ∧ Box3 wx py (Value.bool yB) (Value.slice yxO yxL yxC) (Value.slice yyO yyL yyC) ∧ Box3 wx pz (Value.bool zB) (Value.slice zxO zxL zxC) (Value.slice zyO zyL zyC) ∧ QIs wx (.agg #[.bool yB, .slice yxO yxL yxC, .slice yyO yyL yyC]) qy ∧ QIs wx (.agg #[.bool zB, .slice zxO zxL zxC, .slice zyO zyL zyC]) qz ∧ Below w.heap.size w wx)
                  case first =>
                    cases t2
                    case false =>
                      have hr9 : r2 = r1 := by rw [HY2.out]; rfl
                      rw [← hr9] at hk11
                      go_wp2_with fail
                      go_meet
                      case rel => exact ⟨_, _, _, _, _, _, _, hbu, hk11, hbg, hbv, hbx, hby, hbz, hy, hz, hbf⟩
                    case true =>
                      have hr9 : r2 = qx := by rw [HY2.out]; rfl
                      have hnew := hx
                      rw [← hr9] at hnew
                      have ex0 := hbx.c0
                      have ex1 := hbx.c1
                      have ex2 := hbx.c2
                      have eu0 := hbu.c0
                      have fu0 := hbu.f0
                      have eu1 := hbu.c1
                      have fu1 := hbu.f1
                      have eu2 := hbu.c2
                      have fu2 := hbu.f2
                      go_wp2_with fail
                      clear ex0 ex1 ex2 eu0 fu0 eu1 fu1 eu2 fu2
                      obtain ⟨w15, hwE⟩ : ∃ W, W = ((w14.setCell ⟨pu, 0, none⟩ (Value.bool xB)).setCell ⟨pu, 1, none⟩ (Value.slice xxO xxL xxC)).setCell ⟨pu, 2, none⟩ (Value.slice xyO xyL xyC) := ⟨_, rfl⟩
                      rw [← hwE]
                      replace hk11 := hk11.set3 (u0 := (Value.bool xB)) (u1 := (Value.slice xxO xxL xxC)) (u2 := (Value.slice xyO xyL xyC)) hbu; rw [← hwE] at hk11
                      replace hx := hx.set3 (u0 := (Value.bool xB)) (u1 := (Value.slice xxO xxL xxC)) (u2 := (Value.slice xyO xyL xyC)) hbu; rw [← hwE] at hx
                      replace hy := hy.set3 (u0 := (Value.bool xB)) (u1 := (Value.slice xxO xxL xxC)) (u2 := (Value.slice xyO xyL xyC)) hbu; rw [← hwE] at hy
                      replace hz := hz.set3 (u0 := (Value.bool xB)) (u1 := (Value.slice xxO xxL xxC)) (u2 := (Value.slice xyO xyL xyC)) hbu; rw [← hwE] at hz
                      replace hnew := hnew.set3 (u0 := (Value.bool xB)) (u1 := (Value.slice xxO xxL xxC)) (u2 := (Value.slice xyO xyL xyC)) hbu; rw [← hwE] at hnew
                      replace hbg := hbg.set3t (u0 := (Value.bool xB)) (u1 := (Value.slice xxO xxL xxC)) (u2 := (Value.slice xyO xyL xyC)) (show pg ≠ pu by have := HP.out; omega); rw [← hwE] at hbg
                      replace hbv := hbv.set3o (u0 := (Value.bool xB)) (u1 := (Value.slice xxO xxL xxC)) (u2 := (Value.slice xyO xyL xyC)) (show pv ≠ pu by have := HP.out; omega); rw [← hwE] at hbv
                      replace hbx := hbx.set3o (u0 := (Value.bool xB)) (u1 := (Value.slice xxO xxL xxC)) (u2 := (Value.slice xyO xyL xyC)) (show px ≠ pu by have := HP.out; omega); rw [← hwE] at hbx
                      replace hby := hby.set3o (u0 := (Value.bool xB)) (u1 := (Value.slice xxO xxL xxC)) (u2 := (Value.slice xyO xyL xyC)) (show py ≠ pu by have := HP.out; omega); rw [← hwE] at hby
                      replace hbz := hbz.set3o (u0 := (Value.bool xB)) (u1 := (Value.slice xxO xxL xxC)) (u2 := (Value.slice xyO xyL xyC)) (show pz ≠ pu by have := HP.out; omega); rw [← hwE] at hbz
                      replace hbf := below_set3 (u0 := (Value.bool xB)) (u1 := (Value.slice xxO xxL xxC)) (u2 := (Value.slice xyO xyL xyC)) hbf (show w.heap.size ≤ pu by have := HP.out; omega); rw [← hwE] at hbf
                      replace hbu := hbu.set3 (u0 := (Value.bool xB)) (u1 := (Value.slice xxO xxL xxC)) (u2 := (Value.slice xyO xyL xyC)); rw [← hwE] at hbu; clear hwE
                      go_meet
                      case rel => exact ⟨_, _, _, _, _, _, _, hbu, hnew, hbg, hbv, hbx, hby, hbz, hy, hz, hbf⟩
                  case rest =>
                    clear hbu hbg hbv hbx hby hbz hy hz hbf
                    obtain ⟨k14B, k14xO, k14xL, k14xC, k14yO, k14yL, k14yC, hbu, hk14, hbg, hbv, hbx, hby, hbz, hy, hz, hbf⟩ := hcut
                    obtain ⟨w16, hwE⟩ : ∃ W, W = wc := ⟨_, rfl⟩
                    subst hwE
                    obtain ⟨r3, HR3⟩ : ∃ r, Hid (r = tmul r2 fa) := ⟨_, Lib.hid rfl⟩
                    have hqr3 : QB r3 4002 := by rw [HR3.out]; exact tmul_qb hqr2 (QB.any fa)
                    go_upto_if 88 with fail
                    go_cut [] (fun wx => ∃ (sB : Bool) (xO : Option Addr) (xL xC : Nat) (yO : Option Addr) (yL yC : Nat), Box3 wx pu (.bool sB) (.slice xO xL xC) (.slice yO yL yC) ∧ QIs wx (.agg #[.bool sB, .slice xO xL xC, .slice yO yL yC]) (r3) ∧ Box5 wx pg (Value.string ⟨mn.toArray⟩) (Value.string ⟨mx.toArray⟩) (Value.string ⟨fa.toArray⟩) (Value.string ⟨co.toArray⟩) (Value.int .i64 c) ∧ Box3 wx pv (Value.bool vB) (Value.slice vxO vxL vxC) (Value.slice vyO vyL vyC) ∧ Box3 wx px (Value.bool xB) (Value.slice xxO xxL xxC) (Value.slice xyO xyL xyC) ∧ Box3 wx py (Value.bool yB) (Value.slice yxO yxL yxC) (Value.slice yyO yyL yyC) ∧ Box3 wx pz (Value.bool zB) (Value.slice zxO zxL zxC) (Value.slice zyO zyL zyC) ∧ QIs wx (.agg #[.bool zB, .slice zxO zxL zxC, .slice zyO zyL zyC]) qz ∧ Below w.heap.size w wx)
                    case first =>
                      cases iy
                      case false =>
                        have hr9 : r3 = r2 := by rw [HR3.out]; exact tmul_no HIy.out.symm
                        rw [← hr9] at hk14
                        go_wp2_with fail
                        go_meet
                        case rel => exact ⟨_, _, _, _, _, _, _, hbu, hk14, hbg, hbv, hbx, hby, hbz, hz, hbf⟩
                      case true =>
                        have hr9 : r3 = r2 * qy := by rw [HR3.out, HQy.out]; exact tmul_yes HIy.out.symm
                        have eu0 := hbu.c0
                        have eu1 := hbu.c1
                        have eu2 := hbu.c2
                        have ey0 := hby.c0
                        have ey1 := hby.c1
                        have ey2 := hby.c2
                        go_wp2_with fail
                        refine (qmul_any _ _ r2 qy 2001 2001 _ hk14 hy hqr2 hqy (by decide)).mono ?_
                        rintro e w17 hq9
                        obtain ⟨nB, nxO, nxL, nxC, nyO, nyL, nyC, rfl, hS, hnx, hny, hn, hb⟩ := hq9.out
                        have HnS := Lib.hid hS; clear hS
                        clear eu0 eu1 eu2 ey0 ey1 ey2
                        replace hbg := hbg.kept hb
                        replace hbu := hbu.kept hb
                        replace hbv := hbv.kept hb
                        replace hbx := hbx.kept hb
                        replace hby := hby.kept hb
                        replace hbz := hbz.kept hb
                        replace hy := hy.below hb
                        replace hz := hz.below hb
                        replace hk14 := hk14.below hb
                        replace hbf := hbf.trans (hb.mono hbf.size)
                        clear hb
                        rw [← hr9] at hn
                        have eu0 := hbu.c0
                        have fu0 := hbu.f0
                        have eu1 := hbu.c1
                        have fu1 := hbu.f1
                        have eu2 := hbu.c2
                        have fu2 := hbu.f2
                        go_wp2_with fail
                        clear eu0 fu0 eu1 fu1 eu2 fu2
                        obtain ⟨w18, hwE⟩ : ∃ W, W = ((w17.setCell ⟨pu, 0, none⟩ (Value.bool nB)).setCell ⟨pu, 1, none⟩ (Value.slice nxO nxL nxC)).setCell ⟨pu, 2, none⟩ (Value.slice nyO nyL nyC) := ⟨_, rfl⟩
                        rw [← hwE]
                        replace hy := hy.set3 (u0 := (Value.bool nB)) (u1 := (Value.slice nxO nxL nxC)) (u2 := (Value.slice nyO nyL nyC)) hbu; rw [← hwE] at hy
                        replace hz := hz.set3 (u0 := (Value.bool nB)) (u1 := (Value.slice nxO nxL nxC)) (u2 := (Value.slice nyO nyL nyC)) hbu; rw [← hwE] at hz
                        replace hk14 := hk14.set3 (u0 := (Value.bool nB)) (u1 := (Value.slice nxO nxL nxC)) (u2 := (Value.slice nyO nyL nyC)) hbu; rw [← hwE] at hk14
                        replace hnx := hnx.set3 (u0 := (Value.bool nB)) (u1 := (Value.slice nxO nxL nxC)) (u2 := (Value.slice nyO nyL nyC)) hbu; rw [← hwE] at hnx
                        replace hny := hny.set3 (u0 := (Value.bool nB)) (u1 := (Value.slice nxO nxL nxC)) (u2 := (Value.slice nyO nyL nyC)) hbu; rw [← hwE] at hny
                        replace hn := hn.set3 (u0 := (Value.bool nB)) (u1 := (Value.slice nxO nxL nxC)) (u2 := (Value.slice nyO nyL nyC)) hbu; rw [← hwE] at hn
                        replace hbg := hbg.set3t (u0 := (Value.bool nB)) (u1 := (Value.slice nxO nxL nxC)) (u2 := (Value.slice nyO nyL nyC)) (show pg ≠ pu by have := HP.out; omega); rw [← hwE] at hbg
                        replace hbv := hbv.set3o (u0 := (Value.bool nB)) (u1 := (Value.slice nxO nxL nxC)) (u2 := (Value.slice nyO nyL nyC)) (show pv ≠ pu by have := HP.out; omega); rw [← hwE] at hbv
                        replace hbx := hbx.set3o (u0 := (Value.bool nB)) (u1 := (Value.slice nxO nxL nxC)) (u2 := (Value.slice nyO nyL nyC)) (show px ≠ pu by have := HP.out; omega); rw [← hwE] at hbx
                        replace hby := hby.set3o (u0 := (Value.bool nB)) (u1 := (Value.slice nxO nxL nxC)) (u2 := (Value.slice nyO nyL nyC)) (show py ≠ pu by have := HP.out; omega); rw [← hwE] at hby
                        replace hbz := hbz.set3o (u0 := (Value.bool nB)) (u1 := (Value.slice nxO nxL nxC)) (u2 := (Value.slice nyO nyL nyC)) (show pz ≠ pu by have := HP.out; omega); rw [← hwE] at hbz
                        replace hbf := below_set3 (u0 := (Value.bool nB)) (u1 := (Value.slice nxO nxL nxC)) (u2 := (Value.slice nyO nyL nyC)) hbf (show w.heap.size ≤ pu by have := HP.out; omega); rw [← hwE] at hbf
                        replace hbu := hbu.set3 (u0 := (Value.bool nB)) (u1 := (Value.slice nxO nxL nxC)) (u2 := (Value.slice nyO nyL nyC)); rw [← hwE] at hbu; clear hwE
                        go_meet
                        case rel => exact ⟨_, _, _, _, _, _, _, hbu, hn, hbg, hbv, hbx, hby, hbz, hz, hbf⟩
                    case rest =>
                      clear hbu hbg hbv hbx hby hbz hz hbf
                      obtain ⟨k16B, k16xO, k16xL, k16xC, k16yO, k16yL, k16yC, hbu, hk16, hbg, hbv, hbx, hby, hbz, hz, hbf⟩ := hcut
                      obtain ⟨w18, hwE⟩ : ∃ W, W = wc := ⟨_, rfl⟩
                      subst hwE
                      obtain ⟨r4, HR4⟩ : ∃ r, Hid (r = tadd r3 co) := ⟨_, Lib.hid rfl⟩
                      have hqr4 : QB r4 6004 := by rw [HR4.out]; exact tadd_qb hqr3 (QB.any co)
                      go_upto_if 92 with fail
                      go_cut [] (fun wx => ∃ (sB : Bool) (xO : Option Addr) (xL xC : Nat) (yO : Option Addr) (yL yC : Nat), Box3 wx pu (.bool sB) (.slice xO xL xC) (.slice yO yL yC) ∧ QIs wx (.agg #[.bool sB, .slice xO xL xC, .slice yO yL yC]) (r4) ∧ Box5 wx pg (Value.string ⟨mn.toArray⟩) (Value.string ⟨mx.toArray⟩) (Value.string ⟨fa.toArray⟩) (Value.string ⟨co.toArray⟩) (Value.int .i64 c) ∧ Box3 wx pv (Value.bool vB) (Value.slice vxO vxL vxC) (Value.slice vyO vyL vyC) ∧ Box3 wx px (Value.bool xB) (Value.slice xxO xxL xxC) (Value.slice xyO xyL xyC) ∧ Box3 wx py (Value.bool yB) (Value.slice yxO yxL yxC) (Value.slice yyO yyL yyC) ∧ Box3 wx pz (Value.bool zB) (Value.slice zxO zxL zxC) (Value.slice zyO zyL zyC) ∧ Below w.heap.size w wx)
                      case first =>
                        cases iz
                        case false =>
                          have hr9 : r4 = r3 := by rw [HR4.out]; exact tadd_no HIz.out.symm
                          rw [← hr9] at hk16
                          go_wp2_with fail
                          go_meet
                          case rel => exact ⟨_, _, _, _, _, _, _, hbu, hk16, hbg, hbv, hbx, hby, hbz, hbf⟩
                        case true =>
                          have hr9 : r4 = r3 + qz := by rw [HR4.out, HQz.out]; exact tadd_yes HIz.out.symm
                          have eu0 := hbu.c0
                          have eu1 := hbu.c1
                          have eu2 := hbu.c2
                          have ez0 := hbz.c0
                          have ez1 := hbz.c1
                          have ez2 := hbz.c2
                          go_wp2_with fail
                          refine (qadd_any _ _ r3 qz 4002 2001 _ hk16 hz hqr3 hqz (by decide)).mono ?_
                          rintro e w19 hq9
                          obtain ⟨nB, nxO, nxL, nxC, nyO, nyL, nyC, rfl, hS, hnx, hny, hn, hb⟩ := hq9.out
                          have HnS := Lib.hid hS; clear hS
                          clear eu0 eu1 eu2 ez0 ez1 ez2
                          replace hbg := hbg.kept hb
                          replace hbu := hbu.kept hb
                          replace hbv := hbv.kept hb
                          replace hbx := hbx.kept hb
                          replace hby := hby.kept hb
                          replace hbz := hbz.kept hb
                          replace hz := hz.below hb
                          replace hk16 := hk16.below hb
                          replace hbf := hbf.trans (hb.mono hbf.size)
                          clear hb
                          rw [← hr9] at hn
                          have eu0 := hbu.c0
                          have fu0 := hbu.f0
                          have eu1 := hbu.c1
                          have fu1 := hbu.f1
                          have eu2 := hbu.c2
                          have fu2 := hbu.f2
                          go_wp2_with fail
                          clear eu0 fu0 eu1 fu1 eu2 fu2
                          obtain ⟨w20, hwE⟩ : ∃ W, W = ((w19.setCell ⟨pu, 0, none⟩ (Value.bool nB)).setCell ⟨pu, 1, none⟩ (Value.slice nxO nxL nxC)).setCell ⟨pu, 2, none⟩ (Value.slice nyO nyL nyC) := ⟨_, rfl⟩
                          rw [← hwE]
                          replace hz := hz.set3 (u0 := (Value.bool nB)) (u1 := (Value.slice nxO nxL nxC)) (u2 := (Value.slice nyO nyL nyC)) hbu; rw [← hwE] at hz
                          replace hk16 := hk16.set3 (u0 := (Value.bool nB)) (u1 := (Value.slice nxO nxL nxC)) (u2 := (Value.slice nyO nyL nyC)) hbu; rw [← hwE] at hk16
                          replace hnx := hnx.set3 (u0 := (Value.bool nB)) (u1 := (Value.slice nxO nxL nxC)) (u2 := (Value.slice nyO nyL nyC)) hbu; rw [← hwE] at hnx
                          replace hny := hny.set3 (u0 := (Value.bool nB)) (u1 := (Value.slice nxO nxL nxC)) (u2 := (Value.slice nyO nyL nyC)) hbu; rw [← hwE] at hny
                          replace hn := hn.set3 (u0 := (Value.bool nB)) (u1 := (Value.slice nxO nxL nxC)) (u2 := (Value.slice nyO nyL nyC)) hbu; rw [← hwE] at hn
                          replace hbg := hbg.set3t (u0 := (Value.bool nB)) (u1 := (Value.slice nxO nxL nxC)) (u2 := (Value.slice nyO nyL nyC)) (show pg ≠ pu by have := HP.out; omega); rw [← hwE] at hbg
                          replace hbv := hbv.set3o (u0 := (Value.bool nB)) (u1 := (Value.slice nxO nxL nxC)) (u2 := (Value.slice nyO nyL nyC)) (show pv ≠ pu by have := HP.out; omega); rw [← hwE] at hbv
                          replace hbx := hbx.set3o (u0 := (Value.bool nB)) (u1 := (Value.slice nxO nxL nxC)) (u2 := (Value.slice nyO nyL nyC)) (show px ≠ pu by have := HP.out; omega); rw [← hwE] at hbx
                          replace hby := hby.set3o (u0 := (Value.bool nB)) (u1 := (Value.slice nxO nxL nxC)) (u2 := (Value.slice nyO nyL nyC)) (show py ≠ pu by have := HP.out; omega); rw [← hwE] at hby
                          replace hbz := hbz.set3o (u0 := (Value.bool nB)) (u1 := (Value.slice nxO nxL nxC)) (u2 := (Value.slice nyO nyL nyC)) (show pz ≠ pu by have := HP.out; omega); rw [← hwE] at hbz
                          replace hbf := below_set3 (u0 := (Value.bool nB)) (u1 := (Value.slice nxO nxL nxC)) (u2 := (Value.slice nyO nyL nyC)) hbf (show w.heap.size ≤ pu by have := HP.out; omega); rw [← hwE] at hbf
                          replace hbu := hbu.set3 (u0 := (Value.bool nB)) (u1 := (Value.slice nxO nxL nxC)) (u2 := (Value.slice nyO nyL nyC)); rw [← hwE] at hbu; clear hwE
                          go_meet
                          case rel => exact ⟨_, _, _, _, _, _, _, hbu, hn, hbg, hbv, hbx, hby, hbz, hbf⟩
                      case rest =>
                        clear hbu hbg hbv hbx hby hbz hbf
                        obtain ⟨k18B, k18xO, k18xL, k18xC, k18yO, k18yL, k18yC, hbu, hk18, hbg, hbv, hbx, hby, hbz, hbf⟩ := hcut
                        obtain ⟨w20, hwE⟩ : ∃ W, W = wc := ⟨_, rfl⟩
                        subst hwE
                        have eg0 := hbg.c0
                        have eg1 := hbg.c1
                        have eg2 := hbg.c2
                        have eg3 := hbg.c3
                        have eg4 := hbg.c4
                        have eu0 := hbu.c0
                        have eu1 := hbu.c1
                        have eu2 := hbu.c2
                        go_wp2_with fail
                        refine (tcast_any c _ r4 6004 _ hk18 hqr4 (by decide) (by decide)).mono ?_
                        rintro e w21 hq9
                        obtain ⟨wB, wxO, wxL, wxC, wyO, wyL, wyC, rfl, hS, hwx, hwy, hw, hb⟩ := hq9.out
                        have HwS := Lib.hid hS; clear hS
                        clear eg0 eg1 eg2 eg3 eg4 eu0 eu1 eu2
                        replace hbg := hbg.kept hb
                        replace hbu := hbu.kept hb
                        replace hbv := hbv.kept hb
                        replace hbx := hbx.kept hb
                        replace hby := hby.kept hb
                        replace hbz := hbz.kept hb
                        replace hk18 := hk18.below hb
                        replace hbf := hbf.trans (hb.mono hbf.size)
                        clear hb
                        have HFI : Hid (tapply mn mx fa co c num = qtext (tcast c r4)) := Lib.hid (by rw [HTA.out, HR4.out, HR3.out, HR2.out, HR1.out]; rfl)
                        go_wp2_with fail
                        refine (qtext_any _ _ _ hw (tcast_qb c hqr4 (by decide))).mono ?_
                        rintro e w22 ⟨rfl, hb⟩
                        replace hbg := hbg.kept hb
                        replace hbu := hbu.kept hb
                        replace hbv := hbv.kept hb
                        replace hbx := hbx.kept hb
                        replace hby := hby.kept hb
                        replace hbz := hbz.kept hb
                        replace hk18 := hk18.below hb
                        replace hwx := hwx.below hb
                        replace hwy := hwy.below hb
                        replace hw := hw.below hb
                        replace hbf := hbf.trans (hb.mono hbf.size)
                        clear hb
                        go_wp2_with fail
                        go_ret
                        exact ⟨ret_one (by rw [HFI.out]; rfl), hbf⟩

end Go.Proofs.YtnajnbgjmgkcoaaGreatDoor
