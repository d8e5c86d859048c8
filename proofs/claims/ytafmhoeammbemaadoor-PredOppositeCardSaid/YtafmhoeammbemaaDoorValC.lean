import Derived.Test.YtafmhoeammbemaaDoorValB
import Derived.Test.YtafmhoeammbemaaDoorRefU
import Derived.Test.YtafmhoeammbemaaDoorOpenV
import Derived.Deep.DeepCutAuto
import Derived.WalkMore
import Derived.Laws.StructEq
namespace Go.Proofs.YtafmhoeammbemaaDoor
open Go.RowKit
set_option linter.unusedVariables false
set_option linter.unusedSimpArgs false
attribute [local go_sem] field_nat
def RNPost (w : World) (q : Rat) (b : Bool) (e : Ending) (w' : World) : Prop := ∃ r, e = .returned (.tuple #[r, .bool b]) ∧ RQIs w' r q ∧ Below w.heap.size w w'
theorem RNPost.out {w w' : World} {q : Rat} {b : Bool} {e : Ending} (h : RNPost w q b e w') : ∃ s xo xl xc yo yl yc, e = .returned (.tuple #[.agg #[.bool s, .slice xo xl xc, .slice yo yl yc], .bool b]) ∧ s = decide (q < 0) ∧ RIs w' (.slice xo xl xc) q.num.natAbs ∧ RIs w' (.slice yo yl yc) q.den ∧ RQIs w' (.agg #[.bool s, .slice xo xl xc, .slice yo yl yc]) q ∧ Below w.heap.size w w' := by
  obtain ⟨r, rfl, hq, hb⟩ := h
  obtain ⟨s, xo, xl, xc, yo, yl, yc, rfl, h1, h2, h3⟩ := hq.form
  exact ⟨_, _, _, _, _, _, _, rfl, h1, h2, h3, hq, hb⟩
section
variable {fn : Func} {s : Nat} {act : Act} {w w9 : World} {b : Nat} {s0 : Bool} {o1 o2 : Option Addr} {l1 l2 c1 c2 : Nat} {u0 u1 u2 : Value} {q : Rat}
theorem end_rb {t : Nat} {c : Bool} (hres : fn.results = #[.cell s 38, .tmp t]) (hp : act.tmps.getD s undef = .pointer (some ⟨b, 0, none⟩)) (hu : act.tmps.getD t undef = .bool c) (hd : act.defers = []) (hb : Box3 w9 b (.bool s0) (.slice o1 l1 c1) (.slice o2 l2 c2)) (hge : w.heap.size ≤ b) (hq : RQIs w9 (.agg #[u0, u1, u2]) q) (hB : Below w.heap.size w w9) :
    bodyPost Tryd.prog fn (RNPost w q c) .ret act (((w9.setCell ⟨b, 0, none⟩ u0).setCell ⟨b, 1, none⟩ u1).setCell ⟨b, 2, none⟩ u2) :=
  ret_rrat_tmp hres hp hu hb.set3 hd ⟨_, rfl, hq.set3 hb, below_set3 hB hge⟩
end
theorem rqtext_t9 (va : Value) (a : Rat) (T : List UInt8) (w : World) (ha : RQIs w va a) (hla : QB a 30000) (hT : Hid (T = qtext a)) :
    Calls Tryd.prog 31 #[va] w fun e w' => e = .returned (.string ⟨T.toArray⟩) ∧ Below w.heap.size w w' := by
  rw [hT.out]; exact rqtext_any va a w ha hla
set_option maxRecDepth 100000 in
set_option maxHeartbeats 1000000 in
/-- Num. -/
theorem rvnum_q (k : Int) (n c : List UInt8) (q : Rat) (b : Bool) (w : World) (HB : Hid (b = vnum k n c)) (HQ : Hid (q = qval n)) (hn : n.length ≤ 1000000) : Calls Tryd.prog 12 #[valV k n c] w (RNPost w q b) := by
  obtain ⟨w0, hw0⟩ : ∃ w0, w0 = ((w.alloc (.cells #[.int .i64 k, .string ⟨n.toArray⟩, .string ⟨c.toArray⟩] 23)).alloc (.cells #[.bool false, .slice none 0 0, .slice none 0 0] 38)) := ⟨_, rfl⟩
  have hbf : Below w.heap.size w w0 := by rw [hw0]; exact (((Below.refl _ w).alloc (Nat.le_refl _) _).alloc (by simp <;> omega) _)
  obtain ⟨pv, hpv⟩ : ∃ p, p = w.heap.size := ⟨_, rfl⟩
  have hbv : Box3 w0 pv (Value.int .i64 k) (Value.string ⟨n.toArray⟩) (Value.string ⟨c.toArray⟩) := by rw [hw0, hpv]; exact ⟨by go_simp, by go_simp, by go_simp, by go_simp, by go_simp, by go_simp⟩
  obtain ⟨pr, hpr⟩ : ∃ p, p = w.heap.size + 1 := ⟨_, rfl⟩
  have hbr : Box3 w0 pr (Value.bool false) (Value.slice none 0 0) (Value.slice none 0 0) := by rw [hw0, hpr]; exact ⟨by go_simp, by go_simp, by go_simp, by go_simp, by go_simp, by go_simp⟩
  have HP : Hid (w.heap.size ≤ pv ∧ pv < pr) := Lib.hid (by omega)
  have HW := Lib.hid hw0; clear hw0
  go_enter Tryd.func12, Tryd.ntmps12
  go_upto_region 1 with fail
  rw [← HW.out, ← hpr, ← hpv]
  clear hpv hpr HW
  obtain ⟨cd, hcd⟩ : ∃ d, d = qcode n := ⟨_, rfl⟩
  have HCD := Lib.hid hcd
  clear hcd
  have ev0 := hbv.c0
  have ev1 := hbv.c1
  have ev2 := hbv.c2
  go_wp2_with fail
  refine (rqparse_main n _ q cd HQ HCD (by omega)).mono ?_
  rintro e w1 hq9
  obtain ⟨aB, axO, axL, axC, ayO, ayL, ayC, rfl, hS, hax, hay, ha, hb⟩ := hq9.out
  have HaS := Lib.hid hS; clear hS
  clear ev0 ev1 ev2
  replace hbv := hbv.kept hb
  replace hbr := hbr.kept hb
  replace hbf := hbf.trans (hb.mono hbf.size)
  clear hb
  obtain ⟨w2, hwE⟩ : ∃ W, W = (w1.alloc (.cells #[.bool aB, .slice axO axL axC, .slice ayO ayL ayC] 38)) := ⟨_, rfl⟩
  have hb : Below w1.heap.size w1 w2 := by rw [hwE]; exact ((Below.refl _ w1).alloc (Nat.le_refl _) _)
  obtain ⟨pa, hpa⟩ : ∃ p, p = w1.heap.size := ⟨_, rfl⟩
  have hba : Box3 w2 pa (Value.bool aB) (Value.slice axO axL axC) (Value.slice ayO ayL ayC) := by rw [hwE, hpa]; exact ⟨by go_simp, by go_simp, by go_simp, by go_simp, by go_simp, by go_simp⟩
  replace HP : Hid (w.heap.size ≤ pv ∧ pv < pr ∧ pr < pa) := Lib.hid (by have h1 := HP.out; have h9 := hbf.size; have h2r := hbr.lt; omega)
  have HW := Lib.hid hwE; clear hwE
  go_upto_region 2 with fail
  rw [← HW.out, ← hpa]
  clear hpa HW
  replace hbv := hbv.kept hb
  replace hbr := hbr.kept hb
  replace hax := hax.below hb
  replace hay := hay.below hb
  replace ha := ha.below hb
  replace hbf := hbf.trans (hb.mono hbf.size)
  clear hb
  by_cases hk : k = 1
  case neg =>
    have hkb : (k == 1) = false := by rw [beq_eq_false_iff_ne]; exact hk
    obtain rfl : b = false := by rw [HB.out]; unfold vnum; simp [hk]
    have ev0 := hbv.c0
    have ev1 := hbv.c1
    have ev2 := hbv.c2
    have ea0 := hba.c0
    have ea1 := hba.c1
    have ea2 := hba.c2
    have er0 := hbr.c0
    have fr0 := hbr.f0
    have er1 := hbr.c1
    have fr1 := hbr.f1
    have er2 := hbr.c2
    have fr2 := hbr.f2
    go_wp2_with fail
    exact end_rb rfl rfl rfl rfl hbr (show w.heap.size ≤ pr by have := HP.out; omega) ha hbf
  case pos =>
    subst hk
    by_cases hc : c = []
    case neg =>
      have hcb := nilb hc
      obtain rfl : b = false := by rw [HB.out]; unfold vnum; simp [hc]
      have ev0 := hbv.c0
      have ev1 := hbv.c1
      have ev2 := hbv.c2
      have ea0 := hba.c0
      have ea1 := hba.c1
      have ea2 := hba.c2
      have er0 := hbr.c0
      have fr0 := hbr.f0
      have er1 := hbr.c1
      have fr1 := hbr.f1
      have er2 := hbr.c2
      have fr2 := hbr.f2
      go_wp2_with fail
      exact end_rb rfl rfl rfl rfl hbr (show w.heap.size ≤ pr by have := HP.out; omega) ha hbf
    case pos =>
      subst hc
      have hbd : (cd == 0) = b := by rw [HB.out, HCD.out]; unfold vnum; by_cases h9 : qcode n = 0 <;> simp [h9]
      have ev0 := hbv.c0
      have ev1 := hbv.c1
      have ev2 := hbv.c2
      have ea0 := hba.c0
      have ea1 := hba.c1
      have ea2 := hba.c2
      have er0 := hbr.c0
      have fr0 := hbr.f0
      have er1 := hbr.c1
      have fr1 := hbr.f1
      have er2 := hbr.c2
      have fr2 := hbr.f2
      go_wp2_with fail
      exact end_rb rfl rfl rfl rfl hbr (show w.heap.size ≤ pr by have := HP.out; omega) ha hbf
set_option maxRecDepth 100000 in
set_option maxHeartbeats 1000000 in
/-- Valid. -/
theorem rvvalid_b (k : Int) (n c : List UInt8) (b : Bool) (w : World) (HB : Hid (b = vvalid k n c)) (hnl : n.length ≤ 1000000) : Calls Tryd.prog 6 #[valV k n c] w fun e w' => e = .returned (.bool b) ∧ Below w.heap.size w w' := by
  obtain ⟨w0, hw0⟩ : ∃ w0, w0 = (w.alloc (.cells #[.int .i64 k, .string ⟨n.toArray⟩, .string ⟨c.toArray⟩] 23)) := ⟨_, rfl⟩
  have hbf : Below w.heap.size w w0 := by rw [hw0]; exact ((Below.refl _ w).alloc (Nat.le_refl _) _)
  obtain ⟨pv, hpv⟩ : ∃ p, p = w.heap.size := ⟨_, rfl⟩
  have hbv : Box3 w0 pv (Value.int .i64 k) (Value.string ⟨n.toArray⟩) (Value.string ⟨c.toArray⟩) := by rw [hw0, hpv]; exact ⟨by go_simp, by go_simp, by go_simp, by go_simp, by go_simp, by go_simp⟩
  have HP : Hid (w.heap.size ≤ pv) := Lib.hid (by omega)
  have HW := Lib.hid hw0; clear hw0
  go_enter Tryd.func6, Tryd.ntmps6
  go_upto_region 1 with fail
  rw [← HW.out, ← hpv]
  clear hpv HW
  by_cases hk0 : k = 0
  case pos =>
    subst hk0
    by_cases hn : n = []
    case pos =>
      subst hn
      by_cases hc : c = []
      case pos =>
        subst hc
        have ev0 := hbv.c0
        have ev1 := hbv.c1
        have ev2 := hbv.c2
        go_wp2_with fail
        go_ret
        exact ⟨ret_one (congrArg Value.bool (by rw [HB.out]; rfl)), hbf⟩
      case neg =>
        have hcb := nilb hc
        have ev0 := hbv.c0
        have ev1 := hbv.c1
        have ev2 := hbv.c2
        go_wp2_with fail
        go_ret
        exact ⟨ret_one (congrArg Value.bool (by rw [HB.out]; unfold vvalid; simp [hc])), hbf⟩
    case neg =>
      have hnb := nilb hn
      have ev0 := hbv.c0
      have ev1 := hbv.c1
      have ev2 := hbv.c2
      go_wp2_with fail
      go_ret
      exact ⟨ret_one (congrArg Value.bool (by rw [HB.out]; unfold vvalid; simp [hn])), hbf⟩
  case neg =>
    have hkb0 : (k == 0) = false := by rw [beq_eq_false_iff_ne]; exact hk0
    by_cases hk1 : k = 1
    case pos =>
      subst hk1
      clear hkb0
      have HB2 : Hid (b = vnum 1 n c) := Lib.hid (by rw [HB.out]; rfl)
      obtain ⟨q, hq⟩ : ∃ q, q = qval n := ⟨_, rfl⟩
      have HQ := Lib.hid hq
      clear hq
      have ev0 := hbv.c0
      have ev1 := hbv.c1
      have ev2 := hbv.c2
      go_wp2_with fail
      refine (rvnum_q 1 n c q b _ HB2 HQ hnl).mono ?_
      rintro e w1 hq9
      obtain ⟨aB, axO, axL, axC, ayO, ayL, ayC, rfl, hS, hax, hay, ha, hb⟩ := hq9.out
      have HaS := Lib.hid hS; clear hS
      clear ev0 ev1 ev2
      replace hbv := hbv.kept hb
      replace hbf := hbf.trans (hb.mono hbf.size)
      clear hb
      obtain ⟨w2, hwE⟩ : ∃ W, W = (w1.alloc (.cells #[.bool aB, .slice axO axL axC, .slice ayO ayL ayC] 38)) := ⟨_, rfl⟩
      have hb : Below w1.heap.size w1 w2 := by rw [hwE]; exact ((Below.refl _ w1).alloc (Nat.le_refl _) _)
      obtain ⟨pa, hpa⟩ : ∃ p, p = w1.heap.size := ⟨_, rfl⟩
      have hba : Box3 w2 pa (Value.bool aB) (Value.slice axO axL axC) (Value.slice ayO ayL ayC) := by rw [hwE, hpa]; exact ⟨by go_simp, by go_simp, by go_simp, by go_simp, by go_simp, by go_simp⟩
      replace HP : Hid (w.heap.size ≤ pv ∧ pv < pa) := Lib.hid (by have h1 := HP.out; have h9 := hbf.size; have h2v := hbv.lt; omega)
      have HW := Lib.hid hwE; clear hwE
      go_upto_region 6 with fail
      rw [← HW.out, ← hpa]
      clear hpa HW
      replace hbv := hbv.kept hb
      replace hax := hax.below hb
      replace hay := hay.below hb
      replace ha := ha.below hb
      replace hbf := hbf.trans (hb.mono hbf.size)
      clear hb
      go_wp2_with fail
      go_ret
      exact ⟨rfl, hbf⟩
    case neg =>
      have hkb1 : (k == 1) = false := by rw [beq_eq_false_iff_ne]; exact hk1
      by_cases hk2 : k = 2
      case pos =>
        subst hk2
        clear hkb0 hkb1
        by_cases hn : n = []
        case pos =>
          subst hn
          by_cases hcl : c.length ≤ 60
          case pos =>
            have hci : ((c.length : Nat) : Int) ≤ 60 := by omega
            have ev0 := hbv.c0
            have ev1 := hbv.c1
            have ev2 := hbv.c2
            go_wp2_with fail
            go_ret
            exact ⟨ret_one (congrArg Value.bool (by rw [HB.out]; unfold vvalid; simp [hcl])), hbf⟩
          case neg =>
            have hci : ¬ ((c.length : Nat) : Int) ≤ 60 := by omega
            have ev0 := hbv.c0
            have ev1 := hbv.c1
            have ev2 := hbv.c2
            go_wp2_with fail
            go_ret
            exact ⟨ret_one (congrArg Value.bool (by rw [HB.out]; unfold vvalid; simp [hcl])), hbf⟩
        case neg =>
          have hnb := nilb hn
          have ev0 := hbv.c0
          have ev1 := hbv.c1
          have ev2 := hbv.c2
          go_wp2_with fail
          go_ret
          exact ⟨ret_one (congrArg Value.bool (by rw [HB.out]; unfold vvalid; simp [hn])), hbf⟩
      case neg =>
        have hkb2 : (k == 2) = false := by rw [beq_eq_false_iff_ne]; exact hk2
        have ev0 := hbv.c0
        have ev1 := hbv.c1
        have ev2 := hbv.c2
        go_wp2_with fail
        go_ret
        exact ⟨ret_one (congrArg Value.bool (by rw [HB.out]; unfold vvalid vnum; simp [hk0, hk1, hk2])), hbf⟩
set_option maxRecDepth 100000 in
set_option maxHeartbeats 1000000 in
/-- Same. -/
theorem vsame_b (k k2 : Int) (n c n2 c2 : List UInt8) (b : Bool) (w : World) (HB : Hid (b = (decide (k = k2) && (decide (n = n2) && decide (c = c2))))) : Calls Tryd.prog 26 #[valV k n c, valV k2 n2 c2] w fun e w' => e = .returned (.bool b) ∧ Below w.heap.size w w' := by
  obtain ⟨w0, hw0⟩ : ∃ w0, w0 = ((w.alloc (.cells #[.int .i64 k, .string ⟨n.toArray⟩, .string ⟨c.toArray⟩] 23)).alloc (.cells #[.int .i64 k2, .string ⟨n2.toArray⟩, .string ⟨c2.toArray⟩] 23)) := ⟨_, rfl⟩
  have hbf : Below w.heap.size w w0 := by rw [hw0]; exact (((Below.refl _ w).alloc (Nat.le_refl _) _).alloc (by simp <;> omega) _)
  obtain ⟨pv, hpv⟩ : ∃ p, p = w.heap.size := ⟨_, rfl⟩
  have hbv : Box3 w0 pv (Value.int .i64 k) (Value.string ⟨n.toArray⟩) (Value.string ⟨c.toArray⟩) := by rw [hw0, hpv]; exact ⟨by go_simp, by go_simp, by go_simp, by go_simp, by go_simp, by go_simp⟩
  obtain ⟨pu, hpu⟩ : ∃ p, p = w.heap.size + 1 := ⟨_, rfl⟩
  have hbu : Box3 w0 pu (Value.int .i64 k2) (Value.string ⟨n2.toArray⟩) (Value.string ⟨c2.toArray⟩) := by rw [hw0, hpu]; exact ⟨by go_simp, by go_simp, by go_simp, by go_simp, by go_simp, by go_simp⟩
  have HP : Hid (w.heap.size ≤ pv ∧ pv < pu) := Lib.hid (by omega)
  have HW := Lib.hid hw0; clear hw0
  go_enter Tryd.func26, Tryd.ntmps26
  go_upto_region 1 with fail
  rw [← HW.out, ← hpu, ← hpv]
  clear hpv hpu HW
  by_cases hk : k = k2
  case neg =>
    have hkb : (k == k2) = false := by rw [beq_eq_false_iff_ne]; exact hk
    have ev0 := hbv.c0
    have ev1 := hbv.c1
    have ev2 := hbv.c2
    have eu0 := hbu.c0
    have eu1 := hbu.c1
    have eu2 := hbu.c2
    go_wp2_with fail
    go_ret
    exact ⟨ret_one (congrArg Value.bool (by rw [HB.out]; simp [hk])), hbf⟩
  case pos =>
    subst hk
    by_cases hn : n = n2
    case neg =>
      have hnb : (n == n2) = false := by rw [beq_eq_false_iff_ne]; exact hn
      have ev0 := hbv.c0
      have ev1 := hbv.c1
      have ev2 := hbv.c2
      have eu0 := hbu.c0
      have eu1 := hbu.c1
      have eu2 := hbu.c2
      go_wp2_with fail
      go_ret
      exact ⟨ret_one (congrArg Value.bool (by rw [HB.out]; simp [hn])), hbf⟩
    case pos =>
      subst hn
      by_cases hc : c = c2
      case neg =>
        have hcb : (c == c2) = false := by rw [beq_eq_false_iff_ne]; exact hc
        have ev0 := hbv.c0
        have ev1 := hbv.c1
        have ev2 := hbv.c2
        have eu0 := hbu.c0
        have eu1 := hbu.c1
        have eu2 := hbu.c2
        go_wp2_with fail
        go_ret
        exact ⟨ret_one (congrArg Value.bool (by rw [HB.out]; simp [hc])), hbf⟩
      case pos =>
        subst hc
        have ev0 := hbv.c0
        have ev1 := hbv.c1
        have ev2 := hbv.c2
        have eu0 := hbu.c0
        have eu1 := hbu.c1
        have eu2 := hbu.c2
        go_wp2_with fail
        go_ret
        exact ⟨ret_one (congrArg Value.bool (by rw [HB.out]; simp)), hbf⟩
end Go.Proofs.YtafmhoeammbemaaDoor
