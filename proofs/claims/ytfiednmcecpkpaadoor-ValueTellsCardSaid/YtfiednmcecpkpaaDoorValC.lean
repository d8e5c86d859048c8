/-
  Values: the document's Num, Valid, Text, Parse; Same.
-/
import Derived.Test.YtfiednmcecpkpaaDoorValB
import Derived.Test.YtfiednmcecpkpaaDoorRefU
import Derived.Test.YtfiednmcecpkpaaDoorOpenV
import Derived.Deep.DeepCutAuto
import Derived.WalkMore
import Derived.Laws.StructEq
namespace Go.Proofs.YtfiednmcecpkpaaDoor
open Go.RowKit
set_option linter.unusedVariables false
set_option linter.unusedSimpArgs false
attribute [local go_sem] field_nat

def RNPost (w : World) (q : Rat) (b : Bool) (e : Ending) (w' : World) : Prop := ∃ r, e = .returned (.tuple #[r, .bool b]) ∧ RQIs w' r q ∧ Below w.heap.size w w'
theorem RNPost.out {w w' : World} {q : Rat} {b : Bool} {e : Ending} (h : RNPost w q b e w') : ∃ s xo xl xc yo yl yc, e = .returned (.tuple #[.agg #[.bool s, .slice xo xl xc, .slice yo yl yc], .bool b]) ∧ s = decide (q < 0) ∧ RIs w' (.slice xo xl xc) q.num.natAbs ∧ RIs w' (.slice yo yl yc) q.den ∧ RQIs w' (.agg #[.bool s, .slice xo xl xc, .slice yo yl yc]) q ∧ Below w.heap.size w w' := by
  obtain ⟨r, rfl, hq, hb⟩ := h
  obtain ⟨s, xo, xl, xc, yo, yl, yc, rfl, h1, h2, h3⟩ := hq.form
  exact ⟨_, _, _, _, _, _, _, rfl, h1, h2, h3, hq, hb⟩
section
variable {fn : Func} {s : Nat} {act : Act} {w w9 : World} {b : Nat} {s0 : Bool} {o1 o2 : Option Addr} {l1 l2 c1 c2 : Nat} {u0 u1 u2 : Value} {q : Rat}
theorem end_rb {t : Nat} {c : Bool} (hres : fn.results = #[.cell s 51, .tmp t]) (hp : act.tmps.getD s undef = .pointer (some ⟨b, 0, none⟩)) (hu : act.tmps.getD t undef = .bool c) (hd : act.defers = []) (hb : Box3 w9 b (.bool s0) (.slice o1 l1 c1) (.slice o2 l2 c2)) (hge : w.heap.size ≤ b) (hq : RQIs w9 (.agg #[u0, u1, u2]) q) (hB : Below w.heap.size w w9) :
    bodyPost Tryd.prog fn (RNPost w q c) .ret act (((w9.setCell ⟨b, 0, none⟩ u0).setCell ⟨b, 1, none⟩ u1).setCell ⟨b, 2, none⟩ u2) :=
  ret_rrat_tmp hres hp hu hb.set3 hd ⟨_, rfl, hq.set3 hb, below_set3 hB hge⟩
end
theorem rqtext_t9 (va : Value) (a : Rat) (T : List UInt8) (w : World) (ha : RQIs w va a) (hla : QB a 30000) (hT : Hid (T = qtext a)) :
    Calls Tryd.prog 19 #[va] w fun e w' => e = .returned (.string ⟨T.toArray⟩) ∧ Below w.heap.size w w' := by
  rw [hT.out]; exact rqtext_any va a w ha hla

set_option maxRecDepth 100000 in
set_option maxHeartbeats 1000000 in
/-- Num. -/
theorem rvnum_q (k : Int) (n c : List UInt8) (q : Rat) (b : Bool) (w : World) (HB : Hid (b = vnum k n c)) (HQ : Hid (q = qval n)) (hn : n.length ≤ 1000000) : Calls Tryd.prog 17 #[valV k n c] w (RNPost w q b) := by
  obtain ⟨w0, hw0⟩ : ∃ w0, w0 = ((w.alloc (.cells #[.int .i64 k, .string ⟨n.toArray⟩, .string ⟨c.toArray⟩] 23)).alloc (.cells #[.bool false, .slice none 0 0, .slice none 0 0] 51)) := ⟨_, rfl⟩
  have hbf : Below w.heap.size w w0 := by rw [hw0]; exact (((Below.refl _ w).alloc (Nat.le_refl _) _).alloc (by simp <;> omega) _)
  obtain ⟨pv, hpv⟩ : ∃ p, p = w.heap.size := ⟨_, rfl⟩
  have hbv : Box3 w0 pv (Value.int .i64 k) (Value.string ⟨n.toArray⟩) (Value.string ⟨c.toArray⟩) := by rw [hw0, hpv]; exact ⟨by go_simp, by go_simp, by go_simp, by go_simp, by go_simp, by go_simp⟩
  obtain ⟨pr, hpr⟩ : ∃ p, p = w.heap.size + 1 := ⟨_, rfl⟩
  have hbr : Box3 w0 pr (Value.bool false) (Value.slice none 0 0) (Value.slice none 0 0) := by rw [hw0, hpr]; exact ⟨by go_simp, by go_simp, by go_simp, by go_simp, by go_simp, by go_simp⟩
  have HP : Hid (w.heap.size ≤ pv ∧ pv < pr) := Lib.hid (by omega)
  have HW := Lib.hid hw0; clear hw0
  go_enter Tryd.func17, Tryd.ntmps17
  go_upto_region 1 with fail
  rw [← HW.out, ← hpr, ← hpv]
  clear hpv hpr HW
  obtain ⟨cd, hcd⟩ : ∃ d, d = qcode n := ⟨_, rfl⟩
  have HCD := Lib.hid hcd
  clear hcd
  have ev0 := hbv.c0
  have ev1 := hbv.c1
  have ev2 := hbv.c2
  go_wp2_with fail
  refine (rqparse_main n _ q cd HQ HCD (by omega)).mono ?_
  rintro e w1 hq9
  obtain ⟨aB, axO, axL, axC, ayO, ayL, ayC, rfl, hS, hax, hay, ha, hb⟩ := hq9.out
  have HaS := Lib.hid hS; clear hS
  clear ev0 ev1 ev2
  replace hbv := hbv.kept hb
  replace hbr := hbr.kept hb
  replace hbf := hbf.trans (hb.mono hbf.size)
  clear hb
  obtain ⟨w2, hwE⟩ : ∃ W, W = (w1.alloc (.cells #[.bool aB, .slice axO axL axC, .slice ayO ayL ayC] 51)) := ⟨_, rfl⟩
  have hb : Below w1.heap.size w1 w2 := by rw [hwE]; exact ((Below.refl _ w1).alloc (Nat.le_refl _) _)
  obtain ⟨pa, hpa⟩ : ∃ p, p = w1.heap.size := ⟨_, rfl⟩
  have hba : Box3 w2 pa (Value.bool aB) (Value.slice axO axL axC) (Value.slice ayO ayL ayC) := by rw [hwE, hpa]; exact ⟨by go_simp, by go_simp, by go_simp, by go_simp, by go_simp, by go_simp⟩
  replace HP : Hid (w.heap.size ≤ pv ∧ pv < pr ∧ pr < pa) := Lib.hid (by have h1 := HP.out; have h9 := hbf.size; have h2r := hbr.lt; omega)
  have HW := Lib.hid hwE; clear hwE
  go_upto_region 2 with fail
  rw [← HW.out, ← hpa]
  clear hpa HW
  replace hbv := hbv.kept hb
  replace hbr := hbr.kept hb
  replace hax := hax.below hb
  replace hay := hay.below hb
  replace ha := ha.below hb
  replace hbf := hbf.trans (hb.mono hbf.size)
  clear hb
  by_cases hk : k = 1
  case neg =>
    have hkb : (k == 1) = false := by rw [beq_eq_false_iff_ne]; exact hk
    obtain rfl : b = false := by rw [HB.out]; unfold vnum; simp [hk]
    have ev0 := hbv.c0
    have ev1 := hbv.c1
    have ev2 := hbv.c2
    have ea0 := hba.c0
    have ea1 := hba.c1
    have ea2 := hba.c2
    have er0 := hbr.c0
    have fr0 := hbr.f0
    have er1 := hbr.c1
    have fr1 := hbr.f1
    have er2 := hbr.c2
    have fr2 := hbr.f2
    go_wp2_with fail
    exact end_rb rfl rfl rfl rfl hbr (show w.heap.size ≤ pr by have := HP.out; omega) ha hbf
  case pos =>
    subst hk
    by_cases hc : c = []
    case neg =>
      have hcb := nilb hc
      obtain rfl : b = false := by rw [HB.out]; unfold vnum; simp [hc]
      have ev0 := hbv.c0
      have ev1 := hbv.c1
      have ev2 := hbv.c2
      have ea0 := hba.c0
      have ea1 := hba.c1
      have ea2 := hba.c2
      have er0 := hbr.c0
      have fr0 := hbr.f0
      have er1 := hbr.c1
      have fr1 := hbr.f1
      have er2 := hbr.c2
      have fr2 := hbr.f2
      go_wp2_with fail
      exact end_rb rfl rfl rfl rfl hbr (show w.heap.size ≤ pr by have := HP.out; omega) ha hbf
    case pos =>
      subst hc
      have hbd : (cd == 0) = b := by rw [HB.out, HCD.out]; unfold vnum; by_cases h9 : qcode n = 0 <;> simp [h9]
      have ev0 := hbv.c0
      have ev1 := hbv.c1
      have ev2 := hbv.c2
      have ea0 := hba.c0
      have ea1 := hba.c1
      have ea2 := hba.c2
      have er0 := hbr.c0
      have fr0 := hbr.f0
      have er1 := hbr.c1
      have fr1 := hbr.f1
      have er2 := hbr.c2
      have fr2 := hbr.f2
      go_wp2_with fail
      exact end_rb rfl rfl rfl rfl hbr (show w.heap.size ≤ pr by have := HP.out; omega) ha hbf

set_option maxRecDepth 100000 in
set_option maxHeartbeats 1000000 in
/-- Valid. -/
theorem rvvalid_b (k : Int) (n c : List UInt8) (b : Bool) (w : World) (HB : Hid (b = vvalid k n c)) (hnl : n.length ≤ 1000000) : Calls Tryd.prog 8 #[valV k n c] w fun e w' => e = .returned (.bool b) ∧ Below w.heap.size w w' := by
  obtain ⟨w0, hw0⟩ : ∃ w0, w0 = (w.alloc (.cells #[.int .i64 k, .string ⟨n.toArray⟩, .string ⟨c.toArray⟩] 23)) := ⟨_, rfl⟩
  have hbf : Below w.heap.size w w0 := by rw [hw0]; exact ((Below.refl _ w).alloc (Nat.le_refl _) _)
  obtain ⟨pv, hpv⟩ : ∃ p, p = w.heap.size := ⟨_, rfl⟩
  have hbv : Box3 w0 pv (Value.int .i64 k) (Value.string ⟨n.toArray⟩) (Value.string ⟨c.toArray⟩) := by rw [hw0, hpv]; exact ⟨by go_simp, by go_simp, by go_simp, by go_simp, by go_simp, by go_simp⟩
  have HP : Hid (w.heap.size ≤ pv) := Lib.hid (by omega)
  have HW := Lib.hid hw0; clear hw0
  go_enter Tryd.func8, Tryd.ntmps8
  go_upto_region 1 with fail
  rw [← HW.out, ← hpv]
  clear hpv HW
  by_cases hk0 : k = 0
  case pos =>
    subst hk0
    by_cases hn : n = []
    case pos =>
      subst hn
      by_cases hc : c = []
      case pos =>
        subst hc
        have ev0 := hbv.c0
        have ev1 := hbv.c1
        have ev2 := hbv.c2
        go_wp2_with fail
        go_ret
        exact ⟨ret_one (congrArg Value.bool (by rw [HB.out]; rfl)), hbf⟩
      case neg =>
        have hcb := nilb hc
        have ev0 := hbv.c0
        have ev1 := hbv.c1
        have ev2 := hbv.c2
        go_wp2_with fail
        go_ret
        exact ⟨ret_one (congrArg Value.bool (by rw [HB.out]; unfold vvalid; simp [hc])), hbf⟩
    case neg =>
      have hnb := nilb hn
      have ev0 := hbv.c0
      have ev1 := hbv.c1
      have ev2 := hbv.c2
      go_wp2_with fail
      go_ret
      exact ⟨ret_one (congrArg Value.bool (by rw [HB.out]; unfold vvalid; simp [hn])), hbf⟩
  case neg =>
    have hkb0 : (k == 0) = false := by rw [beq_eq_false_iff_ne]; exact hk0
    by_cases hk1 : k = 1
    case pos =>
      subst hk1
      clear hkb0
      have HB2 : Hid (b = vnum 1 n c) := Lib.hid (by rw [HB.out]; rfl)
      obtain ⟨q, hq⟩ : ∃ q, q = qval n := ⟨_, rfl⟩
      have HQ := Lib.hid hq
      clear hq
      have ev0 := hbv.c0
      have ev1 := hbv.c1
      have ev2 := hbv.c2
      go_wp2_with fail
      refine (rvnum_q 1 n c q b _ HB2 HQ hnl).mono ?_
      rintro e w1 hq9
      obtain ⟨aB, axO, axL, axC, ayO, ayL, ayC, rfl, hS, hax, hay, ha, hb⟩ := hq9.out
      have HaS := Lib.hid hS; clear hS
      clear ev0 ev1 ev2
      replace hbv := hbv.kept hb
      replace hbf := hbf.trans (hb.mono hbf.size)
      clear hb
      obtain ⟨w2, hwE⟩ : ∃ W, W = (w1.alloc (.cells #[.bool aB, .slice axO axL axC, .slice ayO ayL ayC] 51)) := ⟨_, rfl⟩
      have hb : Below w1.heap.size w1 w2 := by rw [hwE]; exact ((Below.refl _ w1).alloc (Nat.le_refl _) _)
      obtain ⟨pa, hpa⟩ : ∃ p, p = w1.heap.size := ⟨_, rfl⟩
      have hba : Box3 w2 pa (Value.bool aB) (Value.slice axO axL axC) (Value.slice ayO ayL ayC) := by rw [hwE, hpa]; exact ⟨by go_simp, by go_simp, by go_simp, by go_simp, by go_simp, by go_simp⟩
      replace HP : Hid (w.heap.size ≤ pv ∧ pv < pa) := Lib.hid (by have h1 := HP.out; have h9 := hbf.size; have h2v := hbv.lt; omega)
      have HW := Lib.hid hwE; clear hwE
      go_upto_region 6 with fail
      rw [← HW.out, ← hpa]
      clear hpa HW
      replace hbv := hbv.kept hb
      replace hax := hax.below hb
      replace hay := hay.below hb
      replace ha := ha.below hb
      replace hbf := hbf.trans (hb.mono hbf.size)
      clear hb
      go_wp2_with fail
      go_ret
      exact ⟨rfl, hbf⟩
    case neg =>
      have hkb1 : (k == 1) = false := by rw [beq_eq_false_iff_ne]; exact hk1
      by_cases hk2 : k = 2
      case pos =>
        subst hk2
        clear hkb0 hkb1
        by_cases hn : n = []
        case pos =>
          subst hn
          by_cases hcl : c.length ≤ 60
          case pos =>
            have hci : ((c.length : Nat) : Int) ≤ 60 := by omega
            have ev0 := hbv.c0
            have ev1 := hbv.c1
            have ev2 := hbv.c2
            go_wp2_with fail
            go_ret
            exact ⟨ret_one (congrArg Value.bool (by rw [HB.out]; unfold vvalid; simp [hcl])), hbf⟩
          case neg =>
            have hci : ¬ ((c.length : Nat) : Int) ≤ 60 := by omega
            have ev0 := hbv.c0
            have ev1 := hbv.c1
            have ev2 := hbv.c2
            go_wp2_with fail
            go_ret
            exact ⟨ret_one (congrArg Value.bool (by rw [HB.out]; unfold vvalid; simp [hcl])), hbf⟩
        case neg =>
          have hnb := nilb hn
          have ev0 := hbv.c0
          have ev1 := hbv.c1
          have ev2 := hbv.c2
          go_wp2_with fail
          go_ret
          exact ⟨ret_one (congrArg Value.bool (by rw [HB.out]; unfold vvalid; simp [hn])), hbf⟩
      case neg =>
        have hkb2 : (k == 2) = false := by rw [beq_eq_false_iff_ne]; exact hk2
        have ev0 := hbv.c0
        have ev1 := hbv.c1
        have ev2 := hbv.c2
        go_wp2_with fail
        go_ret
        exact ⟨ret_one (congrArg Value.bool (by rw [HB.out]; unfold vvalid vnum; simp [hk0, hk1, hk2])), hbf⟩

set_option maxRecDepth 100000 in
set_option maxHeartbeats 1000000 in
/-- Text. -/
theorem rvtext_t (k : Int) (n c T : List UInt8) (w : World) (HT : Hid (T = vtext k n c)) (hnl : n.length ≤ 1000000) (hcl : c.length ≤ 1000000) : Calls Tryd.prog 21 #[valV k n c] w fun e w' => e = .returned (.string ⟨T.toArray⟩) ∧ Below w.heap.size w w' := by
  obtain ⟨w0, hw0⟩ : ∃ w0, w0 = (w.alloc (.cells #[.int .i64 k, .string ⟨n.toArray⟩, .string ⟨c.toArray⟩] 23)) := ⟨_, rfl⟩
  have hbf : Below w.heap.size w w0 := by rw [hw0]; exact ((Below.refl _ w).alloc (Nat.le_refl _) _)
  obtain ⟨pv, hpv⟩ : ∃ p, p = w.heap.size := ⟨_, rfl⟩
  have hbv : Box3 w0 pv (Value.int .i64 k) (Value.string ⟨n.toArray⟩) (Value.string ⟨c.toArray⟩) := by rw [hw0, hpv]; exact ⟨by go_simp, by go_simp, by go_simp, by go_simp, by go_simp, by go_simp⟩
  have HP : Hid (w.heap.size ≤ pv) := Lib.hid (by omega)
  have HW := Lib.hid hw0; clear hw0
  go_enter Tryd.func21, Tryd.ntmps21
  go_upto_region 1 with fail
  rw [← HW.out, ← hpv]
  clear hpv HW
  obtain ⟨b, hb0⟩ : ∃ b, b = vvalid k n c := ⟨_, rfl⟩
  have HB := Lib.hid hb0
  clear hb0
  have ev0 := hbv.c0
  have ev1 := hbv.c1
  have ev2 := hbv.c2
  go_wp2_with fail
  refine (rvvalid_b k n c b _ HB hnl).mono ?_
  rintro e w1 ⟨rfl, hb⟩
  clear ev0 ev1 ev2
  replace hbv := hbv.kept hb
  replace hbf := hbf.trans (hb.mono hbf.size)
  clear hb
  cases b
  case false =>
    obtain rfl : T = [33] := by rw [HT.out]; exact vtext_bad HB.out.symm
    have ev0 := hbv.c0
    have ev1 := hbv.c1
    have ev2 := hbv.c2
    go_wp2_with fail
    go_ret
    exact ⟨rfl, hbf⟩
  case true =>
    have HV : Hid (T = if k = 0 then [63] else if k = 2 then 58 :: c else n) := Lib.hid (by rw [HT.out]; unfold vtext; rw [← HB.out, if_pos rfl])
    by_cases hk0 : k = 0
    case pos =>
      subst hk0
      obtain rfl : T = [63] := by rw [HV.out, if_pos rfl]
      have ev0 := hbv.c0
      have ev1 := hbv.c1
      have ev2 := hbv.c2
      go_wp2_with fail
      go_ret
      exact ⟨rfl, hbf⟩
    case neg =>
      have hkb0 : (k == 0) = false := by rw [beq_eq_false_iff_ne]; exact hk0
      by_cases hk1 : k = 1
      case pos =>
        subst hk1
        clear hkb0
        obtain rfl : n = T := by rw [HV.out]; rfl
        have ev0 := hbv.c0
        have ev1 := hbv.c1
        have ev2 := hbv.c2
        go_wp2_with fail
        go_ret
        exact ⟨rfl, hbf⟩
      case neg =>
        have hkb1 : (k == 1) = false := by rw [beq_eq_false_iff_ne]; exact hk1
        have hk2 : k = 2 := by have h9 := HB.out; unfold vvalid vnum at h9; rw [if_neg hk0] at h9; rcases Classical.em (k = 2) with h8 | h8; exact h8; rw [if_neg h8] at h9; simp [hk1] at h9
        subst hk2
        clear hkb0 hkb1
        have hT2 : (⟨#[58]⟩ ++ ⟨c.toArray⟩ : ByteArray) = ⟨T.toArray⟩ := by rw [HV.out, if_neg hk0, if_pos rfl]; exact bytes_append [58] c
        have ev0 := hbv.c0
        have ev1 := hbv.c1
        have ev2 := hbv.c2
        go_wp2_with fail
        go_ret
        exact ⟨rfl, hbf⟩

set_option maxRecDepth 100000 in
set_option maxHeartbeats 4000000 in
/-- Parse. -/
theorem rvparse_b (s n g : List UInt8) (k d : Int) (w : World) (HK : Hid (k = vpk s)) (HN : Hid (n = vpn s)) (HG : Hid (g = vpcat s)) (HD : Hid (d = vpc s)) (hs : s.length ≤ 1000000) (hs2 : Hid (¬ qcode s = 0 → s.length ≤ 1000)) : Calls Tryd.prog 20 #[.string ⟨s.toArray⟩] w fun e w' => e = .returned (.tuple #[valV k n g, .int .i64 d]) ∧ Below w.heap.size w w' := by
  obtain ⟨w0, hw0⟩ : ∃ w0, w0 = (w.alloc (.cells #[.int .i64 0, .string ⟨#[]⟩, .string ⟨#[]⟩] 23)) := ⟨_, rfl⟩
  have hbf : Below w.heap.size w w0 := by rw [hw0]; exact ((Below.refl _ w).alloc (Nat.le_refl _) _)
  obtain ⟨pr, hpr⟩ : ∃ p, p = w.heap.size := ⟨_, rfl⟩
  have hbr : Box3 w0 pr (Value.int .i64 0) (Value.string ⟨#[]⟩) (Value.string ⟨#[]⟩) := by rw [hw0, hpr]; exact ⟨by go_simp, by go_simp, by go_simp, by go_simp, by go_simp, by go_simp⟩
  have HP : Hid (w.heap.size ≤ pr) := Lib.hid (by omega)
  have HW := Lib.hid hw0; clear hw0
  go_enter Tryd.func20, Tryd.ntmps20
  go_upto_region 1 with fail
  rw [← HW.out, ← hpr]
  clear hpr HW
  by_cases h63 : s = [63]
  case pos =>
    subst h63
    obtain rfl : k = 0 := by rw [HK.out]; unfold vpk; rfl
    obtain rfl : n = [] := by rw [HN.out]; unfold vpn; rfl
    obtain rfl : g = [] := by rw [HG.out]; unfold vpcat; rfl
    obtain rfl : d = 0 := by rw [HD.out]; unfold vpc; rfl
    have er0 := hbr.c0
    have fr0 := hbr.f0
    have er1 := hbr.c1
    have fr1 := hbr.f1
    have er2 := hbr.c2
    have fr2 := hbr.f2
    go_wp2_with fail
    exact end_vc rfl rfl rfl rfl hbr (show w.heap.size ≤ pr by have := HP.out; omega) hbf
  case neg =>
    have h63b : (s == [63]) = false := by rw [beq_eq_false_iff_ne]; exact h63
    by_cases h58 : s.head? = some 58
    case pos =>
      obtain ⟨t, rfl⟩ : ∃ t, s = 58 :: t := by cases s with | nil => cases h58 | cons x t => simp at h58; exact ⟨t, by rw [h58]⟩
      clear h58
      simp only [List.length_cons] at hs
      have hb0 : ∀ h, (((⟨(58 :: t).toArray⟩ : ByteArray)[0]'h).toNat : Int) = 58 := fun _ => rfl
      by_cases h60 : 60 < t.length
      case pos =>
        have hli : (61 : Int) < ((t.length : Nat) : Int) + 1 := by omega
        obtain rfl : k = 0 := by rw [HK.out]; unfold vpk; rw [if_neg h63, if_pos (show List.head? ((58 : UInt8) :: _) = some 58 from rfl)]; (try rw [if_pos (show 60 < (List.tail ((58 : UInt8) :: _)).length from h60)])
        obtain rfl : n = [] := by rw [HN.out]; unfold vpn; rw [if_neg h63, if_pos (show List.head? ((58 : UInt8) :: _) = some 58 from rfl)]; (try rw [if_pos (show 60 < (List.tail ((58 : UInt8) :: _)).length from h60)])
        obtain rfl : g = [] := by rw [HG.out]; unfold vpcat; rw [if_neg h63, if_pos (show List.head? ((58 : UInt8) :: _) = some 58 from rfl)]; (try rw [if_pos (show 60 < (List.tail ((58 : UInt8) :: _)).length from h60)])
        obtain rfl : d = 3 := by rw [HD.out]; unfold vpc; rw [if_neg h63, if_pos (show List.head? ((58 : UInt8) :: _) = some 58 from rfl)]; (try rw [if_pos (show 60 < (List.tail ((58 : UInt8) :: _)).length from h60)])
        have er0 := hbr.c0
        have fr0 := hbr.f0
        have er1 := hbr.c1
        have fr1 := hbr.f1
        have er2 := hbr.c2
        have fr2 := hbr.f2
        go_wp2_with fail
        exact end_vc rfl rfl rfl rfl hbr (show w.heap.size ≤ pr by have := HP.out; omega) hbf
      case neg =>
        have hli : ¬ (61 : Int) < ((t.length : Nat) : Int) + 1 := by omega
        have hx1 : (⟨(58 :: t).toArray⟩ : ByteArray).extract 1 (t.length + 1) = ⟨t.toArray⟩ := by rw [bytes_extract]; simp
        have hl1 : (1 : Int) ≤ ((t.length : Nat) : Int) + 1 := by omega
        obtain rfl : k = 2 := by rw [HK.out]; unfold vpk; rw [if_neg h63, if_pos (show List.head? ((58 : UInt8) :: _) = some 58 from rfl)]; (try rw [if_neg (show ¬ 60 < (List.tail ((58 : UInt8) :: _)).length from h60)]); (try rfl)
        obtain rfl : n = [] := by rw [HN.out]; unfold vpn; rw [if_neg h63, if_pos (show List.head? ((58 : UInt8) :: _) = some 58 from rfl)]; (try rw [if_neg (show ¬ 60 < (List.tail ((58 : UInt8) :: _)).length from h60)]); (try rfl)
        obtain rfl : g = t := by rw [HG.out]; unfold vpcat; rw [if_neg h63, if_pos (show List.head? ((58 : UInt8) :: _) = some 58 from rfl)]; (try rw [if_neg (show ¬ 60 < (List.tail ((58 : UInt8) :: _)).length from h60)]); (try rfl)
        obtain rfl : d = 0 := by rw [HD.out]; unfold vpc; rw [if_neg h63, if_pos (show List.head? ((58 : UInt8) :: _) = some 58 from rfl)]; (try rw [if_neg (show ¬ 60 < (List.tail ((58 : UInt8) :: _)).length from h60)]); (try rfl)
        have er0 := hbr.c0
        have fr0 := hbr.f0
        have er1 := hbr.c1
        have fr1 := hbr.f1
        have er2 := hbr.c2
        have fr2 := hbr.f2
        go_wp2_with fail
        exact end_vc rfl rfl rfl rfl hbr (show w.heap.size ≤ pr by have := HP.out; omega) hbf
    case neg =>
      obtain ⟨q, hq⟩ : ∃ q, q = qval s := ⟨_, rfl⟩
      obtain ⟨c1, hc1⟩ : ∃ c, c = qcode s := ⟨_, rfl⟩
      have hqt : qcode s = 0 → qtext (qval s) = s := fun h => qcode_text h
      have HQT := Lib.hid hqt
      have HQ := Lib.hid hq
      have HC1 := Lib.hid hc1
      clear hq hc1 hqt
      by_cases hs0 : 0 < s.length
      case pos =>
        have hby := byte_at s 0 hs0 (by simpa [ByteArray.size] using hs0)
        have hh : s.head? = some (s[0]?.getD 0) := by cases s with | nil => simp at hs0 | cons x t => rfl
        have hsi : (0 : Int) < ((s.length : Nat) : Int) := by omega
        rw [hh] at h58
        generalize s[0]?.getD 0 = x9 at *
        have hx9 : ¬ x9 = 58 := fun h => h58 (by rw [h])
        have hxb : ((x9.toNat : Int) == 58) = false := by rw [beq_eq_false_iff_ne]; intro e; apply hx9; rw [← UInt8.toNat_inj]; show x9.toNat = 58; omega
        replace h58 : ¬ s.head? = some 58 := by rw [hh]; exact h58
        have HH := Lib.hid hh
        clear hh hx9
        go_wp2_with fail
        refine (rqparse_main s _ q c1 HQ HC1 (by omega)).mono ?_
        rintro e w1 hq9
        obtain ⟨aB, axO, axL, axC, ayO, ayL, ayC, rfl, hS, hax, hay, ha, hb⟩ := hq9.out
        have HaS := Lib.hid hS; clear hS
        replace hbr := hbr.kept hb
        replace hbf := hbf.trans (hb.mono hbf.size)
        clear hb
        obtain ⟨w2, hwE⟩ : ∃ W, W = (w1.alloc (.cells #[.bool aB, .slice axO axL axC, .slice ayO ayL ayC] 51)) := ⟨_, rfl⟩
        have hb : Below w1.heap.size w1 w2 := by rw [hwE]; exact ((Below.refl _ w1).alloc (Nat.le_refl _) _)
        obtain ⟨pa, hpa⟩ : ∃ p, p = w1.heap.size := ⟨_, rfl⟩
        have hba : Box3 w2 pa (Value.bool aB) (Value.slice axO axL axC) (Value.slice ayO ayL ayC) := by rw [hwE, hpa]; exact ⟨by go_simp, by go_simp, by go_simp, by go_simp, by go_simp, by go_simp⟩
        replace HP : Hid (w.heap.size ≤ pr ∧ pr < pa) := Lib.hid (by have h1 := HP.out; have h9 := hbf.size; have h2r := hbr.lt; omega)
        have HW := Lib.hid hwE; clear hwE
        go_upto_region 8 with fail
        rw [← HW.out, ← hpa]
        clear hpa HW
        replace hbr := hbr.kept hb
        replace hax := hax.below hb
        replace hay := hay.below hb
        replace ha := ha.below hb
        replace hbf := hbf.trans (hb.mono hbf.size)
        clear hb
        by_cases hc0 : c1 = 0
        case pos =>
          subst hc0
          obtain rfl : k = 1 := by rw [HK.out]; unfold vpk; rw [if_neg h63, if_neg h58]; (try rw [if_pos HC1.out.symm]); (try rw [HQT.out HC1.out.symm])
          obtain rfl : n = s := by rw [HN.out]; unfold vpn; rw [if_neg h63, if_neg h58]; (try rw [if_pos HC1.out.symm]); (try rw [HQT.out HC1.out.symm])
          obtain rfl : g = [] := by rw [HG.out]; unfold vpcat; rw [if_neg h63, if_neg h58]; (try rw [if_pos HC1.out.symm]); (try rw [HQT.out HC1.out.symm])
          obtain rfl : d = 0 := by rw [HD.out]; unfold vpc; rw [if_neg h63, if_neg h58]; (try rw [if_pos HC1.out.symm]); (try rw [HQT.out HC1.out.symm])
          have er0 := hbr.c0
          have fr0 := hbr.f0
          have er1 := hbr.c1
          have fr1 := hbr.f1
          have er2 := hbr.c2
          have fr2 := hbr.f2
          go_wp2_with fail
          exact end_vc rfl rfl rfl rfl hbr (show w.heap.size ≤ pr by have := HP.out; omega) hbf
        case neg =>
          have hcb : (c1 == 0) = false := by rw [beq_eq_false_iff_ne]; exact hc0
          have HQN : Hid (¬ qcode s = 0) := Lib.hid (by rw [← HC1.out]; exact hc0)
          obtain ⟨p, hp⟩ : ∃ q, q = litVal s := ⟨_, rfl⟩
          obtain ⟨c2, hc2⟩ : ∃ c, c = litCode s := ⟨_, rfl⟩
          have hpb : QB p 30000 := by rw [hp]; exact (QB.lit s).mono (by decide)
          have HP9 := Lib.hid hp
          have HC2 := Lib.hid hc2
          clear hp hc2
          have ea0 := hba.c0
          have ea1 := hba.c1
          have ea2 := hba.c2
          go_wp2_with fail
          refine (rlit_any s p c2 _ HP9 HC2 (hs2.out HQN.out)).mono ?_
          rintro e w3 hq9
          obtain ⟨zB, zxO, zxL, zxC, zyO, zyL, zyC, rfl, hS, hzx, hzy, hz, hb⟩ := hq9.out
          have HzS := Lib.hid hS; clear hS
          clear ea0 ea1 ea2
          replace hbr := hbr.kept hb
          replace hba := hba.kept hb
          replace hax := hax.below hb
          replace hay := hay.below hb
          replace ha := ha.below hb
          replace hbf := hbf.trans (hb.mono hbf.size)
          clear hb
          clear hcb
          obtain ⟨w4, hwE⟩ : ∃ W, W = (w3.alloc (.cells #[.bool zB, .slice zxO zxL zxC, .slice zyO zyL zyC] 51)) := ⟨_, rfl⟩
          have hb : Below w3.heap.size w3 w4 := by rw [hwE]; exact ((Below.refl _ w3).alloc (Nat.le_refl _) _)
          obtain ⟨pz, hpz⟩ : ∃ p, p = w3.heap.size := ⟨_, rfl⟩
          have hbz : Box3 w4 pz (Value.bool zB) (Value.slice zxO zxL zxC) (Value.slice zyO zyL zyC) := by rw [hwE, hpz]; exact ⟨by go_simp, by go_simp, by go_simp, by go_simp, by go_simp, by go_simp⟩
          replace HP : Hid (w.heap.size ≤ pr ∧ pr < pa ∧ pa < pz) := Lib.hid (by have h1 := HP.out; have h9 := hbf.size; have h2a := hba.lt; omega)
          have HW := Lib.hid hwE; clear hwE
          go_upto_region 11 with fail
          rw [← HW.out, ← hpz]
          clear hpz HW
          replace hbr := hbr.kept hb
          replace hba := hba.kept hb
          replace hax := hax.below hb
          replace hay := hay.below hb
          replace ha := ha.below hb
          replace hzx := hzx.below hb
          replace hzy := hzy.below hb
          replace hz := hz.below hb
          replace hbf := hbf.trans (hb.mono hbf.size)
          clear hb
          by_cases hd0 : ¬ c2 = 0
          case pos =>
            have hcc1 : (c2 == 0) = false := by rw [beq_eq_false_iff_ne]; exact hd0
            have hcc2 : (c2 != 0) = true := by simp [bne, hcc1]
            obtain rfl : k = 0 := by rw [HK.out]; unfold vpk; rw [if_neg h63, if_neg h58]; (try rw [if_neg HQN.out]); (try rw [if_neg (by rw [← HC2.out]; exact hd0)]); (try exact HC2.out.symm)
            obtain rfl : n = [] := by rw [HN.out]; unfold vpn; rw [if_neg h63, if_neg h58]; (try rw [if_neg HQN.out]); (try rw [if_neg (by rw [← HC2.out]; exact hd0)]); (try exact HC2.out.symm)
            obtain rfl : g = [] := by rw [HG.out]; unfold vpcat; rw [if_neg h63, if_neg h58]; (try rw [if_neg HQN.out]); (try rw [if_neg (by rw [← HC2.out]; exact hd0)]); (try exact HC2.out.symm)
            obtain rfl : d = c2 := by rw [HD.out]; unfold vpc; rw [if_neg h63, if_neg h58]; (try rw [if_neg HQN.out]); (try rw [if_neg (by rw [← HC2.out]; exact hd0)]); (try exact HC2.out.symm)
            have er0 := hbr.c0
            have fr0 := hbr.f0
            have er1 := hbr.c1
            have fr1 := hbr.f1
            have er2 := hbr.c2
            have fr2 := hbr.f2
            go_wp2_with fail
            exact end_vc rfl rfl rfl rfl hbr (show w.heap.size ≤ pr by have := HP.out; omega) hbf
          case neg =>
            obtain rfl : c2 = 0 := by omega
            clear hd0
            obtain rfl : k = 1 := by rw [HK.out]; unfold vpk; rw [if_neg h63, if_neg h58]; (try rw [if_neg HQN.out]); (try rw [if_pos HC2.out.symm]); (try rw [HP9.out]); (try exact HC2.out.symm)
            obtain rfl : n = qtext p := by rw [HN.out]; unfold vpn; rw [if_neg h63, if_neg h58]; (try rw [if_neg HQN.out]); (try rw [if_pos HC2.out.symm]); (try rw [HP9.out]); (try exact HC2.out.symm)
            obtain rfl : g = [] := by rw [HG.out]; unfold vpcat; rw [if_neg h63, if_neg h58]; (try rw [if_neg HQN.out]); (try rw [if_pos HC2.out.symm]); (try rw [HP9.out]); (try exact HC2.out.symm)
            obtain rfl : d = 0 := by rw [HD.out]; unfold vpc; rw [if_neg h63, if_neg h58]; (try rw [if_neg HQN.out]); (try rw [if_pos HC2.out.symm]); (try rw [HP9.out]); (try exact HC2.out.symm)
            have ea0 := hba.c0
            have ea1 := hba.c1
            have ea2 := hba.c2
            have ez0 := hbz.c0
            have ez1 := hbz.c1
            have ez2 := hbz.c2
            go_wp2_with fail
            refine (rqtext_t9 _ p (qtext p) _ hz hpb (Lib.hid rfl)).mono ?_
            rintro e w5 ⟨rfl, hb⟩
            clear ea0 ea1 ea2 ez0 ez1 ez2
            replace hbr := hbr.kept hb
            replace hba := hba.kept hb
            replace hbz := hbz.kept hb
            replace hax := hax.below hb
            replace hay := hay.below hb
            replace ha := ha.below hb
            replace hzx := hzx.below hb
            replace hzy := hzy.below hb
            replace hz := hz.below hb
            replace hbf := hbf.trans (hb.mono hbf.size)
            clear hb
            have er0 := hbr.c0
            have fr0 := hbr.f0
            have er1 := hbr.c1
            have fr1 := hbr.f1
            have er2 := hbr.c2
            have fr2 := hbr.f2
            go_wp2_with fail
            exact end_vc rfl rfl rfl rfl hbr (show w.heap.size ≤ pr by have := HP.out; omega) hbf
      case neg =>
        have hsi : ¬ (0 : Int) < ((s.length : Nat) : Int) := by omega
        go_wp2_with fail
        refine (rqparse_main s _ q c1 HQ HC1 (by omega)).mono ?_
        rintro e w1 hq9
        obtain ⟨aB, axO, axL, axC, ayO, ayL, ayC, rfl, hS, hax, hay, ha, hb⟩ := hq9.out
        have HaS := Lib.hid hS; clear hS
        replace hbr := hbr.kept hb
        replace hbf := hbf.trans (hb.mono hbf.size)
        clear hb
        obtain ⟨w2, hwE⟩ : ∃ W, W = (w1.alloc (.cells #[.bool aB, .slice axO axL axC, .slice ayO ayL ayC] 51)) := ⟨_, rfl⟩
        have hb : Below w1.heap.size w1 w2 := by rw [hwE]; exact ((Below.refl _ w1).alloc (Nat.le_refl _) _)
        obtain ⟨pa, hpa⟩ : ∃ p, p = w1.heap.size := ⟨_, rfl⟩
        have hba : Box3 w2 pa (Value.bool aB) (Value.slice axO axL axC) (Value.slice ayO ayL ayC) := by rw [hwE, hpa]; exact ⟨by go_simp, by go_simp, by go_simp, by go_simp, by go_simp, by go_simp⟩
        replace HP : Hid (w.heap.size ≤ pr ∧ pr < pa) := Lib.hid (by have h1 := HP.out; have h9 := hbf.size; have h2r := hbr.lt; omega)
        have HW := Lib.hid hwE; clear hwE
        go_upto_region 8 with fail
        rw [← HW.out, ← hpa]
        clear hpa HW
        replace hbr := hbr.kept hb
        replace hax := hax.below hb
        replace hay := hay.below hb
        replace ha := ha.below hb
        replace hbf := hbf.trans (hb.mono hbf.size)
        clear hb
        by_cases hc0 : c1 = 0
        case pos =>
          subst hc0
          obtain rfl : k = 1 := by rw [HK.out]; unfold vpk; rw [if_neg h63, if_neg h58]; (try rw [if_pos HC1.out.symm]); (try rw [HQT.out HC1.out.symm])
          obtain rfl : n = s := by rw [HN.out]; unfold vpn; rw [if_neg h63, if_neg h58]; (try rw [if_pos HC1.out.symm]); (try rw [HQT.out HC1.out.symm])
          obtain rfl : g = [] := by rw [HG.out]; unfold vpcat; rw [if_neg h63, if_neg h58]; (try rw [if_pos HC1.out.symm]); (try rw [HQT.out HC1.out.symm])
          obtain rfl : d = 0 := by rw [HD.out]; unfold vpc; rw [if_neg h63, if_neg h58]; (try rw [if_pos HC1.out.symm]); (try rw [HQT.out HC1.out.symm])
          have er0 := hbr.c0
          have fr0 := hbr.f0
          have er1 := hbr.c1
          have fr1 := hbr.f1
          have er2 := hbr.c2
          have fr2 := hbr.f2
          go_wp2_with fail
          exact end_vc rfl rfl rfl rfl hbr (show w.heap.size ≤ pr by have := HP.out; omega) hbf
        case neg =>
          have hcb : (c1 == 0) = false := by rw [beq_eq_false_iff_ne]; exact hc0
          have HQN : Hid (¬ qcode s = 0) := Lib.hid (by rw [← HC1.out]; exact hc0)
          obtain ⟨p, hp⟩ : ∃ q, q = litVal s := ⟨_, rfl⟩
          obtain ⟨c2, hc2⟩ : ∃ c, c = litCode s := ⟨_, rfl⟩
          have hpb : QB p 30000 := by rw [hp]; exact (QB.lit s).mono (by decide)
          have HP9 := Lib.hid hp
          have HC2 := Lib.hid hc2
          clear hp hc2
          have ea0 := hba.c0
          have ea1 := hba.c1
          have ea2 := hba.c2
          go_wp2_with fail
          refine (rlit_any s p c2 _ HP9 HC2 (hs2.out HQN.out)).mono ?_
          rintro e w3 hq9
          obtain ⟨zB, zxO, zxL, zxC, zyO, zyL, zyC, rfl, hS, hzx, hzy, hz, hb⟩ := hq9.out
          have HzS := Lib.hid hS; clear hS
          clear ea0 ea1 ea2
          replace hbr := hbr.kept hb
          replace hba := hba.kept hb
          replace hax := hax.below hb
          replace hay := hay.below hb
          replace ha := ha.below hb
          replace hbf := hbf.trans (hb.mono hbf.size)
          clear hb
          clear hcb
          obtain ⟨w4, hwE⟩ : ∃ W, W = (w3.alloc (.cells #[.bool zB, .slice zxO zxL zxC, .slice zyO zyL zyC] 51)) := ⟨_, rfl⟩
          have hb : Below w3.heap.size w3 w4 := by rw [hwE]; exact ((Below.refl _ w3).alloc (Nat.le_refl _) _)
          obtain ⟨pz, hpz⟩ : ∃ p, p = w3.heap.size := ⟨_, rfl⟩
          have hbz : Box3 w4 pz (Value.bool zB) (Value.slice zxO zxL zxC) (Value.slice zyO zyL zyC) := by rw [hwE, hpz]; exact ⟨by go_simp, by go_simp, by go_simp, by go_simp, by go_simp, by go_simp⟩
          replace HP : Hid (w.heap.size ≤ pr ∧ pr < pa ∧ pa < pz) := Lib.hid (by have h1 := HP.out; have h9 := hbf.size; have h2a := hba.lt; omega)
          have HW := Lib.hid hwE; clear hwE
          go_upto_region 11 with fail
          rw [← HW.out, ← hpz]
          clear hpz HW
          replace hbr := hbr.kept hb
          replace hba := hba.kept hb
          replace hax := hax.below hb
          replace hay := hay.below hb
          replace ha := ha.below hb
          replace hzx := hzx.below hb
          replace hzy := hzy.below hb
          replace hz := hz.below hb
          replace hbf := hbf.trans (hb.mono hbf.size)
          clear hb
          by_cases hd0 : ¬ c2 = 0
          case pos =>
            have hcc1 : (c2 == 0) = false := by rw [beq_eq_false_iff_ne]; exact hd0
            have hcc2 : (c2 != 0) = true := by simp [bne, hcc1]
            obtain rfl : k = 0 := by rw [HK.out]; unfold vpk; rw [if_neg h63, if_neg h58]; (try rw [if_neg HQN.out]); (try rw [if_neg (by rw [← HC2.out]; exact hd0)]); (try exact HC2.out.symm)
            obtain rfl : n = [] := by rw [HN.out]; unfold vpn; rw [if_neg h63, if_neg h58]; (try rw [if_neg HQN.out]); (try rw [if_neg (by rw [← HC2.out]; exact hd0)]); (try exact HC2.out.symm)
            obtain rfl : g = [] := by rw [HG.out]; unfold vpcat; rw [if_neg h63, if_neg h58]; (try rw [if_neg HQN.out]); (try rw [if_neg (by rw [← HC2.out]; exact hd0)]); (try exact HC2.out.symm)
            obtain rfl : d = c2 := by rw [HD.out]; unfold vpc; rw [if_neg h63, if_neg h58]; (try rw [if_neg HQN.out]); (try rw [if_neg (by rw [← HC2.out]; exact hd0)]); (try exact HC2.out.symm)
            have er0 := hbr.c0
            have fr0 := hbr.f0
            have er1 := hbr.c1
            have fr1 := hbr.f1
            have er2 := hbr.c2
            have fr2 := hbr.f2
            go_wp2_with fail
            exact end_vc rfl rfl rfl rfl hbr (show w.heap.size ≤ pr by have := HP.out; omega) hbf
          case neg =>
            obtain rfl : c2 = 0 := by omega
            clear hd0
            obtain rfl : k = 1 := by rw [HK.out]; unfold vpk; rw [if_neg h63, if_neg h58]; (try rw [if_neg HQN.out]); (try rw [if_pos HC2.out.symm]); (try rw [HP9.out]); (try exact HC2.out.symm)
            obtain rfl : n = qtext p := by rw [HN.out]; unfold vpn; rw [if_neg h63, if_neg h58]; (try rw [if_neg HQN.out]); (try rw [if_pos HC2.out.symm]); (try rw [HP9.out]); (try exact HC2.out.symm)
            obtain rfl : g = [] := by rw [HG.out]; unfold vpcat; rw [if_neg h63, if_neg h58]; (try rw [if_neg HQN.out]); (try rw [if_pos HC2.out.symm]); (try rw [HP9.out]); (try exact HC2.out.symm)
            obtain rfl : d = 0 := by rw [HD.out]; unfold vpc; rw [if_neg h63, if_neg h58]; (try rw [if_neg HQN.out]); (try rw [if_pos HC2.out.symm]); (try rw [HP9.out]); (try exact HC2.out.symm)
            have ea0 := hba.c0
            have ea1 := hba.c1
            have ea2 := hba.c2
            have ez0 := hbz.c0
            have ez1 := hbz.c1
            have ez2 := hbz.c2
            go_wp2_with fail
            refine (rqtext_t9 _ p (qtext p) _ hz hpb (Lib.hid rfl)).mono ?_
            rintro e w5 ⟨rfl, hb⟩
            clear ea0 ea1 ea2 ez0 ez1 ez2
            replace hbr := hbr.kept hb
            replace hba := hba.kept hb
            replace hbz := hbz.kept hb
            replace hax := hax.below hb
            replace hay := hay.below hb
            replace ha := ha.below hb
            replace hzx := hzx.below hb
            replace hzy := hzy.below hb
            replace hz := hz.below hb
            replace hbf := hbf.trans (hb.mono hbf.size)
            clear hb
            have er0 := hbr.c0
            have fr0 := hbr.f0
            have er1 := hbr.c1
            have fr1 := hbr.f1
            have er2 := hbr.c2
            have fr2 := hbr.f2
            go_wp2_with fail
            exact end_vc rfl rfl rfl rfl hbr (show w.heap.size ≤ pr by have := HP.out; omega) hbf

set_option maxRecDepth 100000 in
set_option maxHeartbeats 1000000 in
/-- Same. -/
theorem vsame_b (k k2 : Int) (n c n2 c2 : List UInt8) (b : Bool) (w : World) (HB : Hid (b = (decide (k = k2) && (decide (n = n2) && decide (c = c2))))) : Calls Tryd.prog 22 #[valV k n c, valV k2 n2 c2] w fun e w' => e = .returned (.bool b) ∧ Below w.heap.size w w' := by
  obtain ⟨w0, hw0⟩ : ∃ w0, w0 = ((w.alloc (.cells #[.int .i64 k, .string ⟨n.toArray⟩, .string ⟨c.toArray⟩] 23)).alloc (.cells #[.int .i64 k2, .string ⟨n2.toArray⟩, .string ⟨c2.toArray⟩] 23)) := ⟨_, rfl⟩
  have hbf : Below w.heap.size w w0 := by rw [hw0]; exact (((Below.refl _ w).alloc (Nat.le_refl _) _).alloc (by simp <;> omega) _)
  obtain ⟨pv, hpv⟩ : ∃ p, p = w.heap.size := ⟨_, rfl⟩
  have hbv : Box3 w0 pv (Value.int .i64 k) (Value.string ⟨n.toArray⟩) (Value.string ⟨c.toArray⟩) := by rw [hw0, hpv]; exact ⟨by go_simp, by go_simp, by go_simp, by go_simp, by go_simp, by go_simp⟩
  obtain ⟨pu, hpu⟩ : ∃ p, p = w.heap.size + 1 := ⟨_, rfl⟩
  have hbu : Box3 w0 pu (Value.int .i64 k2) (Value.string ⟨n2.toArray⟩) (Value.string ⟨c2.toArray⟩) := by rw [hw0, hpu]; exact ⟨by go_simp, by go_simp, by go_simp, by go_simp, by go_simp, by go_simp⟩
  have HP : Hid (w.heap.size ≤ pv ∧ pv < pu) := Lib.hid (by omega)
  have HW := Lib.hid hw0; clear hw0
  go_enter Tryd.func22, Tryd.ntmps22
  go_upto_region 1 with fail
  rw [← HW.out, ← hpu, ← hpv]
  clear hpv hpu HW
  by_cases hk : k = k2
  case neg =>
    have hkb : (k == k2) = false := by rw [beq_eq_false_iff_ne]; exact hk
    have ev0 := hbv.c0
    have ev1 := hbv.c1
    have ev2 := hbv.c2
    have eu0 := hbu.c0
    have eu1 := hbu.c1
    have eu2 := hbu.c2
    go_wp2_with fail
    go_ret
    exact ⟨ret_one (congrArg Value.bool (by rw [HB.out]; simp [hk])), hbf⟩
  case pos =>
    subst hk
    by_cases hn : n = n2
    case neg =>
      have hnb : (n == n2) = false := by rw [beq_eq_false_iff_ne]; exact hn
      have ev0 := hbv.c0
      have ev1 := hbv.c1
      have ev2 := hbv.c2
      have eu0 := hbu.c0
      have eu1 := hbu.c1
      have eu2 := hbu.c2
      go_wp2_with fail
      go_ret
      exact ⟨ret_one (congrArg Value.bool (by rw [HB.out]; simp [hn])), hbf⟩
    case pos =>
      subst hn
      by_cases hc : c = c2
      case neg =>
        have hcb : (c == c2) = false := by rw [beq_eq_false_iff_ne]; exact hc
        have ev0 := hbv.c0
        have ev1 := hbv.c1
        have ev2 := hbv.c2
        have eu0 := hbu.c0
        have eu1 := hbu.c1
        have eu2 := hbu.c2
        go_wp2_with fail
        go_ret
        exact ⟨ret_one (congrArg Value.bool (by rw [HB.out]; simp [hc])), hbf⟩
      case pos =>
        subst hc
        have ev0 := hbv.c0
        have ev1 := hbv.c1
        have ev2 := hbv.c2
        have eu0 := hbu.c0
        have eu1 := hbu.c1
        have eu2 := hbu.c2
        go_wp2_with fail
        go_ret
        exact ⟨ret_one (congrArg Value.bool (by rw [HB.out]; simp)), hbf⟩

end Go.Proofs.YtfiednmcecpkpaaDoor
