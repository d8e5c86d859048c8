/-
  Pj25: ValD RefX (what is needed of them).
-/
import Derived.Test.YtcpfanpcdkoiaaaGreatDoorPj16
import Derived.Test.YtcpfanpcdkoiaaaGreatDoorPj18
import Derived.Test.YtcpfanpcdkoiaaaGreatDoorPj24
import Derived.Deep.DeepCutAuto
import Derived.WalkMore
import Derived.Laws.StructEq
set_option maxRecDepth 100000
set_option linter.unusedVariables false
set_option linter.unusedSimpArgs false

namespace Go.Proofs.YtcpfanpcdkoiaaaGreatDoor
open Go.RowKit


attribute [local go_sem] field_nat
def RNPost (w : World) (q : Rat) (b : Bool) (e : Ending) (w' : World) : Prop := ∃ r, e = .returned (.tuple #[r, .bool b]) ∧ RQIs w' r q ∧ Below w.heap.size w w'
theorem RNPost.out {w w' : World} {q : Rat} {b : Bool} {e : Ending} (h : RNPost w q b e w') : ∃ s xo xl xc yo yl yc, e = .returned (.tuple #[.agg #[.bool s, .slice xo xl xc, .slice yo yl yc], .bool b]) ∧ s = decide (q < 0) ∧ RIs w' (.slice xo xl xc) q.num.natAbs ∧ RIs w' (.slice yo yl yc) q.den ∧ RQIs w' (.agg #[.bool s, .slice xo xl xc, .slice yo yl yc]) q ∧ Below w.heap.size w w' := by
 obtain ⟨r, rfl, hq, hb⟩ := h
 obtain ⟨s, xo, xl, xc, yo, yl, yc, rfl, h1, h2, h3⟩ := hq.form
 exact ⟨_, _, _, _, _, _, _, rfl, h1, h2, h3, hq, hb⟩
section
variable {fn : Func} {s : Nat} {act : Act} {w w9 : World} {b : Nat} {s0 : Bool} {o1 o2 : Option Addr} {l1 l2 c1 c2 : Nat} {u0 u1 u2 : Value} {q : Rat}
theorem end_rb {t : Nat} {c : Bool} (hres : fn.results = #[.cell s 98, .tmp t]) (hp : act.tmps.getD s undef = .pointer (some ⟨b, 0, none⟩)) (hu : act.tmps.getD t undef = .bool c) (hd : act.defers = []) (hb : Box3 w9 b (.bool s0) (.slice o1 l1 c1) (.slice o2 l2 c2)) (hge : w.heap.size ≤ b) (hq : RQIs w9 (.agg #[u0, u1, u2]) q) (hB : Below w.heap.size w w9) :
  bodyPost Tryz.prog fn (RNPost w q c) .ret act (((w9.setCell ⟨b, 0, none⟩ u0).setCell ⟨b, 1, none⟩ u1).setCell ⟨b, 2, none⟩ u2) :=
 ret_rrat_tmp hres hp hu hb.set3 hd ⟨_, rfl, hq.set3 hb, below_set3 hB hge⟩
end
set_option maxHeartbeats 1000000 in
theorem rvnum_q (k : Int) (n c : List UInt8) (q : Rat) (b : Bool) (w : World) (HB : Hid (b = vnum k n c)) (HQ : Hid (q = qval n)) (hn : n.length ≤ 1000000) : Calls Tryz.prog 98 #[valV k n c] w (RNPost w q b) := by
 obtain ⟨w0, hw0⟩ : ∃ w0, w0 = ((w.alloc (.cells #[.int .i64 k, .string ⟨n.toArray⟩, .string ⟨c.toArray⟩] 30)).alloc (.cells #[.bool false, .slice none 0 0, .slice none 0 0] 98)) := ⟨_, rfl⟩
 have hbf : Below w.heap.size w w0 := by rw [hw0]; exact (((Below.refl _ w).alloc (Nat.le_refl _) _).alloc (by simp <;> omega) _)
 obtain ⟨pv, hpv⟩ : ∃ p, p = w.heap.size := ⟨_, rfl⟩
 have hbv : Box3 w0 pv (Value.int .i64 k) (Value.string ⟨n.toArray⟩) (Value.string ⟨c.toArray⟩) := by rw [hw0, hpv]; exact ⟨by go_simp, by go_simp, by go_simp, by go_simp, by go_simp, by go_simp⟩
 obtain ⟨pr, hpr⟩ : ∃ p, p = w.heap.size + 1 := ⟨_, rfl⟩
 have hbr : Box3 w0 pr (Value.bool false) (Value.slice none 0 0) (Value.slice none 0 0) := by rw [hw0, hpr]; exact ⟨by go_simp, by go_simp, by go_simp, by go_simp, by go_simp, by go_simp⟩
 have HP : Hid (w.heap.size ≤ pv ∧ pv < pr) := Lib.hid (by omega)
 have HW := Lib.hid hw0; clear hw0
 go_enter Tryz.func98, Tryz.ntmps98
 go_upto_region 1 with fail
 rw [← HW.out, ← hpr, ← hpv]
 clear hpv hpr HW
 obtain ⟨cd, hcd⟩ : ∃ d, d = qcode n := ⟨_, rfl⟩
 have HCD := Lib.hid hcd
 clear hcd
 have ev0 := hbv.c0
 have ev1 := hbv.c1
 have ev2 := hbv.c2
 go_wp2_with fail
 refine (rqparse_main n _ q cd HQ HCD (by omega)).mono ?_
 rintro e w1 hq9
 obtain ⟨aB, axO, axL, axC, ayO, ayL, ayC, rfl, hS, hax, hay, ha, hb⟩ := hq9.out
 have HaS := Lib.hid hS; clear hS
 clear ev0 ev1 ev2
 replace hbv := hbv.kept hb
 replace hbr := hbr.kept hb
 replace hbf := hbf.trans (hb.mono hbf.size)
 clear hb
 obtain ⟨w2, hwE⟩ : ∃ W, W = (w1.alloc (.cells #[.bool aB, .slice axO axL axC, .slice ayO ayL ayC] 98)) := ⟨_, rfl⟩
 have hb : Below w1.heap.size w1 w2 := by rw [hwE]; exact ((Below.refl _ w1).alloc (Nat.le_refl _) _)
 obtain ⟨pa, hpa⟩ : ∃ p, p = w1.heap.size := ⟨_, rfl⟩
 have hba : Box3 w2 pa (Value.bool aB) (Value.slice axO axL axC) (Value.slice ayO ayL ayC) := by rw [hwE, hpa]; exact ⟨by go_simp, by go_simp, by go_simp, by go_simp, by go_simp, by go_simp⟩
 replace HP : Hid (w.heap.size ≤ pv ∧ pv < pr ∧ pr < pa) := Lib.hid (by have h1 := HP.out; have h9 := hbf.size; have h2r := hbr.lt; omega)
 have HW := Lib.hid hwE; clear hwE
 go_upto_region 2 with fail
 rw [← HW.out, ← hpa]
 clear hpa HW
 replace hbv := hbv.kept hb
 replace hbr := hbr.kept hb
 replace hax := hax.below hb
 replace hay := hay.below hb
 replace ha := ha.below hb
 replace hbf := hbf.trans (hb.mono hbf.size)
 clear hb
 by_cases hk : k = 1
 case neg =>
  have hkb : (k == 1) = false := by rw [beq_eq_false_iff_ne]; exact hk
  obtain rfl : b = false := by rw [HB.out]; unfold vnum; simp [hk]
  have ev0 := hbv.c0
  have ev1 := hbv.c1
  have ev2 := hbv.c2
  have ea0 := hba.c0
  have ea1 := hba.c1
  have ea2 := hba.c2
  have er0 := hbr.c0
  have fr0 := hbr.f0
  have er1 := hbr.c1
  have fr1 := hbr.f1
  have er2 := hbr.c2
  have fr2 := hbr.f2
  go_wp2_with fail
  exact end_rb rfl rfl rfl rfl hbr (show w.heap.size ≤ pr by have := HP.out; omega) ha hbf
 case pos =>
  subst hk
  by_cases hc : c = []
  case neg =>
   have hcb := nilb hc
   obtain rfl : b = false := by rw [HB.out]; unfold vnum; simp [hc]
   have ev0 := hbv.c0
   have ev1 := hbv.c1
   have ev2 := hbv.c2
   have ea0 := hba.c0
   have ea1 := hba.c1
   have ea2 := hba.c2
   have er0 := hbr.c0
   have fr0 := hbr.f0
   have er1 := hbr.c1
   have fr1 := hbr.f1
   have er2 := hbr.c2
   have fr2 := hbr.f2
   go_wp2_with fail
   exact end_rb rfl rfl rfl rfl hbr (show w.heap.size ≤ pr by have := HP.out; omega) ha hbf
  case pos =>
   subst hc
   have hbd : (cd == 0) = b := by rw [HB.out, HCD.out]; unfold vnum; by_cases h9 : qcode n = 0 <;> simp [h9]
   have ev0 := hbv.c0
   have ev1 := hbv.c1
   have ev2 := hbv.c2
   have ea0 := hba.c0
   have ea1 := hba.c1
   have ea2 := hba.c2
   have er0 := hbr.c0
   have fr0 := hbr.f0
   have er1 := hbr.c1
   have fr1 := hbr.f1
   have er2 := hbr.c2
   have fr2 := hbr.f2
   go_wp2_with fail
   exact end_rb rfl rfl rfl rfl hbr (show w.heap.size ≤ pr by have := HP.out; omega) ha hbf
set_option maxHeartbeats 1000000 in
theorem rvvalid_b (k : Int) (n c : List UInt8) (b : Bool) (w : World) (HB : Hid (b = vvalid k n c)) (hnl : n.length ≤ 1000000) : Calls Tryz.prog 38 #[valV k n c] w fun e w' => e = .returned (.bool b) ∧ Below w.heap.size w w' := by
 obtain ⟨w0, hw0⟩ : ∃ w0, w0 = (w.alloc (.cells #[.int .i64 k, .string ⟨n.toArray⟩, .string ⟨c.toArray⟩] 30)) := ⟨_, rfl⟩
 have hbf : Below w.heap.size w w0 := by rw [hw0]; exact ((Below.refl _ w).alloc (Nat.le_refl _) _)
 obtain ⟨pv, hpv⟩ : ∃ p, p = w.heap.size := ⟨_, rfl⟩
 have hbv : Box3 w0 pv (Value.int .i64 k) (Value.string ⟨n.toArray⟩) (Value.string ⟨c.toArray⟩) := by rw [hw0, hpv]; exact ⟨by go_simp, by go_simp, by go_simp, by go_simp, by go_simp, by go_simp⟩
 have HP : Hid (w.heap.size ≤ pv) := Lib.hid (by omega)
 have HW := Lib.hid hw0; clear hw0
 go_enter Tryz.func38, Tryz.ntmps38
 go_upto_region 1 with fail
 rw [← HW.out, ← hpv]
 clear hpv HW
 by_cases hk0 : k = 0
 case pos =>
  subst hk0
  by_cases hn : n = []
  case pos =>
   subst hn
   by_cases hc : c = []
   case pos =>
    subst hc
    have ev0 := hbv.c0
    have ev1 := hbv.c1
    have ev2 := hbv.c2
    go_wp2_with fail
    go_ret
    exact ⟨ret_one (congrArg Value.bool (by rw [HB.out]; rfl)), hbf⟩
   case neg =>
    have hcb := nilb hc
    have ev0 := hbv.c0
    have ev1 := hbv.c1
    have ev2 := hbv.c2
    go_wp2_with fail
    go_ret
    exact ⟨ret_one (congrArg Value.bool (by rw [HB.out]; unfold vvalid; simp [hc])), hbf⟩
  case neg =>
   have hnb := nilb hn
   have ev0 := hbv.c0
   have ev1 := hbv.c1
   have ev2 := hbv.c2
   go_wp2_with fail
   go_ret
   exact ⟨ret_one (congrArg Value.bool (by rw [HB.out]; unfold vvalid; simp [hn])), hbf⟩
 case neg =>
  have hkb0 : (k == 0) = false := by rw [beq_eq_false_iff_ne]; exact hk0
  by_cases hk1 : k = 1
  case pos =>
   subst hk1
   clear hkb0
   have HB2 : Hid (b = vnum 1 n c) := Lib.hid (by rw [HB.out]; rfl)
   obtain ⟨q, hq⟩ : ∃ q, q = qval n := ⟨_, rfl⟩
   have HQ := Lib.hid hq
   clear hq
   have ev0 := hbv.c0
   have ev1 := hbv.c1
   have ev2 := hbv.c2
   go_wp2_with fail
   refine (rvnum_q 1 n c q b _ HB2 HQ hnl).mono ?_
   rintro e w1 hq9
   obtain ⟨aB, axO, axL, axC, ayO, ayL, ayC, rfl, hS, hax, hay, ha, hb⟩ := hq9.out
   have HaS := Lib.hid hS; clear hS
   clear ev0 ev1 ev2
   replace hbv := hbv.kept hb
   replace hbf := hbf.trans (hb.mono hbf.size)
   clear hb
   obtain ⟨w2, hwE⟩ : ∃ W, W = (w1.alloc (.cells #[.bool aB, .slice axO axL axC, .slice ayO ayL ayC] 98)) := ⟨_, rfl⟩
   have hb : Below w1.heap.size w1 w2 := by rw [hwE]; exact ((Below.refl _ w1).alloc (Nat.le_refl _) _)
   obtain ⟨pa, hpa⟩ : ∃ p, p = w1.heap.size := ⟨_, rfl⟩
   have hba : Box3 w2 pa (Value.bool aB) (Value.slice axO axL axC) (Value.slice ayO ayL ayC) := by rw [hwE, hpa]; exact ⟨by go_simp, by go_simp, by go_simp, by go_simp, by go_simp, by go_simp⟩
   replace HP : Hid (w.heap.size ≤ pv ∧ pv < pa) := Lib.hid (by have h1 := HP.out; have h9 := hbf.size; have h2v := hbv.lt; omega)
   have HW := Lib.hid hwE; clear hwE
   go_upto_region 6 with fail
   rw [← HW.out, ← hpa]
   clear hpa HW
   replace hbv := hbv.kept hb
   replace hax := hax.below hb
   replace hay := hay.below hb
   replace ha := ha.below hb
   replace hbf := hbf.trans (hb.mono hbf.size)
   clear hb
   go_wp2_with fail
   go_ret
   exact ⟨rfl, hbf⟩
  case neg =>
   have hkb1 : (k == 1) = false := by rw [beq_eq_false_iff_ne]; exact hk1
   by_cases hk2 : k = 2
   case pos =>
    subst hk2
    clear hkb0 hkb1
    by_cases hn : n = []
    case pos =>
     subst hn
     by_cases hcl : c.length ≤ 60
     case pos =>
      have hci : ((c.length : Nat) : Int) ≤ 60 := by omega
      have ev0 := hbv.c0
      have ev1 := hbv.c1
      have ev2 := hbv.c2
      go_wp2_with fail
      go_ret
      exact ⟨ret_one (congrArg Value.bool (by rw [HB.out]; unfold vvalid; simp [hcl])), hbf⟩
     case neg =>
      have hci : ¬ ((c.length : Nat) : Int) ≤ 60 := by omega
      have ev0 := hbv.c0
      have ev1 := hbv.c1
      have ev2 := hbv.c2
      go_wp2_with fail
      go_ret
      exact ⟨ret_one (congrArg Value.bool (by rw [HB.out]; unfold vvalid; simp [hcl])), hbf⟩
    case neg =>
     have hnb := nilb hn
     have ev0 := hbv.c0
     have ev1 := hbv.c1
     have ev2 := hbv.c2
     go_wp2_with fail
     go_ret
     exact ⟨ret_one (congrArg Value.bool (by rw [HB.out]; unfold vvalid; simp [hn])), hbf⟩
   case neg =>
    have hkb2 : (k == 2) = false := by rw [beq_eq_false_iff_ne]; exact hk2
    have ev0 := hbv.c0
    have ev1 := hbv.c1
    have ev2 := hbv.c2
    go_wp2_with fail
    go_ret
    exact ⟨ret_one (congrArg Value.bool (by rw [HB.out]; unfold vvalid vnum; simp [hk0, hk1, hk2])), hbf⟩
end Go.Proofs.YtcpfanpcdkoiaaaGreatDoor

namespace Go.Proofs.YtcpfanpcdkoiaaaGreatDoor
open Go.RowKit


attribute [local go_sem] field_nat
theorem fit_mem {vals : List (List UInt8)} {c : List UInt8} {i : Nat} (h : c ∉ vals.take i) (hi : i < vals.length) (hne : vals[i] ≠ c) : c ∉ vals.take (i + 1) := by
 rw [List.take_succ_eq_append_getElem hi, List.mem_append]
 rintro (h1 | h1)
 ·exact h h1
 ·simp at h1; exact hne h1.symm
set_option maxHeartbeats 2000000 in
theorem rfit_any (x : FV) (k : Int) (n c : List UInt8) (b : Bool) (w : World) (hs : Strs w (.slice x.vo x.f.vals.length x.vc) x.f.vals) (HB : Hid (b = fitB x.f ⟨k, n, c⟩)) :
  Calls Tryz.prog 11 #[x.val, valV k n c] w fun e w' => e = .returned (.bool b) ∧ Below w.heap.size w w' := by
 obtain ⟨⟨nm, fk, vals, ⟨rk, rn, rc⟩, inv⟩, vo, vc⟩ := x
 dsimp only at hs
 show Calls Tryz.prog 11 #[.agg #[.string ⟨nm.toArray⟩, .int .i64 fk, .slice vo vals.length vc, .int .i64 rk, .string ⟨rn.toArray⟩, .string ⟨rc.toArray⟩, .int .i64 inv], valV k n c] w fun e w' => e = .returned (.bool b) ∧ Below w.heap.size w w'
 obtain ⟨w0, hw0, hb0, hz0, pf, hpf, hbx⟩ := boxF w nm fk vo vals.length vc rk rn rc inv
 obtain ⟨w1, hw1, hb1, hz1, pv, hpv, hbv⟩ := boxV w0 k n c
 have hbf : Below w.heap.size w w1 := hb0.trans (hb1.mono hb0.size)
 replace hbx := hbx.kept hb1
 replace hs := hs.below hbf
 have HS := Lib.hid hs
 have HW1 := Lib.hid hw1
 have HW0 := Lib.hid hw0
 have HPV : Hid (w.heap.size + 1 = pv) := Lib.hid (by rw [hpv, hz0])
 have HPF := Lib.hid hpf
 clear hs hw1 hw0 hpv hpf hb0 hb1 hz0 hz1
 go_enter Tryz.func11, Tryz.ntmps11
 go_upto_region 1 with fail
 rw [← HW0.out, ← HW1.out, HPV.out, ← HPF.out]
 clear HPV HPF HW1 HW0
 obtain ⟨f0, f1, f2, f3, f4, f5, f6⟩ := hbx.c7
 have v0 := hbv.c0
 have v1 := hbv.c1
 have v2 := hbv.c2
 clear f0 f3 f4 f5 f6 v1
 by_cases hf1 : fk = 1
 ·subst hf1
  by_cases hk1 : k = 1
  ·subst hk1
   have HB3 : Hid (b = true) := Lib.hid (by rw [HB.out]; rfl)
   go_wp2_with fail
   go_ret
   exact ⟨ret_one (congrArg Value.bool (by rw [HB3.out])), hbf⟩
  ·have hkb : (k == 1) = false := by rw [beq_eq_false_iff_ne]; exact hk1
   have HB3 : Hid (b = false) := Lib.hid (by rw [HB.out]; unfold fitB; simp [hk1])
   go_wp2_with fail
   go_ret
   exact ⟨ret_one (congrArg Value.bool (by rw [HB3.out])), hbf⟩
 ·have hfb : (fk == 1) = false := by rw [beq_eq_false_iff_ne]; exact hf1
  by_cases hf2 : fk = 2
  case neg =>
   have hfn : (fk != 2) = true := by rw [bne_iff_ne]; exact hf2
   have HB3 : Hid (b = false) := Lib.hid (by rw [HB.out]; unfold fitB; simp [hf1, hf2])
   go_wp2_with fail
   go_ret
   exact ⟨ret_one (congrArg Value.bool (by rw [HB3.out])), hbf⟩
  case pos =>
  subst hf2
  by_cases hk2 : k = 2
  case neg =>
   have hkn : (k != 2) = true := by rw [bne_iff_ne]; exact hk2
   have HB3 : Hid (b = false) := Lib.hid (by rw [HB.out]; unfold fitB; by_cases h1 : k = 1 <;> simp [h1, hk2])
   go_wp2_with fail
   go_ret
   exact ⟨ret_one (congrArg Value.bool (by rw [HB3.out])), hbf⟩
  case pos =>
  subst hk2
  have HB3 : Hid (b = (decide (vals = []) || decide (c ∈ vals))) := Lib.hid (by rw [HB.out]; rfl)
  have hlen := (HS.out.lenle).2
  clear HB hfb hf1
  go_wp2_with fail
  clear f1 f2 v0 v2
  go_loopg [5] vals.length (fun gg iv wr => ∃ (i : Nat), i + gg = vals.length ∧ iv = .int .i64 (i : Int) ∧ Hid (c ∉ vals.take i) ∧ Below w1.heap.size w1 wr)
  case atStart => exact ⟨0, by omega, rfl, Lib.hid (by simp), Below.refl _ _⟩
  case round =>
   obtain ⟨i, hi, rfl, HM, hb⟩ := hrel
   obtain ⟨f0, f1, f2, f3, f4, f5, f6⟩ := (hbx.kept hb).c7
   have hbv2 := hbv.kept hb
   have v2 := hbv2.c2
   clear f0 f1 f3 f4 f5 f6 hbv2
   by_cases hil : i < vals.length
   ·have hii : ((i : Nat) : Int) < ((vals.length : Nat) : Int) := by omega
    have hi0 : (0 : Int) ≤ ((i : Nat) : Int) := by omega
    obtain ⟨sb, soff, hvo, hcc⟩ := (HS.out.below hb).cellAt hil
    have cs := hcc.cell
    rw [List.getElem?_eq_getElem hil, Option.getD_some] at cs
    obtain ⟨y, hy⟩ : ∃ y, vals[i] = y := ⟨_, rfl⟩
    rw [hy] at cs
    rw [hvo] at f2
    have HY := Lib.hid hy
    clear hy hvo hcc
    by_cases q : y = c
    ·have HB4 : Hid (b = true) := Lib.hid (by
      rw [HB3.out, decide_eq_true (show c ∈ vals by rw [← q, ← HY.out]; exact List.getElem_mem hil)]; simp)
     have q2 : (y == c) = true := by rw [q]; exact beq_self_eq_true _
     clear HY HM
     subst q
     go_wp2_with fail
     go_quiet (fail)
     go_wp2_with fail
     go_ret
     exact ⟨ret_one (congrArg Value.bool (by rw [HB4.out])), by have h9 := hbf.trans (hb.mono hbf.size); exact ⟨h9.os, h9.tape, h9.output, h9.size, h9.block⟩⟩
    ·have HM2 : Hid (c ∉ vals.take (i + 1)) := Lib.hid (fit_mem HM.out hil (by rw [HY.out]; exact q))
     have q2 : (y == c) = false := by rw [beq_eq_false_iff_ne]; exact q
     clear HY HM q
     go_wp2_with fail
     go_quiet (fail)
     go_wp2_with fail
     go_roundg (gk - 1)
     case measure => omega
     case rel => exact ⟨i + 1, by omega, by go_num, HM2, ⟨hb.os, hb.tape, hb.output, hb.size, hb.block⟩⟩
   ·have hii : ¬ ((i : Nat) : Int) < ((vals.length : Nat) : Int) := by omega
    have HM2 : Hid (c ∉ vals) := Lib.hid (by have h := HM.out; rw [List.take_of_length_le (by omega)] at h; exact h)
    by_cases h0 : vals.length = 0
    ·have h0i : (((vals.length : Nat) : Int) == 0) = true := by rw [beq_iff_eq]; omega
     have HB4 : Hid (b = true) := Lib.hid (by rw [HB3.out, decide_eq_true (List.eq_nil_of_length_eq_zero h0)]; rfl)
     clear HM HM2 HB3 h0
     go_wp2_with fail
     go_ret
     exact ⟨ret_one (congrArg Value.bool (by rw [HB4.out])), hbf.trans (hb.mono hbf.size)⟩
    ·have h0i : (((vals.length : Nat) : Int) == 0) = false := by rw [beq_eq_false_iff_ne]; omega
     have HB4 : Hid (b = false) := Lib.hid (by rw [HB3.out, decide_eq_false HM2.out, decide_eq_false (fun e => h0 (by rw [e]; rfl))]; rfl)
     clear HM HM2 HB3
     go_wp2_with fail
     go_ret
     exact ⟨ret_one (congrArg Value.bool (by rw [HB4.out])), hbf.trans (hb.mono hbf.size)⟩
theorem rvvalid_h (k : Int) (n c : List UInt8) (b : Bool) (w : World) (HB : Hid (vvalid k n c = b)) (hnl : Hid (n.length ≤ 1000000)) : Calls Tryz.prog 38 #[valV k n c] w fun e w' => e = .returned (.bool b) ∧ Below w.heap.size w w' :=
 rvvalid_b k n c b w (Lib.hid HB.out.symm) hnl.out
set_option maxHeartbeats 4000000 in
theorem rvalidF_any (x : FV) (b : Bool) (w : World) (hs : Strs w (.slice x.vo x.f.vals.length x.vc) x.f.vals) (hrn : x.f.r.n.length ≤ 1000000) (HB : Hid (b = validF x.f)) :
  Calls Tryz.prog 9 #[x.val] w fun e w' => e = .returned (.bool b) ∧ Below w.heap.size w w' := by
 obtain ⟨f, vo, vc⟩ := x
 obtain ⟨nm, fk, vals, ⟨rk, rn, rc⟩, inv⟩ := f
 dsimp only at hs hrn HB
 show Calls Tryz.prog 9 #[.agg #[.string ⟨nm.toArray⟩, .int .i64 fk, .slice vo vals.length vc, .int .i64 rk, .string ⟨rn.toArray⟩, .string ⟨rc.toArray⟩, .int .i64 inv]] w fun e w' => e = .returned (.bool b) ∧ Below w.heap.size w w'
 obtain ⟨w0, hw0, hbf, hz0, pf, hpf, hbx⟩ := boxF w nm fk vo vals.length vc rk rn rc inv
 replace hs := hs.below hbf
 have HS := Lib.hid hs
 have HRN := Lib.hid hrn
 have HW0 := Lib.hid hw0
 have HPF := Lib.hid hpf
 have hlen := (hs.lenle).2
 clear hs hw0 hpf hz0 hrn
 go_enter Tryz.func9, Tryz.ntmps9
 go_upto_region 1 with fail
 rw [← HW0.out, ← HPF.out]
 clear HPF HW0
 obtain ⟨f0, f1, f2, f3, f4, f5, f6⟩ := hbx.c7
 by_cases hg : (1 ≤ nm.length ∧ nm.length ≤ 60) ∧ (fk = 1 ∨ fk = 2) ∧ (1 ≤ inv ∧ inv ≤ 3) ∧ vals.length ≤ 100 ∧ ¬ (fk = 1 ∧ vals ≠ [])
 case neg =>
  have HB3 : Hid (b = false) := Lib.hid (by
   rw [HB.out, Bool.eq_false_iff]
   intro h
   unfold validF at h
   simp only [Bool.and_eq_true, decide_eq_true_eq] at h
   exact hg ⟨h.1, h.2.1, by omega, h.2.2.2.2.1.2, h.2.2.2.1⟩)
  clear HB
  by_cases q1 : nm.length < 1
  ·have q1i : ((nm.length : Nat) : Int) < 1 := by omega
   go_wp2_with fail
   go_ret
   exact ⟨ret_one (congrArg Value.bool (by rw [HB3.out])), hbf⟩
  have q1i : ¬ ((nm.length : Nat) : Int) < 1 := by omega
  by_cases q2 : 60 < nm.length
  ·have q2i : (60 : Int) < ((nm.length : Nat) : Int) := by omega
   go_wp2_with fail
   go_ret
   exact ⟨ret_one (congrArg Value.bool (by rw [HB3.out])), hbf⟩
  have q2i : ¬ (60 : Int) < ((nm.length : Nat) : Int) := by omega
  by_cases hf1 : fk = 1
  ·subst hf1
   by_cases i1 : inv < 1
   ·go_wp2_with fail
    go_ret
    exact ⟨ret_one (congrArg Value.bool (by rw [HB3.out])), hbf⟩
   by_cases i2 : 3 < inv
   ·go_wp2_with fail
    go_ret
    exact ⟨ret_one (congrArg Value.bool (by rw [HB3.out])), hbf⟩
   by_cases i3 : 100 < vals.length
   ·have i3i : (100 : Int) < ((vals.length : Nat) : Int) := by omega
    go_wp2_with fail
    go_ret
    exact ⟨ret_one (congrArg Value.bool (by rw [HB3.out])), hbf⟩
   have i3i : ¬ (100 : Int) < ((vals.length : Nat) : Int) := by omega
   have hvp : (0 : Int) < ((vals.length : Nat) : Int) := by
    rcases Nat.eq_zero_or_pos vals.length with h0 | h0
    ·exact (hg ⟨by omega, .inl rfl, by omega, by omega, fun h => h.2 (List.eq_nil_of_length_eq_zero h0)⟩).elim
    ·omega
   go_wp2_with fail
   go_ret
   exact ⟨ret_one (congrArg Value.bool (by rw [HB3.out])), hbf⟩
  have hfn1 : (fk != 1) = true := by rw [bne_iff_ne]; exact hf1
  by_cases hf2 : fk = 2
  ·subst hf2
   by_cases i1 : inv < 1
   ·go_wp2_with fail
    go_ret
    exact ⟨ret_one (congrArg Value.bool (by rw [HB3.out])), hbf⟩
   by_cases i2 : 3 < inv
   ·go_wp2_with fail
    go_ret
    exact ⟨ret_one (congrArg Value.bool (by rw [HB3.out])), hbf⟩
   have i3 : 100 < vals.length := by
    rcases Nat.lt_or_ge 100 vals.length with h0 | h0
    ·exact h0
    ·exact (hg ⟨by omega, .inr rfl, by omega, h0, fun h => by omega⟩).elim
   have i3i : (100 : Int) < ((vals.length : Nat) : Int) := by omega
   go_wp2_with fail
   go_ret
   exact ⟨ret_one (congrArg Value.bool (by rw [HB3.out])), hbf⟩
  have hfn2 : (fk != 2) = true := by rw [bne_iff_ne]; exact hf2
  go_wp2_with fail
  go_ret
  exact ⟨ret_one (congrArg Value.bool (by rw [HB3.out])), hbf⟩
 case pos =>
  obtain ⟨g1, g2, g3, g4, g5⟩ := hg
  have HB2 : Hid (b = (declB [] vals && (vvalid rk rn rc && (decide (rk = 0) || fitB ⟨nm, fk, vals, ⟨rk, rn, rc⟩, inv⟩ ⟨rk, rn, rc⟩)))) := Lib.hid (by
   rw [HB.out]; unfold validF; dsimp only
   rw [decide_eq_true g1, decide_eq_true g2, decide_eq_true (show inv = 1 ∨ inv = 2 ∨ inv = 3 by omega), decide_eq_true g5, decide_eq_true g4]
   simp)
  have hft : Hid (∀ (W : World) (c : Bool), Strs W (.slice vo vals.length vc) vals → Hid (c = fitB ⟨nm, fk, vals, ⟨rk, rn, rc⟩, inv⟩ ⟨rk, rn, rc⟩) → Calls Tryz.prog 11 #[.agg #[.string ⟨nm.toArray⟩, .int .i64 fk, .slice vo vals.length vc, .int .i64 rk, .string ⟨rn.toArray⟩, .string ⟨rc.toArray⟩, .int .i64 inv], valV rk rn rc] W fun e w' => e = .returned (.bool c) ∧ Below W.heap.size W w') := Lib.hid (fun W c h1 h2 => rfit_any ⟨⟨nm, fk, vals, ⟨rk, rn, rc⟩, inv⟩, vo, vc⟩ rk rn rc c W h1 h2)
  obtain ⟨ft, hft2⟩ : ∃ ft, ft = fitB ⟨nm, fk, vals, ⟨rk, rn, rc⟩, inv⟩ ⟨rk, rn, rc⟩ := ⟨_, rfl⟩
  obtain ⟨v, hv⟩ : ∃ v, vvalid rk rn rc = v := ⟨_, rfl⟩
  have HFT := Lib.hid hft2
  have HV := Lib.hid hv
  rw [hv, ← hft2] at HB2
  clear HB hft2 hv
  go_cut [51] from 5 to 51 (fun c wx => c = .bool false ∧ wx = w0)
  case first =>
   have q1i : ¬ ((nm.length : Nat) : Int) < 1 := by omega
   have q2i : ¬ (60 : Int) < ((nm.length : Nat) : Int) := by omega
   have q3 : ¬ inv < 1 := by omega
   have q4 : ¬ 3 < inv := by omega
   have q5 : ¬ (100 : Int) < ((vals.length : Nat) : Int) := by omega
   rcases g2 with rfl | rfl
   ·have hv0 : vals = [] := Decidable.not_not.1 (fun h => g5 ⟨rfl, h⟩)
    have hv1 : ¬ 0 < vals.length := by rw [hv0]; simp
    clear g5 hv0
    go_wp2_with fail
    go_meet
    case rel => exact ⟨rfl, rfl⟩
   ·clear g5
    go_wp2_with fail
    go_meet
    case rel => exact ⟨rfl, rfl⟩
  case rest =>
  obtain ⟨rfl, hwc⟩ := hcut
  subst hwc
  obtain ⟨w0, hwE⟩ : ∃ W, W = wc := ⟨_, rfl⟩
  subst hwE
  clear g1 g2 g3 g5
  go_wp2_with fail
  clear f0 f1 f2 f3 f4 f5 f6
  go_loopg [3] vals.length (fun gg iv wr => ∃ (i : Nat), i + gg = vals.length ∧ iv = .int .i64 (i : Int) ∧ Hid (declB (vals.take i) (vals.drop i) = declB [] vals) ∧ Below w0.heap.size w0 wr)
  case atStart => exact ⟨0, by omega, rfl, Lib.hid (by rw [List.take_zero, List.drop_zero]), Below.refl _ _⟩
  case round =>
   obtain ⟨i, hi, rfl, HD, hb⟩ := hrel
   obtain ⟨f0, f1, f2, f3, f4, f5, f6⟩ := (hbx.kept hb).c7
   by_cases hil : i < vals.length
   ·clear f0 f1 f3 f4 f5 f6
    have hii : ((i : Nat) : Int) < ((vals.length : Nat) : Int) := by omega
    have hi0 : (0 : Int) ≤ ((i : Nat) : Int) := by omega
    obtain ⟨sb, soff, hvo, hcc⟩ := (HS.out.below hb).cellAt hil
    have cs := hcc.cell
    rw [List.getElem?_eq_getElem hil, Option.getD_some] at cs
    obtain ⟨y, hy⟩ : ∃ y, vals[i] = y := ⟨_, rfl⟩
    rw [hy] at cs
    rw [hvo] at f2
    have HVO := Lib.hid hvo
    have HDS : Hid ((decide (y.length ≤ 60) && (decide (y ∉ vals.take i) && declB (vals.take (i + 1)) (vals.drop (i + 1)))) = declB [] vals) := Lib.hid (by rw [← HD.out, declB_step hil, hy])
    have HYI : Hid (vals[i]? = some y) := Lib.hid (by rw [List.getElem?_eq_getElem hil, hy])
    clear hy hvo hcc HD
    by_cases hy6 : 60 < y.length
    ·have hy6i : (60 : Int) < ((y.length : Nat) : Int) := by omega
     have HB4 : Hid (b = false) := Lib.hid (by rw [HB2.out, ← HDS.out, decide_eq_false (show ¬ y.length ≤ 60 by omega)]; rfl)
     clear HDS HB2
     go_wp2_with fail
     go_ret
     exact ⟨ret_one (congrArg Value.bool (by rw [HB4.out])), hbf.trans (hb.mono hbf.size)⟩
    ·have hy6i : ¬ (60 : Int) < ((y.length : Nat) : Int) := by omega
     have HDS2 : Hid ((decide (y ∉ vals.take i) && declB (vals.take (i + 1)) (vals.drop (i + 1))) = declB [] vals) := Lib.hid (by rw [← HDS.out, decide_eq_true (show y.length ≤ 60 by omega)]; rfl)
     clear HDS
     go_wp2_with fail
     obtain ⟨go, hgo⟩ : ∃ go, go = gk := ⟨_, rfl⟩
     subst hgo
     obtain ⟨w1, hwE⟩ : ∃ W, W = wr := ⟨_, rfl⟩
     subst hwE
     clear f2 cs
     go_loopg [4] i (fun gg kv wr => ∃ (k : Nat), k + gg = i ∧ kv = .int .i64 (k : Int) ∧ Hid (y ∉ vals.take k) ∧ Below w0.heap.size w0 wr)
     case atStart => exact ⟨0, by omega, rfl, Lib.hid (by simp), hb⟩
     clear hb
     case round =>
      obtain ⟨k, hk, rfl, HM, hb⟩ := hrel
      by_cases hki : k < i
      ·have hkii : ((k : Nat) : Int) < ((i : Nat) : Int) := by omega
       have hkl : ((k : Nat) : Int) < ((vals.length : Nat) : Int) := by omega
       have hk0 : (0 : Int) ≤ ((k : Nat) : Int) := by omega
       obtain ⟨f0, f1, f2, f3, f4, f5, f6⟩ := (hbx.kept hb).c7
       obtain ⟨sb2, soff2, hvo2, hcc2⟩ := (HS.out.below hb).cellAt (k := k) (by omega)
       obtain ⟨sb3, soff3, hvo3, hcc3⟩ := (HS.out.below hb).cellAt hil
       obtain ⟨rfl, rfl⟩ : sb2 = sb3 ∧ soff2 = soff3 := by rw [hvo2] at hvo3; cases hvo3; exact ⟨rfl, rfl⟩
       have ck := hcc2.cell
       have ci := hcc3.cell
       rw [List.getElem?_eq_getElem (by omega), Option.getD_some] at ck ci
       obtain ⟨y2, hy2⟩ : ∃ y, vals[k] = y := ⟨_, rfl⟩
       obtain ⟨y3, hy3⟩ : ∃ y, vals[i] = y := ⟨_, rfl⟩
       rw [hy2] at ck
       rw [hy3] at ci
       rw [hvo2] at f2
       have HY2 := Lib.hid hy2
       have HY3 : Hid (y3 = y) := Lib.hid (by have h9 := HYI.out; rw [List.getElem?_eq_getElem hil, hy3] at h9; exact Option.some.inj h9)
       clear f0 f1 f3 f4 f5 f6 hvo2 hvo3 hcc2 hcc3 hy2 hy3
       by_cases q : y2 = y3
       ·have HB4 : Hid (b = false) := Lib.hid (by
         have hmem : y ∈ vals.take i := by
          rw [← HY3.out, ← q, ← HY2.out]
          exact List.mem_take_iff_getElem.2 ⟨k, by omega, rfl⟩
         rw [HB2.out, ← HDS2.out, decide_eq_false (fun h => h hmem)]; rfl)
        have q2 : (y2 == y3) = true := by rw [q]; exact beq_self_eq_true _
        clear HDS2 HB2 HM HY2
        subst q
        go_wp2_with fail
        go_quiet (fail)
        go_wp2_with fail
        go_ret
        exact ⟨ret_one (congrArg Value.bool (by rw [HB4.out])), by have h9 := hbf.trans (hb.mono hbf.size); exact ⟨h9.os, h9.tape, h9.output, h9.size, h9.block⟩⟩
       ·have q2 : (y2 == y3) = false := by rw [beq_eq_false_iff_ne]; exact q
        have HM2 : Hid (y ∉ vals.take (k + 1)) := Lib.hid (fit_mem HM.out (by omega) (by rw [HY2.out, ← HY3.out]; exact q))
        clear HM HY2 HY3 q
        go_wp2_with fail
        go_quiet (fail)
        go_wp2_with fail
        go_roundg (gk - 1)
        case measure => omega
        case rel => exact ⟨k + 1, by omega, by go_num, HM2, ⟨hb.os, hb.tape, hb.output, hb.size, hb.block⟩⟩
      ·have hkii : ¬ ((k : Nat) : Int) < ((i : Nat) : Int) := by omega
       obtain rfl : k = i := by omega
       have HD2 : Hid (declB (vals.take (k + 1)) (vals.drop (k + 1)) = declB [] vals) := Lib.hid (by rw [← HDS2.out, decide_eq_true HM.out]; rfl)
       clear HDS2 HM
       go_wp2_with fail
       go_roundg (go - 1)
       case measure => omega
       case rel => exact ⟨k + 1, by omega, by go_num, HD2, hb⟩
   ·have hii : ¬ ((i : Nat) : Int) < ((vals.length : Nat) : Int) := by omega
    have HB4 : Hid (b = (v && (decide (rk = 0) || ft))) := Lib.hid (by
     rw [HB2.out, ← HD.out, List.drop_eq_nil_of_le (show vals.length ≤ i by omega)]
     rfl)
    clear HD HB2
    go_wp2_with fail
    (with_reducible refine (rvvalid_h rk rn rc v _ HV HRN).mono ?_)
    rintro e w2 ⟨rfl, hb2⟩
    replace hb := hb.trans (hb2.mono hb.size)
    clear f0 f1 f2 f3 f4 f5 f6 hb2
    obtain ⟨f0, f1, f2, f3, f4, f5, f6⟩ := (hbx.kept hb).c7
    cases v
    ·go_wp2_with fail
     go_ret
     exact ⟨ret_one (congrArg Value.bool (by rw [HB4.out]; rfl)), hbf.trans (hb.mono hbf.size)⟩
    ·by_cases hr0 : rk = 0
     ·subst hr0
      go_wp2_with fail
      go_ret
      exact ⟨ret_one (congrArg Value.bool (by rw [HB4.out]; rfl)), hbf.trans (hb.mono hbf.size)⟩
     ·have hrb : (rk == 0) = false := by rw [beq_eq_false_iff_ne]; exact hr0
      have HB5 : Hid (b = ft) := Lib.hid (by rw [HB4.out, decide_eq_false hr0]; simp)
      clear HB4
      go_wp2_with fail
      (with_reducible refine (hft.out w2 ft (HS.out.below hb) HFT).mono ?_)
      rintro e w3 ⟨rfl, hb3⟩
      replace hb := hb.trans (hb3.mono hb.size)
      clear f0 f1 f2 f3 f4 f5 f6 hb3
      go_wp2_with fail
      go_ret
      exact ⟨ret_one (congrArg Value.bool (by rw [HB5.out])), hbf.trans (hb.mono hbf.size)⟩
end Go.Proofs.YtcpfanpcdkoiaaaGreatDoor
