/-
  Ph22: TreJ TreK MathTf MathTg TreL MathTi (what is needed of them).
-/
import Derived.Test.YtlmjkbdodecbmaaGreatDoorPh11
import Derived.Test.YtlmjkbdodecbmaaGreatDoorPh16
import Derived.Test.YtlmjkbdodecbmaaGreatDoorPh21
import Derived.BigQuiet

namespace Go.Proofs.YtlmjkbdodecbmaaGreatDoor
open Go.RowKit
set_option linter.unusedVariables false
set_option linter.unusedSimpArgs false
attribute [local go_sem] field_nat
set_option maxRecDepth 100000 in
set_option maxHeartbeats 2000000 in
theorem vsame_self (k : Int) (n c : List UInt8) (w : World) : Calls Tryz.prog 116 #[valV k n c, valV k n c] w fun e w' => e = .returned (.bool true) ∧ Below w.heap.size w w' := by
  obtain ⟨w0, hw0, hb0, hz0, pa, hpa, hba⟩ := boxV w k n c
  obtain ⟨w1, hw1, hb1, hz1, pb, hpb, hbb⟩ := boxV w0 k n c
  have hbf : Below w.heap.size w w1 := hb0.trans (hb1.mono hb0.size)
  replace hba := hba.kept hb1
  have HW1 := Lib.hid hw1
  have HW0 := Lib.hid hw0
  have HPB : Hid (w.heap.size + 1 = pb) := Lib.hid (by rw [hpb, hz0])
  have HPA := Lib.hid hpa
  clear hw1 hw0 hpb hpa hb0 hb1 hz0 hz1
  go_enter Tryz.func116, Tryz.ntmps116
  go_upto_region 1 with fail
  rw [← HW0.out, ← HW1.out, HPB.out, ← HPA.out]
  clear HW0 HW1 HPB HPA
  have a0 := hba.c0
  have a1 := hba.c1
  have a2 := hba.c2
  have b0 := hbb.c0
  have b1 := hbb.c1
  have b2 := hbb.c2
  go_wp2_with fail
  go_ret
  exact ⟨ret_one rfl, hbf⟩
set_option maxRecDepth 100000 in
set_option maxHeartbeats 2000000 in
/-- EqualFunc, of two alike rows of values. -/
theorem eqV_self (ao bo : Option Addr) (ac bc : Nat) (vs : List V3) (B : Nat) (w : World) (hA : ValsB B w ao ac vs) (hB : ValsB B w bo bc vs) (hBw : B ≤ w.heap.size) :
    Calls Tryz.prog 115 #[.slice ao vs.length ac, .slice bo vs.length bc, .func (.func 116) #[] #[]] w fun e w' => e = .returned (.bool true) ∧ Below w.heap.size w w' := by
  have hbf : Below w.heap.size w w := Below.refl _ _
  have hvl : vs.length ≤ 9223372036854775807 := by have := hA.cap; unfold maxLen at this; omega
  go_enter Tryz.func115, Tryz.ntmps115
  go_wp2_with fail
  go_loopg [17] vs.length (fun gg iv wr => ∃ (i : Nat), i + gg = vs.length ∧ iv = .int .i64 (i : Int) ∧ Below w.heap.size w wr)
  case atStart => exact ⟨0, by omega, rfl, hbf⟩
  clear hbf
  case round =>
    obtain ⟨i, hi, rfl, hbf⟩ := hrel
    by_cases hil : i < vs.length
    case neg =>
      have hii : ¬ ((i : Nat) : Int) < ((vs.length : Nat) : Int) := by omega
      go_wp2_with fail
      go_ret
      exact ⟨ret_one rfl, hbf⟩
    case pos =>
      have hii : ((i : Nat) : Int) < ((vs.length : Nat) : Int) := by omega
      have hqi : (0 : Int) ≤ (i : Int) := by omega
      obtain ⟨v, hv9⟩ : ∃ v, vs[i]? = some v := ⟨_, List.getElem?_eq_getElem hil⟩
      obtain ⟨ab, aoff, ha, a0, a1, a2⟩ := (hA.v.below hbf) i v hv9
      obtain ⟨bb, boff, hb, b0, b1, b2⟩ := (hB.v.below hbf) i v hv9
      obtain ⟨k, n, c⟩ := v
      rw [ha, hb]
      obtain ⟨w1, hw1, hb1, hz1, pa, hpa, hba⟩ := boxV wr k n c
      obtain ⟨w2, hw2, hb2, hz2, pb, hpb, hbb⟩ := boxV w1 k n c
      have c0 := (b0.kept hb1).cell
      have c1 := (b1.kept hb1).cell
      have c2 := (b2.kept hb1).cell
      replace a0 := a0.cell
      replace a1 := a1.cell
      replace a2 := a2.cell
      clear b0 b1 b2
      have HW1 := Lib.hid hw1
      have HW2 := Lib.hid hw2
      have HPA := Lib.hid hpa
      have HPB := Lib.hid hpb
      clear hv9 hw1 hw2 hz1 hz2 hpa hpb
      go_upto_region 6 with fail
      rw [← HW1.out, ← HPA.out]
      clear a0 a1 a2
      go_upto_region 7 with fail
      rw [← HW2.out, ← HPB.out]
      clear HW1 HW2 HPA HPB c0 c1 c2
      replace hba := hba.kept hb2
      replace hbf := (hbf.trans (hb1.mono hbf.size)).trans (hb2.mono (Nat.le_trans hbf.size hb1.size))
      have a0 := hba.c0
      have a1 := hba.c1
      have a2 := hba.c2
      have b0 := hbb.c0
      have b1 := hbb.c1
      have b2 := hbb.c2
      clear hba hbb hb1 hb2
      go_wp2_with fail
      (with_reducible refine (vsame_self k n c _).mono ?_)
      rintro e w4 ⟨rfl, hb4⟩
      replace hbf := hbf.trans (hb4.mono hbf.size)
      clear a0 a1 a2 b0 b1 b2 hb4
      go_wp2_with fail
      rw [← ha, ← hb]
      go_roundg (gk - 1)
      case measure => omega
      case rel => exact ⟨i + 1, by omega, by go_num, hbf⟩
set_option maxRecDepth 100000 in
set_option maxHeartbeats 2000000 in
/-- EqualFunc, of two alike rows of predicates. -/
theorem eqP_self (p : PT) (vo : Option Addr) (vc : Nat) (ko : Option Addr) (kc : Nat) (uo : Option Addr) (uc : Nat) (lo : Option Addr) (lc : Nat) (B : Nat) (w : World) (hA : PtIs B w p vo vc ko kc) (hB : PtIs B w p uo uc lo lc) (hBw : B ≤ w.heap.size)
    (HIH : Hid (∀ k ∈ p.kids, ∀ (vo : Option Addr) (vc : Nat) (ko : Option Addr) (kc : Nat) (uo : Option Addr) (uc : Nat) (lo : Option Addr) (lc : Nat) (B : Nat) (w : World), PtIs B w k vo vc ko kc → PtIs B w k uo uc lo lc → Hid (B ≤ w.heap.size) →
      Calls Tryz.prog 100 #[.agg #[.int .i64 k.op, .int .i64 k.fld, .slice vo k.vals.length vc, .slice ko k.kids.length kc], .agg #[.int .i64 k.op, .int .i64 k.fld, .slice uo k.vals.length uc, .slice lo k.kids.length lc]] w fun e w' => e = .returned (.bool true) ∧ Below w.heap.size w w')) :
    Calls Tryz.prog 117 #[.slice ko p.kids.length kc, .slice lo p.kids.length lc, .func (.func 100) #[] #[]] w fun e w' => e = .returned (.bool true) ∧ Below w.heap.size w w' := by
  have hbf : Below w.heap.size w w := Below.refl _ _
  have hvl : p.kids.length ≤ 9223372036854775807 := Nat.le_trans hA.kcap.1 hA.kcap.2
  go_enter Tryz.func117, Tryz.ntmps117
  go_wp2_with fail
  go_loopg [17] p.kids.length (fun gg iv wr => ∃ (i : Nat), i + gg = p.kids.length ∧ iv = .int .i64 (i : Int) ∧ Below w.heap.size w wr)
  case atStart => exact ⟨0, by omega, rfl, hbf⟩
  clear hbf
  case round =>
    obtain ⟨i, hi, rfl, hbf⟩ := hrel
    by_cases hil : i < p.kids.length
    case neg =>
      have hii : ¬ ((i : Nat) : Int) < ((p.kids.length : Nat) : Int) := by omega
      go_wp2_with fail
      go_ret
      exact ⟨ret_one rfl, hbf⟩
    case pos =>
      have hii : ((i : Nat) : Int) < ((p.kids.length : Nat) : Int) := by omega
      have hqi : (0 : Int) ≤ (i : Int) := by omega
      obtain ⟨k, hk9⟩ : ∃ v, p.kids[i]? = some v := ⟨_, List.getElem?_eq_getElem hil⟩
      have hlow : Low B w wr := Low.of_below hbf hBw
      obtain ⟨ab, aoff, ha, hab, xo, xc, yo, yc, hX, hC⟩ := (hA.low hlow).kid hk9
      obtain ⟨bb, boff, hb, hbb9, so, sc, te, tc, hY, hE⟩ := (hB.low hlow).kid hk9
      have HCK := HIH.out k (List.mem_of_getElem? hk9) xo xc yo yc so sc te tc B
      rw [ha, hb]
      obtain ⟨w1, hw1, hb1, hz1, pa, hpa, hba⟩ := boxP wr k.op k.fld xo k.vals.length xc yo k.kids.length yc
      obtain ⟨w2, hw2, hb2, hz2, pb, hpb, hbb⟩ := boxP w1 k.op k.fld so k.vals.length sc te k.kids.length tc
      obtain ⟨a0, a1, a2, a3⟩ := hC
      obtain ⟨c0, c1, c2, c3⟩ := hE.kept hb1
      have hs0 : B ≤ wr.heap.size := Nat.le_trans hBw hbf.size
      have hs1 : B ≤ w1.heap.size := Nat.le_trans hs0 hb1.size
      have hs2 : B ≤ w2.heap.size := Nat.le_trans hs1 hb2.size
      have hcall := HCK w2 ((hX.low (Low.of_below hb1 hs0)).low (Low.of_below hb2 hs1)) ((hY.low (Low.of_below hb1 hs0)).low (Low.of_below hb2 hs1)) (Lib.hid hs2)
      have HW1 := Lib.hid hw1
      have HW2 := Lib.hid hw2
      have HPA := Lib.hid hpa
      have HPB := Lib.hid hpb
      clear hk9 hw1 hw2 hz1 hz2 hpa hpb HCK hE hX hY hlow hs0 hs1 hs2
      go_upto_region 6 with fail
      rw [← HW1.out, ← HPA.out]
      clear a0 a1 a2 a3
      go_upto_region 7 with fail
      rw [← HW2.out, ← HPB.out]
      clear HW1 HW2 HPA HPB c0 c1 c2 c3
      replace hba := hba.kept hb2
      replace hbf := (hbf.trans (hb1.mono hbf.size)).trans (hb2.mono (Nat.le_trans hbf.size hb1.size))
      have a0 := hba.cell 0 _ rfl
      have a1 := hba.cell 1 _ rfl
      have a2 := hba.cell 2 _ rfl
      have a3 := hba.cell 3 _ rfl
      have b0 := hbb.cell 0 _ rfl
      have b1 := hbb.cell 1 _ rfl
      have b2 := hbb.cell 2 _ rfl
      have b3 := hbb.cell 3 _ rfl
      clear hba hbb hb1 hb2
      go_wp2_with fail
      (with_reducible refine hcall.mono ?_)
      rintro e w4 ⟨rfl, hb4⟩
      replace hbf := hbf.trans (hb4.mono hbf.size)
      clear a0 a1 a2 a3 b0 b1 b2 b3 hb4 hcall
      go_wp2_with fail
      rw [← ha, ← hb]
      go_roundg (gk - 1)
      case measure => omega
      case rel => exact ⟨i + 1, by omega, by go_num, hbf⟩
set_option maxRecDepth 100000 in
set_option maxHeartbeats 2000000 in
/-- Same, of two alike predicates. -/
theorem lsame_self (p : PT) : ∀ (vo : Option Addr) (vc : Nat) (ko : Option Addr) (kc : Nat) (uo : Option Addr) (uc : Nat) (lo : Option Addr) (lc : Nat) (B : Nat) (w : World), PtIs B w p vo vc ko kc → PtIs B w p uo uc lo lc → Hid (B ≤ w.heap.size) →
    Calls Tryz.prog 100 #[.agg #[.int .i64 p.op, .int .i64 p.fld, .slice vo p.vals.length vc, .slice ko p.kids.length kc], .agg #[.int .i64 p.op, .int .i64 p.fld, .slice uo p.vals.length uc, .slice lo p.kids.length lc]] w fun e w' => e = .returned (.bool true) ∧ Below w.heap.size w w' := by
  induction p using PT.ind with
  | h op fld vs ks ih =>
  intro vo vc ko kc uo uc lo lc B w hA hB HBS
  show Calls Tryz.prog 100 #[.agg #[.int .i64 op, .int .i64 fld, .slice vo vs.length vc, .slice ko ks.length kc], .agg #[.int .i64 op, .int .i64 fld, .slice uo vs.length uc, .slice lo ks.length lc]] w fun e w' => e = .returned (.bool true) ∧ Below w.heap.size w w'
  have HIH := Lib.hid ih
  obtain ⟨w0, hw0, hbf, hz0, pa, hpa, hba⟩ := boxP w op fld vo vs.length vc ko ks.length kc
  obtain ⟨w1, hw1, hb1, hz1, pb, hpb, hbb⟩ := boxP w0 op fld uo vs.length uc lo ks.length lc
  replace hba := hba.kept hb1
  replace hbf := hbf.trans (hb1.mono hbf.size)
  replace hA := hA.low (Low.of_below hbf HBS.out)
  replace hB := hB.low (Low.of_below hbf HBS.out)
  have hBS : B ≤ w1.heap.size := Nat.le_trans HBS.out hbf.size
  have hcall := eqV_self vo uo vc uc vs B w1 hA.vals hB.vals hBS
  have HCP : Hid (∀ w2, Below w1.heap.size w1 w2 → Calls Tryz.prog 117 #[.slice ko ks.length kc, .slice lo ks.length lc, .func (.func 100) #[] #[]] w2 fun e w' => e = .returned (.bool true) ∧ Below w2.heap.size w2 w') := Lib.hid (fun w2 hb2 =>
    eqP_self (.mk op fld vs ks) vo vc ko kc uo uc lo lc B w2 (hA.low (Low.of_below hb2 hBS)) (hB.low (Low.of_below hb2 hBS)) (Nat.le_trans hBS hb2.size) HIH)
  have HW0 := Lib.hid hw0
  have HW1 := Lib.hid hw1
  have HPB : Hid (w.heap.size + 1 = pb) := Lib.hid (by rw [hpb, hz0])
  have HPA := Lib.hid hpa
  clear hw0 hw1 hz0 hz1 hpb hpa hb1 ih hA hB HIH
  go_enter Tryz.func100, Tryz.ntmps100
  go_upto_region 1 with fail
  rw [← HW0.out, ← HW1.out, HPB.out, ← HPA.out]
  clear HW0 HW1 HPB HPA
  have a0 := hba.cell 0 _ rfl
  have a1 := hba.cell 1 _ rfl
  have a2 := hba.cell 2 _ rfl
  have a3 := hba.cell 3 _ rfl
  have b0 := hbb.cell 0 _ rfl
  have b1 := hbb.cell 1 _ rfl
  have b2 := hbb.cell 2 _ rfl
  have b3 := hbb.cell 3 _ rfl
  go_wp2_with fail
  (with_reducible refine hcall.mono ?_)
  rintro e w2 ⟨rfl, hb2⟩
  have hcall2 := HCP.out w2 hb2
  replace hbf := hbf.trans (hb2.mono hbf.size)
  replace hba := hba.kept hb2
  replace hbb := hbb.kept hb2
  clear a0 a1 a2 a3 b0 b1 b2 b3 hb2 hcall
  have a3 := hba.cell 3 _ rfl
  have b3 := hbb.cell 3 _ rfl
  go_wp2_with fail
  (with_reducible refine hcall2.mono ?_)
  rintro e w3 ⟨rfl, hb3⟩
  replace hbf := hbf.trans (hb3.mono hbf.size)
  clear a3 b3 hb3 hcall2
  go_wp2_with fail
  go_ret
  exact ⟨ret_one rfl, hbf⟩
end Go.Proofs.YtlmjkbdodecbmaaGreatDoor

namespace Go.Proofs.YtlmjkbdodecbmaaGreatDoor
open Go.RowKit
set_option linter.unusedVariables false
set_option linter.unusedSimpArgs false
attribute [local go_sem] field_nat
set_option maxRecDepth 100000 in
set_option maxHeartbeats 2000000 in
/-- Equal, of two alike rows of ints. -/
theorem eqI_self (ao bo : Option Addr) (ac bc : Nat) (ns : List Int) (B : Nat) (w : World) (hA : IntsB B w ao ac ns) (hB : IntsB B w bo bc ns) (hBw : B ≤ w.heap.size) :
    Calls Tryz.prog 101 #[.slice ao ns.length ac, .slice bo ns.length bc] w fun e w' => e = .returned (.bool true) ∧ Below w.heap.size w w' := by
  have hbf : Below w.heap.size w w := Below.refl _ _
  have hvl := hA.le
  go_enter Tryz.func101, Tryz.ntmps101
  go_wp2_with fail
  go_loopg [13] ns.length (fun gg iv wr => ∃ (i : Nat), i + gg = ns.length ∧ iv = .int .i64 (i : Int) ∧ Below w.heap.size w wr)
  case atStart => exact ⟨0, by omega, rfl, hbf⟩
  clear hbf
  case round =>
    obtain ⟨i, hi, rfl, hbf⟩ := hrel
    by_cases hil : i < ns.length
    case neg =>
      have hii : ¬ ((i : Nat) : Int) < ((ns.length : Nat) : Int) := by omega
      go_wp2_with fail
      go_ret
      exact ⟨ret_one rfl, hbf⟩
    case pos =>
      have hii : ((i : Nat) : Int) < ((ns.length : Nat) : Int) := by omega
      have hqi : (0 : Int) ≤ (i : Int) := by omega
      obtain ⟨v, hv9⟩ : ∃ v, ns[i]? = some v := ⟨_, List.getElem?_eq_getElem hil⟩
      obtain ⟨ab, aoff, ha, ha9, a0⟩ := (hA.low (Low.of_below hbf hBw)).at_ i v hv9
      obtain ⟨bb, boff, hb, hb9, b0⟩ := (hB.low (Low.of_below hbf hBw)).at_ i v hv9
      rw [ha, hb]
      clear hv9
      go_upto_region 6 with fail
      go_quiet (fail)
      go_wp2_with fail
      rw [← ha, ← hb]
      go_roundg (gk - 1)
      case measure => omega
      case rel => exact ⟨i + 1, by omega, by first | rfl | go_num, ⟨hbf.os, hbf.tape, hbf.output, hbf.size, hbf.block⟩⟩
set_option maxRecDepth 100000 in
set_option maxHeartbeats 2000000 in
/-- same, of two alike nodes. -/
theorem tsame_self (x : TN) (l m : NdL) (B : Nat) (w : World) (hA : NdIs B w x l) (hB : NdIs B w x m) (hBw : B ≤ w.heap.size) :
    Calls Tryz.prog 72 #[.agg #[.int .i64 x.p.op, .int .i64 x.p.fld, .slice l.vo x.p.vals.length l.vc, .slice l.ko x.p.kids.length l.kc, .string ⟨x.sc.toArray⟩, .string ⟨x.ct.toArray⟩, .slice l.io x.kids.length l.ic, .int .i64 x.df], .agg #[.int .i64 x.p.op, .int .i64 x.p.fld, .slice m.vo x.p.vals.length m.vc, .slice m.ko x.p.kids.length m.kc, .string ⟨x.sc.toArray⟩, .string ⟨x.ct.toArray⟩, .slice m.io x.kids.length m.ic, .int .i64 x.df]] w fun e w' => e = .returned (.bool true) ∧ Below w.heap.size w w' := by
  obtain ⟨w0, hw0, hbf, hz0, pa, hpa, hba⟩ := boxN w x l
  obtain ⟨w1, hw1, hb1, hz1, pb, hpb, hbb⟩ := boxN w0 x m
  replace hba := hba.kept hb1
  replace hbf := hbf.trans (hb1.mono hbf.size)
  replace hA := hA.low (Low.of_below hbf hBw)
  replace hB := hB.low (Low.of_below hbf hBw)
  have hBS : B ≤ w1.heap.size := Nat.le_trans hBw hbf.size
  have hcall := lsame_self x.p l.vo l.vc l.ko l.kc m.vo m.vc m.ko m.kc B w1 hA.p hB.p (Lib.hid hBS)
  have HCP : Hid (∀ w2, Below w1.heap.size w1 w2 → Calls Tryz.prog 101 #[.slice l.io x.kids.length l.ic, .slice m.io x.kids.length m.ic] w2 fun e w' => e = .returned (.bool true) ∧ Below w2.heap.size w2 w') := Lib.hid (fun w2 hb2 =>
    eqI_self l.io m.io l.ic m.ic x.kids B w2 (hA.k.low (Low.of_below hb2 hBS)) (hB.k.low (Low.of_below hb2 hBS)) (Nat.le_trans hBS hb2.size))
  have HW0 := Lib.hid hw0
  have HW1 := Lib.hid hw1
  have HPB : Hid (w.heap.size + 1 = pb) := Lib.hid (by rw [hpb, hz0])
  have HPA := Lib.hid hpa
  clear hw0 hw1 hz0 hz1 hpb hpa hb1 hA hB
  go_enter Tryz.func72, Tryz.ntmps72
  go_upto_region 1 with fail
  rw [← HW0.out, ← HW1.out, HPB.out, ← HPA.out]
  clear HW0 HW1 HPB HPA
  have a0 := hba.cell 0 _ rfl
  have a1 := hba.cell 1 _ rfl
  have a2 := hba.cell 2 _ rfl
  have a3 := hba.cell 3 _ rfl
  have a4 := hba.cell 4 _ rfl
  have a5 := hba.cell 5 _ rfl
  have a6 := hba.cell 6 _ rfl
  have a7 := hba.cell 7 _ rfl
  have b0 := hbb.cell 0 _ rfl
  have b1 := hbb.cell 1 _ rfl
  have b2 := hbb.cell 2 _ rfl
  have b3 := hbb.cell 3 _ rfl
  have b4 := hbb.cell 4 _ rfl
  have b5 := hbb.cell 5 _ rfl
  have b6 := hbb.cell 6 _ rfl
  have b7 := hbb.cell 7 _ rfl
  go_wp2_with fail
  (with_reducible refine hcall.mono ?_)
  rintro e w2 ⟨rfl, hb2⟩
  have hcall2 := HCP.out w2 hb2
  replace hbf := hbf.trans (hb2.mono hbf.size)
  replace hba := hba.kept hb2
  replace hbb := hbb.kept hb2
  clear a0 a1 a2 a3 a4 a5 a6 a7 b0 b1 b2 b3 b4 b5 b6 b7 hb2 hcall
  have a0 := hba.cell 0 _ rfl
  have a1 := hba.cell 1 _ rfl
  have a2 := hba.cell 2 _ rfl
  have a3 := hba.cell 3 _ rfl
  have a4 := hba.cell 4 _ rfl
  have a5 := hba.cell 5 _ rfl
  have a6 := hba.cell 6 _ rfl
  have a7 := hba.cell 7 _ rfl
  have b0 := hbb.cell 0 _ rfl
  have b1 := hbb.cell 1 _ rfl
  have b2 := hbb.cell 2 _ rfl
  have b3 := hbb.cell 3 _ rfl
  have b4 := hbb.cell 4 _ rfl
  have b5 := hbb.cell 5 _ rfl
  have b6 := hbb.cell 6 _ rfl
  have b7 := hbb.cell 7 _ rfl
  go_wp2_with fail
  (with_reducible refine hcall2.mono ?_)
  rintro e w3 ⟨rfl, hb3⟩
  replace hbf := hbf.trans (hb3.mono hbf.size)
  replace hba := hba.kept hb3
  replace hbb := hbb.kept hb3
  clear a0 a1 a2 a3 a4 a5 a6 a7 b0 b1 b2 b3 b4 b5 b6 b7 hb3 hcall2
  have a0 := hba.cell 0 _ rfl
  have a1 := hba.cell 1 _ rfl
  have a2 := hba.cell 2 _ rfl
  have a3 := hba.cell 3 _ rfl
  have a4 := hba.cell 4 _ rfl
  have a5 := hba.cell 5 _ rfl
  have a6 := hba.cell 6 _ rfl
  have a7 := hba.cell 7 _ rfl
  have b0 := hbb.cell 0 _ rfl
  have b1 := hbb.cell 1 _ rfl
  have b2 := hbb.cell 2 _ rfl
  have b3 := hbb.cell 3 _ rfl
  have b4 := hbb.cell 4 _ rfl
  have b5 := hbb.cell 5 _ rfl
  have b6 := hbb.cell 6 _ rfl
  have b7 := hbb.cell 7 _ rfl
  go_wp2_with fail
  go_ret
  exact ⟨ret_one rfl, hbf⟩
set_option maxRecDepth 100000 in
set_option maxHeartbeats 2000000 in
/-- EqualFunc, of two alike rows of nodes. -/
theorem eqN_self (t : TR) (no mo : Option Addr) (nc mc : Nat) (B : Nat) (w : World) (hA : TrIs B w t no nc) (hB : TrIs B w t mo mc) (hBw : B ≤ w.heap.size) :
    Calls Tryz.prog 71 #[.slice no t.nodes.length nc, .slice mo t.nodes.length mc, .func (.func 72) #[] #[]] w fun e w' => e = .returned (.bool true) ∧ Below w.heap.size w w' := by
  have hbf : Below w.heap.size w w := Below.refl _ _
  have hvl := hA.le
  go_enter Tryz.func71, Tryz.ntmps71
  go_wp2_with fail
  go_loopg [17] t.nodes.length (fun gg iv wr => ∃ (i : Nat), i + gg = t.nodes.length ∧ iv = .int .i64 (i : Int) ∧ Below w.heap.size w wr)
  case atStart => exact ⟨0, by omega, rfl, hbf⟩
  clear hbf
  case round =>
    obtain ⟨i, hi, rfl, hbf⟩ := hrel
    by_cases hil : i < t.nodes.length
    case neg =>
      have hii : ¬ ((i : Nat) : Int) < ((t.nodes.length : Nat) : Int) := by omega
      go_wp2_with fail
      go_ret
      exact ⟨ret_one rfl, hbf⟩
    case pos =>
      have hii : ((i : Nat) : Int) < ((t.nodes.length : Nat) : Int) := by omega
      have hqi : (0 : Int) ≤ (i : Int) := by omega
      obtain ⟨x, hx9⟩ : ∃ v, t.nodes[i]? = some v := ⟨_, List.getElem?_eq_getElem hil⟩
      have hlow : Low B w wr := Low.of_below hbf hBw
      obtain ⟨ab, aoff, l, ha, hab, hX, hC⟩ := (hA.low hlow).at_ i x hx9
      obtain ⟨bb, boff, m, hb, hbb9, hY, hE⟩ := (hB.low hlow).at_ i x hx9
      rw [ha, hb]
      obtain ⟨w1, hw1, hb1, hz1, pa, hpa, hba⟩ := boxN wr x l
      obtain ⟨w2, hw2, hb2, hz2, pb, hpb, hbb⟩ := boxN w1 x m
      obtain ⟨a0, a1, a2, a3, a4, a5, a6, a7⟩ := hC
      obtain ⟨c0, c1, c2, c3, c4, c5, c6, c7⟩ := hE.kept hb1
      have hs0 : B ≤ wr.heap.size := Nat.le_trans hBw hbf.size
      have hs1 : B ≤ w1.heap.size := Nat.le_trans hs0 hb1.size
      have hs2 : B ≤ w2.heap.size := Nat.le_trans hs1 hb2.size
      have hcall := tsame_self x l m B w2 ((hX.low (Low.of_below hb1 hs0)).low (Low.of_below hb2 hs1)) ((hY.low (Low.of_below hb1 hs0)).low (Low.of_below hb2 hs1)) hs2
      have HW1 := Lib.hid hw1
      have HW2 := Lib.hid hw2
      have HPA := Lib.hid hpa
      have HPB := Lib.hid hpb
      clear hx9 hw1 hw2 hz1 hz2 hpa hpb hE hX hY hlow hs0 hs1 hs2
      go_upto_region 6 with fail
      rw [← HW1.out, ← HPA.out]
      clear a0 a1 a2 a3 a4 a5 a6 a7
      go_upto_region 7 with fail
      rw [← HW2.out, ← HPB.out]
      clear HW1 HW2 HPA HPB c0 c1 c2 c3 c4 c5 c6 c7
      replace hba := hba.kept hb2
      replace hbf := (hbf.trans (hb1.mono hbf.size)).trans (hb2.mono (Nat.le_trans hbf.size hb1.size))
      have a0 := hba.cell 0 _ rfl
      have a1 := hba.cell 1 _ rfl
      have a2 := hba.cell 2 _ rfl
      have a3 := hba.cell 3 _ rfl
      have a4 := hba.cell 4 _ rfl
      have a5 := hba.cell 5 _ rfl
      have a6 := hba.cell 6 _ rfl
      have a7 := hba.cell 7 _ rfl
      have b0 := hbb.cell 0 _ rfl
      have b1 := hbb.cell 1 _ rfl
      have b2 := hbb.cell 2 _ rfl
      have b3 := hbb.cell 3 _ rfl
      have b4 := hbb.cell 4 _ rfl
      have b5 := hbb.cell 5 _ rfl
      have b6 := hbb.cell 6 _ rfl
      have b7 := hbb.cell 7 _ rfl
      clear hba hbb hb1 hb2
      go_wp2_with fail
      (with_reducible refine hcall.mono ?_)
      rintro e w4 ⟨rfl, hb4⟩
      replace hbf := hbf.trans (hb4.mono hbf.size)
      clear a0 a1 a2 a3 a4 a5 a6 a7 b0 b1 b2 b3 b4 b5 b6 b7 hb4 hcall
      go_wp2_with fail
      rw [← ha, ← hb]
      go_roundg (gk - 1)
      case measure => omega
      case rel => exact ⟨i + 1, by omega, by go_num, hbf⟩
set_option maxRecDepth 100000 in
set_option maxHeartbeats 2000000 in
/-- Same, of two alike trees. -/
theorem treeSame_self (t : TR) (no mo : Option Addr) (nc mc : Nat) (B : Nat) (w : World) (hA : TrIs B w t no nc) (hB : TrIs B w t mo mc) (hBw : B ≤ w.heap.size) :
    Calls Tryz.prog 20 #[.agg #[.slice no t.nodes.length nc, .int .i64 t.ms, .int .i64 t.nt], .agg #[.slice mo t.nodes.length mc, .int .i64 t.ms, .int .i64 t.nt]] w fun e w' => e = .returned (.bool true) ∧ Below w.heap.size w w' := by
  obtain ⟨w0, hw0, hbf, hz0, pa, hpa, hba⟩ := boxT w no t.nodes.length nc t.ms t.nt
  obtain ⟨w1, hw1, hb1, hz1, pb, hpb, hbb⟩ := boxT w0 mo t.nodes.length mc t.ms t.nt
  replace hba := hba.kept hb1
  replace hbf := hbf.trans (hb1.mono hbf.size)
  have hcall := eqN_self t no mo nc mc B w1 (hA.low (Low.of_below hbf hBw)) (hB.low (Low.of_below hbf hBw)) (Nat.le_trans hBw hbf.size)
  have HW0 := Lib.hid hw0
  have HW1 := Lib.hid hw1
  have HPB : Hid (w.heap.size + 1 = pb) := Lib.hid (by rw [hpb, hz0])
  have HPA := Lib.hid hpa
  clear hw0 hw1 hz0 hz1 hpb hpa hb1 hA hB
  go_enter Tryz.func20, Tryz.ntmps20
  go_upto_region 1 with fail
  rw [← HW0.out, ← HW1.out, HPB.out, ← HPA.out]
  clear HW0 HW1 HPB HPA
  have a0 := hba.cell 0 _ rfl
  have a1 := hba.cell 1 _ rfl
  have a2 := hba.cell 2 _ rfl
  have b0 := hbb.cell 0 _ rfl
  have b1 := hbb.cell 1 _ rfl
  have b2 := hbb.cell 2 _ rfl
  go_wp2_with fail
  (with_reducible refine hcall.mono ?_)
  rintro e w2 ⟨rfl, hb2⟩
  replace hbf := hbf.trans (hb2.mono hbf.size)
  clear a0 a1 a2 b0 b1 b2 hb2 hcall
  go_wp2_with fail
  go_ret
  exact ⟨ret_one rfl, hbf⟩
end Go.Proofs.YtlmjkbdodecbmaaGreatDoor

namespace Go.Proofs.YtlmjkbdodecbmaaGreatDoor
open Go.RowKit
set_option linter.unusedVariables false
set_option linter.unusedSimpArgs false
/-- Whose kid a node is; -1: nobody's. -/
def upW (t : TR) (n : Int) : Int := if shapeB t = true ∧ 0 ≤ n ∧ n < (t.N : Int) then ((upT t).getD [])[n.toNat]?.getD 0 else -1
/-- What validT says. -/
theorem validT_out {fs : List F5} {t : TR} (h : validT fs t = true) : headT t = true ∧ t.nodes.all (nodeB fs) = true ∧ shapeB t = true ∧ deepT t ≤ 40 := by
  unfold validT at h
  simp only [Bool.and_eq_true, decide_eq_true_eq] at h
  exact ⟨h.1, h.2.1, h.2.2.1, h.2.2.2⟩
theorem walkT_len {t : TR} (h : shapeB t = true) : (walkT t).length = t.N := by
  obtain ⟨_, _, _, _, _, hl, _⟩ := shapeB_true h
  exact hl
end Go.Proofs.YtlmjkbdodecbmaaGreatDoor

namespace Go.Proofs.YtlmjkbdodecbmaaGreatDoor
open Go.RowKit
set_option linter.unusedVariables false
set_option linter.unusedSimpArgs false
/-- A node's place in a walk. -/
def posT (t : TR) (n : Nat) : Nat := ((walkT t).map Prod.fst).idxOf n
/-- A node as it stands in the tree in order. -/
def newN (t : TR) (n : TN) : TN := ⟨n.p, n.sc, n.ct, n.kids.map (fun k => ((posT t k.toNat : Nat) : Int)), if 0 ≤ n.df ∧ n.df < (t.N : Int) then ((posT t n.df.toNat : Nat) : Int) else -1⟩
/-- The tree in order. -/
def orderT (t : TR) : TR := ⟨(walkT t).map (fun x => newN t (t.nodes[x.1]?.getD default)), t.ms, t.nt⟩
/-- A root with two leaves. -/
def twoT : TR := ⟨[⟨.mk 1 0 [] [], [], [], [1, 2], -1⟩, ⟨.mk 3 0 [⟨1, [53], []⟩] [], [49], [], [], -1⟩, ⟨.mk 7 0 [⟨1, [53], []⟩] [], [50], [], [], -1⟩], 3, 3⟩
def fldX : F5 := ⟨[120], 1, [], ⟨0, [], []⟩, 2⟩
theorem two_shape : shapeB twoT = true := by decide
theorem two_walk : walkT twoT = [(0, 1), (1, 2), (2, 2)] := by decide
theorem two_deep : deepT twoT = 2 := by unfold deepT; rw [two_walk]; rfl
theorem two_up : upW twoT 2 = 0 := by decide
theorem two_order : orderT twoT = twoT := by
  unfold orderT newN posT
  rw [two_walk]
  rfl
theorem none_valid (fs : List F5) : validT fs ⟨[], 0, 0⟩ = false := by
  unfold validT headT
  simp
theorem dtext_1 : qtext (qOf false 1 1) = [49] := by
  have h : str (dec 1) = [49] := str_dec (l := [49]) (by decide)
  unfold qtext
  rw [show decide (qOf false 1 1 < 0) = false by decide, show (qOf false 1 1).num.natAbs = 1 by decide, show (qOf false 1 1).den = 1 by decide, h]; rfl
theorem dcode_1 : qcode [49] = 0 ∧ qval [49] = qOf false 1 1 := by
  rw [← dtext_1]
  exact qparse_text _ (Nat.le_trans (dec_le (k := 1) (by decide) (by decide)) (by omega)) (Nat.le_trans (dec_le (k := 1) (by decide) (by decide)) (by omega))
theorem dtext_2 : qtext (qOf false 2 1) = [50] := by
  have h : str (dec 2) = [50] := str_dec (l := [50]) (by decide)
  unfold qtext
  rw [show decide (qOf false 2 1 < 0) = false by decide, show (qOf false 2 1).num.natAbs = 2 by decide, show (qOf false 2 1).den = 1 by decide, h]; rfl
theorem dcode_2 : qcode [50] = 0 ∧ qval [50] = qOf false 2 1 := by
  rw [← dtext_2]
  exact qparse_text _ (Nat.le_trans (dec_le (k := 1) (by decide) (by decide)) (by omega)) (Nat.le_trans (dec_le (k := 1) (by decide) (by decide)) (by omega))
theorem dtext_5 : qtext (qOf false 5 1) = [53] := by
  have h : str (dec 5) = [53] := str_dec (l := [53]) (by decide)
  unfold qtext
  rw [show decide (qOf false 5 1 < 0) = false by decide, show (qOf false 5 1).num.natAbs = 5 by decide, show (qOf false 5 1).den = 1 by decide, h]; rfl
theorem dcode_5 : qcode [53] = 0 ∧ qval [53] = qOf false 5 1 := by
  rw [← dtext_5]
  exact qparse_text _ (Nat.le_trans (dec_le (k := 1) (by decide) (by decide)) (by omega)) (Nat.le_trans (dec_le (k := 1) (by decide) (by decide)) (by omega))
theorem two_valid : validT [fldX] twoT = true := by
  have hv : vvalid 1 [53] [] = true := by
    unfold vvalid vnum
    rw [if_neg (by decide), if_neg (by decide), dcode_5.1]
    rfl
  have n0 : numB [] = true := rfl
  have c0 : cntB [] = true := rfl
  have n1 : numB [49] = true := by unfold numB; rw [dcode_1.1]; rfl
  have n2 : numB [50] = true := by unfold numB; rw [dcode_2.1]; rfl
  have p1 : validP [fldX] (.mk 1 0 [] []) = true := by decide
  have vb : valuesB 1 [⟨1, [53], []⟩] = true := by
    unfold valuesB
    rw [List.all_cons]
    show ((vvalid 1 [53] [] && _) && _) = true
    rw [hv]
    rfl
  have p3 : validP [fldX] (.mk 3 0 [⟨1, [53], []⟩] []) = true := by
    show ((true && (valuesB 1 [⟨1, [53], []⟩] && true)) && true) = true
    rw [vb]; rfl
  have p7 : validP [fldX] (.mk 7 0 [⟨1, [53], []⟩] []) = true := by
    show ((true && (valuesB 1 [⟨1, [53], []⟩] && true)) && true) = true
    rw [vb]; rfl
  unfold validT
  rw [two_shape, two_deep]
  show (true && ((validP [fldX] (.mk 1 0 [] []) && (numB [] && (cntB [] && true))) && ((validP [fldX] (.mk 3 0 [⟨1, [53], []⟩] []) && (numB [49] && (cntB [] && true))) && ((validP [fldX] (.mk 7 0 [⟨1, [53], []⟩] []) && (numB [50] && (cntB [] && true))) && true))) && _) = true
  rw [p1, p3, p7, n0, n1, n2, c0]
  rfl
end Go.Proofs.YtlmjkbdodecbmaaGreatDoor

namespace Go.Proofs.YtlmjkbdodecbmaaGreatDoor
open Go.RowKit
set_option linter.unusedVariables false
set_option linter.unusedSimpArgs false
attribute [local go_sem] field_nat
theorem load_t3 {w : World} {b : Nat} {x y z : Value} (h0 : w.cell? ⟨b, 0, none⟩ = some x) (h1 : w.cell? ⟨b, 1, none⟩ = some y) (h2 : w.cell? ⟨b, 2, none⟩ = some z) : (loadVar 24 ⟨b, 0, none⟩).run Tryz.prog w = .ok (.agg #[x, y, z]) w := by
  simp [go_sem, h0, h1, h2]
/-- The end of a function whose one result is a tree. -/
theorem ret_t3 {fn : Func} {s : Nat} {R : Ending → World → Prop} {a : Act} {w : World} {b : Nat} {x y z : Value} (hres : fn.results = #[.cell s 24]) (hp : a.tmps.getD s undef = .pointer (some ⟨b, 0, none⟩)) (h0 : w.cell? ⟨b, 0, none⟩ = some x) (h1 : w.cell? ⟨b, 1, none⟩ = some y) (h2 : w.cell? ⟨b, 2, none⟩ = some z) (hd : a.defers = []) (hR : R (.returned (.agg #[x, y, z])) w) : bodyPost Tryz.prog fn R .ret a w := by
  refine bodyPost_ret (v := .agg #[x, y, z]) ?_ hd hR
  have hp' : a.tmps[s]?.getD undef = .pointer (some ⟨b, 0, none⟩) := by simpa using hp
  simp only [results, hres]
  simp [Sem.run_bind, Sem.run_pure, Result.andThen, hp', asAddr, load_t3 h0 h1 h2]
theorem ml0 : (0 : Nat) ≤ maxLen := by decide
theorem ml1 : (1 : Nat) ≤ maxLen := by decide
theorem ml2 : (2 : Nat) ≤ maxLen := by decide
theorem intsB_nil (B : Nat) (w : World) : IntsB B w none 0 [] := ⟨⟨Nat.le_refl _, Nat.zero_le _⟩, fun _ => rfl, fun i n hi => by simp at hi⟩
set_option maxRecDepth 100000 in
set_option maxHeartbeats 2000000 in
/-- Two. -/
theorem two_any (w : World) : Calls Tryz.prog 35 #[] w fun e w' => (∃ no nc, e = .returned (.agg #[.slice no twoT.nodes.length nc, .int .i64 twoT.ms, .int .i64 twoT.nt]) ∧ TrIs w'.heap.size w' twoT no nc) ∧ Below w.heap.size w w' := by
  go_enter Tryz.func35, Tryz.ntmps35
  go_wp2_with fail
  refine ret_t3 (x := .slice (some ⟨w.heap.size + 1 + 1 + 1 + 1 + 1, 0, none⟩) 3 3) (y := .int .i64 3) (z := .int .i64 3) rfl rfl (by go_simp) (by go_simp) (by go_simp) rfl ⟨⟨some ⟨w.heap.size + 1 + 1 + 1 + 1 + 1, 0, none⟩, 3, rfl, ?_⟩, ?_⟩
  · refine ⟨⟨by decide, by decide⟩, fun h => by (cases h), fun i n hi => ?_⟩
    match i, hi with
    | 0, hi =>
      cases hi
      refine ⟨_, 0, ⟨none, 0, none, 0, some ⟨w.heap.size + 1 + 1, 0, none⟩, 2⟩, rfl, (by simp <;> omega), ⟨?_, ?_, by decide, by decide⟩, ?_⟩
      · exact PIs.mk (fun _ => []) ⟨fun i v hi => by simp at hi, ⟨Nat.le_refl _, ml0⟩, by simp, fun h => absurd rfl h, fun _ => rfl⟩ ⟨Nat.le_refl _, ml0⟩ (fun _ => rfl) (.inl rfl) (fun i k hk => by simp at hk)
      · refine ⟨⟨Nat.le_refl 2, ml2⟩, fun h => by (cases h), fun i n hi => ?_⟩
        match i, hi with
        | 0, hi => cases hi; exact ⟨_, 0, rfl, (by simp <;> omega), by go_simp <;> rfl⟩
        | 1, hi => cases hi; exact ⟨_, 0, rfl, (by simp <;> omega), by go_simp <;> rfl⟩
        | i + 2, hi => simp at hi
      · exact ⟨by go_simp <;> rfl, by go_simp <;> rfl, by go_simp <;> rfl, by go_simp <;> rfl, by go_simp <;> rfl, by go_simp <;> rfl, by go_simp <;> rfl, by go_simp <;> rfl⟩
    | 1, hi =>
      cases hi
      refine ⟨_, 0, ⟨some ⟨w.heap.size + 1 + 1 + 1, 0, none⟩, 1, none, 0, none, 0⟩, rfl, (by simp <;> omega), ⟨?_, intsB_nil _ _, by decide, by decide⟩, ?_⟩
      · refine PIs.mk (fun _ => []) ⟨fun i v hi => ?_, ⟨Nat.le_refl _, ml1⟩, by decide, fun _ => ⟨_, 0, rfl, (by simp <;> omega)⟩, fun h => by cases h⟩ ⟨Nat.le_refl _, ml0⟩ (fun _ => rfl) (.inl rfl) (fun i k hk => by simp at hk)
        match i, hi with
        | 0, hi => cases hi; exact ⟨_, 0, rfl, ⟨by go_simp <;> rfl⟩, ⟨by go_simp <;> rfl⟩, ⟨by go_simp <;> rfl⟩⟩
        | i + 1, hi => simp at hi
      · exact ⟨by go_simp <;> rfl, by go_simp <;> rfl, by go_simp <;> rfl, by go_simp <;> rfl, by go_simp <;> rfl, by go_simp <;> rfl, by go_simp <;> rfl, by go_simp <;> rfl⟩
    | 2, hi =>
      cases hi
      refine ⟨_, 0, ⟨some ⟨w.heap.size + 1 + 1 + 1 + 1, 0, none⟩, 1, none, 0, none, 0⟩, rfl, (by simp <;> omega), ⟨?_, intsB_nil _ _, by decide, by decide⟩, ?_⟩
      · refine PIs.mk (fun _ => []) ⟨fun i v hi => ?_, ⟨Nat.le_refl _, ml1⟩, by decide, fun _ => ⟨_, 0, rfl, (by simp <;> omega)⟩, fun h => by cases h⟩ ⟨Nat.le_refl _, ml0⟩ (fun _ => rfl) (.inl rfl) (fun i k hk => by simp at hk)
        match i, hi with
        | 0, hi => cases hi; exact ⟨_, 0, rfl, ⟨by go_simp <;> rfl⟩, ⟨by go_simp <;> rfl⟩, ⟨by go_simp <;> rfl⟩⟩
        | i + 1, hi => simp at hi
      · exact ⟨by go_simp <;> rfl, by go_simp <;> rfl, by go_simp <;> rfl, by go_simp <;> rfl, by go_simp <;> rfl, by go_simp <;> rfl, by go_simp <;> rfl, by go_simp <;> rfl⟩
    | i + 3, hi => simp [twoT] at hi
  · exact ((((((Below.refl _ w).alloc (Nat.le_refl _) _).alloc (by simp <;> omega) _).alloc (by simp <;> omega) _).alloc (by simp <;> omega) _).alloc (by simp <;> omega) _).alloc (by simp <;> omega) _
end Go.Proofs.YtlmjkbdodecbmaaGreatDoor

namespace Go.Proofs.YtlmjkbdodecbmaaGreatDoor
open Go.RowKit
set_option linter.unusedVariables false
set_option linter.unusedSimpArgs false
/-- The numbers told so far. -/
def numL (N : Nat) (pre : List (Nat × Nat)) : List Int := (List.range N).map fun n => if n ∈ pre.map Prod.fst then (((pre.map Prod.fst).idxOf n : Nat) : Int) else 0
theorem numL_len (N : Nat) (pre : List (Nat × Nat)) : (numL N pre).length = N := by unfold numL; simp
theorem numL_get (N : Nat) (pre : List (Nat × Nat)) (n : Nat) (h : n < N) : (numL N pre)[n]? = some (if n ∈ pre.map Prod.fst then (((pre.map Prod.fst).idxOf n : Nat) : Int) else 0) := by
  unfold numL
  rw [List.getElem?_map, List.getElem?_range h]
  rfl
theorem numL_nil (N : Nat) : numL N [] = List.replicate N 0 := by
  unfold numL
  simp [List.map_const']
theorem numL_snoc {N : Nat} {pre : List (Nat × Nat)} {x : Nat × Nat} (h : x.1 ∉ pre.map Prod.fst) : (numL N pre).set x.1 ((pre.length : Nat) : Int) = numL N (pre ++ [x]) := by
  apply List.ext_getElem?
  intro n
  rw [List.getElem?_set, numL_len]
  by_cases hn : n < N
  · rw [numL_get N pre n hn, numL_get N _ n hn, List.map_append, List.map_cons, List.map_nil, List.idxOf_append]
    by_cases hx : x.1 = n
    · subst hx
      rw [if_pos rfl, if_pos hn, if_pos (by simp), if_neg h]
      simp
    · rw [if_neg hx]
      by_cases hm : n ∈ pre.map Prod.fst
      · rw [if_pos hm, if_pos (by simp [hm]), if_pos hm]
      · rw [if_neg hm, if_neg (by rw [List.mem_append]; rintro (h9 | h9); exact hm h9; rw [List.mem_singleton] at h9; exact hx h9.symm)]
  · rw [List.getElem?_eq_none (by rw [numL_len]; omega), List.getElem?_eq_none (by rw [numL_len]; omega)]
    by_cases hx : x.1 = n
    · rw [if_pos hx, if_neg (by omega)]
    · rw [if_neg hx]
theorem walk_fst_nd {t : TR} (h : shapeB t = true) : ((walkT t).map Prod.fst).Nodup := by
  obtain ⟨_, _, _, _, hi, _, _⟩ := shapeB_true h
  exact fst_nd hi
theorem walk_fst_lt {t : TR} (h : shapeB t = true) {x : Nat × Nat} (hx : x ∈ walkT t) : x.1 < t.N := by
  obtain ⟨_, _, _, _, hi, _, _⟩ := shapeB_true h
  exact hi.lt x (by simpa using hx)
theorem walk_mem {t : TR} (h : shapeB t = true) {n : Nat} (hn : n < t.N) : n ∈ (walkT t).map Prod.fst := by
  obtain ⟨d, hd⟩ := walkT_all h n hn
  exact List.mem_map.2 ⟨_, hd, rfl⟩
theorem numL_all {t : TR} (h : shapeB t = true) {n : Nat} (hn : n < t.N) : (numL t.N (walkT t))[n]? = some ((posT t n : Nat) : Int) := by
  rw [numL_get _ _ n hn, if_pos (walk_mem h hn)]
  rfl
theorem snoc_new {t : TR} (h : shapeB t = true) {pre : List (Nat × Nat)} {x : Nat × Nat} (hp : (pre ++ [x]) <+: walkT t) : x.1 ∉ pre.map Prod.fst ∧ x.1 < t.N ∧ pre.length < t.N := by
  have hn := (walk_fst_nd h).sublist (hp.sublist.map Prod.fst)
  rw [List.map_append, List.nodup_append] at hn
  refine ⟨fun hm => hn.2.2 _ hm _ (by simp) rfl, walk_fst_lt h (hp.subset (by simp)), ?_⟩
  have := hp.length_le
  rw [walkT_len h, List.length_append] at this
  simp at this
  omega
theorem posT_lt {t : TR} (h : shapeB t = true) {n : Nat} (hn : n < t.N) : posT t n < t.N := by
  have h1 := List.idxOf_lt_length_of_mem (walk_mem h hn)
  rw [List.length_map, walkT_len h] at h1
  exact h1
theorem posT_get {t : TR} (h : shapeB t = true) {n : Nat} (hn : n < t.N) : ((walkT t).map Prod.fst)[posT t n]? = some n := by
  have h1 := List.idxOf_lt_length_of_mem (walk_mem h hn)
  have h2 : posT t n < ((walkT t).map Prod.fst).length := h1
  rw [List.getElem?_eq_getElem h2]
  congr 1
  exact List.getElem_idxOf h1
theorem posT_inj {t : TR} (h : shapeB t = true) {n m : Nat} (hn : n < t.N) (hm : m < t.N) (he : posT t n = posT t m) : n = m := by
  have h1 := posT_get h hn
  rw [he, posT_get h hm] at h1
  cases h1
  rfl
theorem nodup_idx : ∀ {l : List Nat} {i j a : Nat}, l.Nodup → l[i]? = some a → l[j]? = some a → i = j := by
  intro l
  induction l with
  | nil => intro i j a _ h; simp at h
  | cons b l ih =>
    intro i j a hn hi hj
    rw [List.nodup_cons] at hn
    cases i with
    | zero =>
      cases j with
      | zero => rfl
      | succ j =>
        simp at hi hj
        subst hi
        exact absurd (List.mem_of_getElem? hj) hn.1
    | succ i =>
      cases j with
      | zero =>
        simp at hi hj
        subst hj
        exact absurd (List.mem_of_getElem? hi) hn.1
      | succ j =>
        simp at hi hj
        rw [ih hn.2 hi hj]
theorem posT_at {t : TR} (h : shapeB t = true) {p : Nat} {x : Nat × Nat} (hp : (walkT t)[p]? = some x) : posT t x.1 = p := by
  have hx := walk_fst_lt h (List.mem_of_getElem? hp)
  have h1 := posT_get h hx
  have h2 : ((walkT t).map Prod.fst)[p]? = some x.1 := by rw [List.getElem?_map, hp]; rfl
  exact nodup_idx (walk_fst_nd h) h1 h2
theorem orderT_len {t : TR} (h : shapeB t = true) : (orderT t).nodes.length = t.N := by unfold orderT; rw [List.length_map, walkT_len h]
theorem orderT_at {t : TR} (h : shapeB t = true) {p : Nat} {y : TN} (hp : (orderT t).nodes[p]? = some y) : ∃ j n, j < t.N ∧ t.nodes[j]? = some n ∧ posT t j = p ∧ y = newN t n := by
  unfold orderT at hp
  rw [List.getElem?_map] at hp
  cases hw : (walkT t)[p]? with
  | none => rw [hw] at hp; cases hp
  | some x =>
    rw [hw] at hp
    have hx := walk_fst_lt h (List.mem_of_getElem? hw)
    have hn : t.nodes[x.1]? = some (t.nodes[x.1]'hx) := List.getElem?_eq_getElem hx
    simp only [Option.map_some, Option.some.injEq] at hp
    rw [hn, Option.getD_some] at hp
    exact ⟨x.1, _, hx, hn, posT_at h hw, hp.symm⟩
/-- Eight cells set in a row. -/
def set8 (cs : List Value) (o : Nat) (x0 x1 x2 x3 x4 x5 x6 x7 : Value) : List Value := (((((((cs.set o x0).set (o + 1) x1).set (o + 2) x2).set (o + 3) x3).set (o + 4) x4).set (o + 5) x5).set (o + 6) x6).set (o + 7) x7
theorem set8_len (cs : List Value) (o : Nat) (x0 x1 x2 x3 x4 x5 x6 x7 : Value) : (set8 cs o x0 x1 x2 x3 x4 x5 x6 x7).length = cs.length := by unfold set8; simp
theorem set8_ne {cs : List Value} {o i : Nat} {x0 x1 x2 x3 x4 x5 x6 x7 : Value} (h : i < o ∨ o + 8 ≤ i) : (set8 cs o x0 x1 x2 x3 x4 x5 x6 x7)[i]? = cs[i]? := by
  unfold set8
  rw [List.getElem?_set_ne (by omega), List.getElem?_set_ne (by omega), List.getElem?_set_ne (by omega), List.getElem?_set_ne (by omega), List.getElem?_set_ne (by omega), List.getElem?_set_ne (by omega), List.getElem?_set_ne (by omega), List.getElem?_set_ne (by omega)]
/-- Eight cells in a list. -/
def Ls8 (cs : List Value) (o : Nat) (x0 x1 x2 x3 x4 x5 x6 x7 : Value) : Prop := cs[o]? = some x0 ∧ cs[o + 1]? = some x1 ∧ cs[o + 2]? = some x2 ∧ cs[o + 3]? = some x3 ∧ cs[o + 4]? = some x4 ∧ cs[o + 5]? = some x5 ∧ cs[o + 6]? = some x6 ∧ cs[o + 7]? = some x7
theorem set8_at {cs : List Value} {o : Nat} {x0 x1 x2 x3 x4 x5 x6 x7 : Value} (h : o + 8 ≤ cs.length) : Ls8 (set8 cs o x0 x1 x2 x3 x4 x5 x6 x7) o x0 x1 x2 x3 x4 x5 x6 x7 := by
  unfold set8 Ls8
  refine ⟨?_, ?_, ?_, ?_, ?_, ?_, ?_, ?_⟩ <;> simp [List.getElem?_set] <;> omega
theorem Ls8.keep {cs cs' : List Value} {o : Nat} {x0 x1 x2 x3 x4 x5 x6 x7 : Value} (h : Ls8 cs o x0 x1 x2 x3 x4 x5 x6 x7) (hs : ∀ c, c < 8 → cs'[o + c]? = cs[o + c]?) : Ls8 cs' o x0 x1 x2 x3 x4 x5 x6 x7 := by
  obtain ⟨a0, a1, a2, a3, a4, a5, a6, a7⟩ := h
  exact ⟨(hs 0 (by omega)).trans a0, (hs 1 (by omega)).trans a1, (hs 2 (by omega)).trans a2, (hs 3 (by omega)).trans a3, (hs 4 (by omega)).trans a4, (hs 5 (by omega)).trans a5, (hs 6 (by omega)).trans a6, (hs 7 (by omega)).trans a7⟩
theorem BoxL.set8 {w : World} {b : Nat} {cs : List Value} (h : BoxL w b cs) {o : Nat} (x0 x1 x2 x3 x4 x5 x6 x7 : Value) (ho : o + 8 ≤ cs.length) :
    BoxL ((((((((w.setCell ⟨b, o, none⟩ x0).setCell ⟨b, o + 1, none⟩ x1).setCell ⟨b, o + 2, none⟩ x2).setCell ⟨b, o + 3, none⟩ x3).setCell ⟨b, o + 4, none⟩ x4).setCell ⟨b, o + 5, none⟩ x5).setCell ⟨b, o + 6, none⟩ x6).setCell ⟨b, o + 7, none⟩ x7) b (Go.Proofs.YtlmjkbdodecbmaaGreatDoor.set8 cs o x0 x1 x2 x3 x4 x5 x6 x7) := by
  unfold Go.Proofs.YtlmjkbdodecbmaaGreatDoor.set8
  exact (((((((h.set o x0 (by omega)).set (o + 1) x1 (by simp; omega)).set (o + 2) x2 (by simp; omega)).set (o + 3) x3 (by simp; omega)).set (o + 4) x4 (by simp; omega)).set (o + 5) x5 (by simp; omega)).set (o + 6) x6 (by simp; omega)).set (o + 7) x7 (by simp; omega)
theorem Ls8.at8 {w : World} {b : Nat} {cs : List Value} {o : Nat} {x0 x1 x2 x3 x4 x5 x6 x7 : Value} (h : Ls8 cs o x0 x1 x2 x3 x4 x5 x6 x7) (hb : BoxL w b cs) : At8 w b o x0 x1 x2 x3 x4 x5 x6 x7 := by
  obtain ⟨a0, a1, a2, a3, a4, a5, a6, a7⟩ := h
  exact ⟨hb.cell _ _ a0, hb.cell _ _ a1, hb.cell _ _ a2, hb.cell _ _ a3, hb.cell _ _ a4, hb.cell _ _ a5, hb.cell _ _ a6, hb.cell _ _ a7⟩
end Go.Proofs.YtlmjkbdodecbmaaGreatDoor
