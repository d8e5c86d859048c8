/-
  Pi27: TreK MathTf MathTg TreL MathTi TreN (what is needed of them).
-/
import Derived.Test.YtlmjkbdodecbmaaGreatDoorPi10
import Derived.Test.YtlmjkbdodecbmaaGreatDoorPi14
import Derived.Test.YtlmjkbdodecbmaaGreatDoorPi19
import Derived.Test.YtlmjkbdodecbmaaGreatDoorPi26
import Derived.BigQuiet
import Derived.Deep.RegionHeld

namespace Go.Proofs.YtlmjkbdodecbmaaGreatDoor
open Go.RowKit
set_option linter.unusedVariables false
set_option linter.unusedSimpArgs false
attribute [local go_sem] field_nat
set_option maxRecDepth 100000 in
set_option maxHeartbeats 2000000 in
/-- Equal, of two alike rows of ints. -/
theorem eqI_self (ao bo : Option Addr) (ac bc : Nat) (ns : List Int) (B : Nat) (w : World) (hA : IntsB B w ao ac ns) (hB : IntsB B w bo bc ns) (hBw : B ≤ w.heap.size) :
    Calls Tryz.prog 101 #[.slice ao ns.length ac, .slice bo ns.length bc] w fun e w' => e = .returned (.bool true) ∧ Below w.heap.size w w' := by
  have hbf : Below w.heap.size w w := Below.refl _ _
  have hvl := hA.le
  go_enter Tryz.func101, Tryz.ntmps101
  go_wp2_with fail
  go_loopg [13] ns.length (fun gg iv wr => ∃ (i : Nat), i + gg = ns.length ∧ iv = .int .i64 (i : Int) ∧ Below w.heap.size w wr)
  case atStart => exact ⟨0, by omega, rfl, hbf⟩
  clear hbf
  case round =>
    obtain ⟨i, hi, rfl, hbf⟩ := hrel
    by_cases hil : i < ns.length
    case neg =>
      have hii : ¬ ((i : Nat) : Int) < ((ns.length : Nat) : Int) := by omega
      go_wp2_with fail
      go_ret
      exact ⟨ret_one rfl, hbf⟩
    case pos =>
      have hii : ((i : Nat) : Int) < ((ns.length : Nat) : Int) := by omega
      have hqi : (0 : Int) ≤ (i : Int) := by omega
      obtain ⟨v, hv9⟩ : ∃ v, ns[i]? = some v := ⟨_, List.getElem?_eq_getElem hil⟩
      obtain ⟨ab, aoff, ha, ha9, a0⟩ := (hA.low (Low.of_below hbf hBw)).at_ i v hv9
      obtain ⟨bb, boff, hb, hb9, b0⟩ := (hB.low (Low.of_below hbf hBw)).at_ i v hv9
      rw [ha, hb]
      clear hv9
      go_upto_region 6 with fail
      go_quiet (fail)
      go_wp2_with fail
      rw [← ha, ← hb]
      go_roundg (gk - 1)
      case measure => omega
      case rel => exact ⟨i + 1, by omega, by first | rfl | go_num, ⟨hbf.os, hbf.tape, hbf.output, hbf.size, hbf.block⟩⟩
set_option maxRecDepth 100000 in
set_option maxHeartbeats 2000000 in
/-- same, of two alike nodes. -/
theorem tsame_self (x : TN) (l m : NdL) (B : Nat) (w : World) (hA : NdIs B w x l) (hB : NdIs B w x m) (hBw : B ≤ w.heap.size) :
    Calls Tryz.prog 72 #[.agg #[.int .i64 x.p.op, .int .i64 x.p.fld, .slice l.vo x.p.vals.length l.vc, .slice l.ko x.p.kids.length l.kc, .string ⟨x.sc.toArray⟩, .string ⟨x.ct.toArray⟩, .slice l.io x.kids.length l.ic, .int .i64 x.df], .agg #[.int .i64 x.p.op, .int .i64 x.p.fld, .slice m.vo x.p.vals.length m.vc, .slice m.ko x.p.kids.length m.kc, .string ⟨x.sc.toArray⟩, .string ⟨x.ct.toArray⟩, .slice m.io x.kids.length m.ic, .int .i64 x.df]] w fun e w' => e = .returned (.bool true) ∧ Below w.heap.size w w' := by
  obtain ⟨w0, hw0, hbf, hz0, pa, hpa, hba⟩ := boxN w x l
  obtain ⟨w1, hw1, hb1, hz1, pb, hpb, hbb⟩ := boxN w0 x m
  replace hba := hba.kept hb1
  replace hbf := hbf.trans (hb1.mono hbf.size)
  replace hA := hA.low (Low.of_below hbf hBw)
  replace hB := hB.low (Low.of_below hbf hBw)
  have hBS : B ≤ w1.heap.size := Nat.le_trans hBw hbf.size
  have hcall := lsame_self x.p l.vo l.vc l.ko l.kc m.vo m.vc m.ko m.kc B w1 hA.p hB.p (Lib.hid hBS)
  have HCP : Hid (∀ w2, Below w1.heap.size w1 w2 → Calls Tryz.prog 101 #[.slice l.io x.kids.length l.ic, .slice m.io x.kids.length m.ic] w2 fun e w' => e = .returned (.bool true) ∧ Below w2.heap.size w2 w') := Lib.hid (fun w2 hb2 =>
    eqI_self l.io m.io l.ic m.ic x.kids B w2 (hA.k.low (Low.of_below hb2 hBS)) (hB.k.low (Low.of_below hb2 hBS)) (Nat.le_trans hBS hb2.size))
  have HW0 := Lib.hid hw0
  have HW1 := Lib.hid hw1
  have HPB : Hid (w.heap.size + 1 = pb) := Lib.hid (by rw [hpb, hz0])
  have HPA := Lib.hid hpa
  clear hw0 hw1 hz0 hz1 hpb hpa hb1 hA hB
  go_enter Tryz.func72, Tryz.ntmps72
  go_upto_region 1 with fail
  rw [← HW0.out, ← HW1.out, HPB.out, ← HPA.out]
  clear HW0 HW1 HPB HPA
  have a0 := hba.cell 0 _ rfl
  have a1 := hba.cell 1 _ rfl
  have a2 := hba.cell 2 _ rfl
  have a3 := hba.cell 3 _ rfl
  have a4 := hba.cell 4 _ rfl
  have a5 := hba.cell 5 _ rfl
  have a6 := hba.cell 6 _ rfl
  have a7 := hba.cell 7 _ rfl
  have b0 := hbb.cell 0 _ rfl
  have b1 := hbb.cell 1 _ rfl
  have b2 := hbb.cell 2 _ rfl
  have b3 := hbb.cell 3 _ rfl
  have b4 := hbb.cell 4 _ rfl
  have b5 := hbb.cell 5 _ rfl
  have b6 := hbb.cell 6 _ rfl
  have b7 := hbb.cell 7 _ rfl
  go_wp2_with fail
  (with_reducible refine hcall.mono ?_)
  rintro e w2 ⟨rfl, hb2⟩
  have hcall2 := HCP.out w2 hb2
  replace hbf := hbf.trans (hb2.mono hbf.size)
  replace hba := hba.kept hb2
  replace hbb := hbb.kept hb2
  clear a0 a1 a2 a3 a4 a5 a6 a7 b0 b1 b2 b3 b4 b5 b6 b7 hb2 hcall
  have a0 := hba.cell 0 _ rfl
  have a1 := hba.cell 1 _ rfl
  have a2 := hba.cell 2 _ rfl
  have a3 := hba.cell 3 _ rfl
  have a4 := hba.cell 4 _ rfl
  have a5 := hba.cell 5 _ rfl
  have a6 := hba.cell 6 _ rfl
  have a7 := hba.cell 7 _ rfl
  have b0 := hbb.cell 0 _ rfl
  have b1 := hbb.cell 1 _ rfl
  have b2 := hbb.cell 2 _ rfl
  have b3 := hbb.cell 3 _ rfl
  have b4 := hbb.cell 4 _ rfl
  have b5 := hbb.cell 5 _ rfl
  have b6 := hbb.cell 6 _ rfl
  have b7 := hbb.cell 7 _ rfl
  go_wp2_with fail
  (with_reducible refine hcall2.mono ?_)
  rintro e w3 ⟨rfl, hb3⟩
  replace hbf := hbf.trans (hb3.mono hbf.size)
  replace hba := hba.kept hb3
  replace hbb := hbb.kept hb3
  clear a0 a1 a2 a3 a4 a5 a6 a7 b0 b1 b2 b3 b4 b5 b6 b7 hb3 hcall2
  have a0 := hba.cell 0 _ rfl
  have a1 := hba.cell 1 _ rfl
  have a2 := hba.cell 2 _ rfl
  have a3 := hba.cell 3 _ rfl
  have a4 := hba.cell 4 _ rfl
  have a5 := hba.cell 5 _ rfl
  have a6 := hba.cell 6 _ rfl
  have a7 := hba.cell 7 _ rfl
  have b0 := hbb.cell 0 _ rfl
  have b1 := hbb.cell 1 _ rfl
  have b2 := hbb.cell 2 _ rfl
  have b3 := hbb.cell 3 _ rfl
  have b4 := hbb.cell 4 _ rfl
  have b5 := hbb.cell 5 _ rfl
  have b6 := hbb.cell 6 _ rfl
  have b7 := hbb.cell 7 _ rfl
  go_wp2_with fail
  go_ret
  exact ⟨ret_one rfl, hbf⟩
set_option maxRecDepth 100000 in
set_option maxHeartbeats 2000000 in
/-- EqualFunc, of two alike rows of nodes. -/
theorem eqN_self (t : TR) (no mo : Option Addr) (nc mc : Nat) (B : Nat) (w : World) (hA : TrIs B w t no nc) (hB : TrIs B w t mo mc) (hBw : B ≤ w.heap.size) :
    Calls Tryz.prog 71 #[.slice no t.nodes.length nc, .slice mo t.nodes.length mc, .func (.func 72) #[] #[]] w fun e w' => e = .returned (.bool true) ∧ Below w.heap.size w w' := by
  have hbf : Below w.heap.size w w := Below.refl _ _
  have hvl := hA.le
  go_enter Tryz.func71, Tryz.ntmps71
  go_wp2_with fail
  go_loopg [17] t.nodes.length (fun gg iv wr => ∃ (i : Nat), i + gg = t.nodes.length ∧ iv = .int .i64 (i : Int) ∧ Below w.heap.size w wr)
  case atStart => exact ⟨0, by omega, rfl, hbf⟩
  clear hbf
  case round =>
    obtain ⟨i, hi, rfl, hbf⟩ := hrel
    by_cases hil : i < t.nodes.length
    case neg =>
      have hii : ¬ ((i : Nat) : Int) < ((t.nodes.length : Nat) : Int) := by omega
      go_wp2_with fail
      go_ret
      exact ⟨ret_one rfl, hbf⟩
    case pos =>
      have hii : ((i : Nat) : Int) < ((t.nodes.length : Nat) : Int) := by omega
      have hqi : (0 : Int) ≤ (i : Int) := by omega
      obtain ⟨x, hx9⟩ : ∃ v, t.nodes[i]? = some v := ⟨_, List.getElem?_eq_getElem hil⟩
      have hlow : Low B w wr := Low.of_below hbf hBw
      obtain ⟨ab, aoff, l, ha, hab, hX, hC⟩ := (hA.low hlow).at_ i x hx9
      obtain ⟨bb, boff, m, hb, hbb9, hY, hE⟩ := (hB.low hlow).at_ i x hx9
      rw [ha, hb]
      obtain ⟨w1, hw1, hb1, hz1, pa, hpa, hba⟩ := boxN wr x l
      obtain ⟨w2, hw2, hb2, hz2, pb, hpb, hbb⟩ := boxN w1 x m
      obtain ⟨a0, a1, a2, a3, a4, a5, a6, a7⟩ := hC
      obtain ⟨c0, c1, c2, c3, c4, c5, c6, c7⟩ := hE.kept hb1
      have hs0 : B ≤ wr.heap.size := Nat.le_trans hBw hbf.size
      have hs1 : B ≤ w1.heap.size := Nat.le_trans hs0 hb1.size
      have hs2 : B ≤ w2.heap.size := Nat.le_trans hs1 hb2.size
      have hcall := tsame_self x l m B w2 ((hX.low (Low.of_below hb1 hs0)).low (Low.of_below hb2 hs1)) ((hY.low (Low.of_below hb1 hs0)).low (Low.of_below hb2 hs1)) hs2
      have HW1 := Lib.hid hw1
      have HW2 := Lib.hid hw2
      have HPA := Lib.hid hpa
      have HPB := Lib.hid hpb
      clear hx9 hw1 hw2 hz1 hz2 hpa hpb hE hX hY hlow hs0 hs1 hs2
      go_upto_region 6 with fail
      rw [← HW1.out, ← HPA.out]
      clear a0 a1 a2 a3 a4 a5 a6 a7
      go_upto_region 7 with fail
      rw [← HW2.out, ← HPB.out]
      clear HW1 HW2 HPA HPB c0 c1 c2 c3 c4 c5 c6 c7
      replace hba := hba.kept hb2
      replace hbf := (hbf.trans (hb1.mono hbf.size)).trans (hb2.mono (Nat.le_trans hbf.size hb1.size))
      have a0 := hba.cell 0 _ rfl
      have a1 := hba.cell 1 _ rfl
      have a2 := hba.cell 2 _ rfl
      have a3 := hba.cell 3 _ rfl
      have a4 := hba.cell 4 _ rfl
      have a5 := hba.cell 5 _ rfl
      have a6 := hba.cell 6 _ rfl
      have a7 := hba.cell 7 _ rfl
      have b0 := hbb.cell 0 _ rfl
      have b1 := hbb.cell 1 _ rfl
      have b2 := hbb.cell 2 _ rfl
      have b3 := hbb.cell 3 _ rfl
      have b4 := hbb.cell 4 _ rfl
      have b5 := hbb.cell 5 _ rfl
      have b6 := hbb.cell 6 _ rfl
      have b7 := hbb.cell 7 _ rfl
      clear hba hbb hb1 hb2
      go_wp2_with fail
      (with_reducible refine hcall.mono ?_)
      rintro e w4 ⟨rfl, hb4⟩
      replace hbf := hbf.trans (hb4.mono hbf.size)
      clear a0 a1 a2 a3 a4 a5 a6 a7 b0 b1 b2 b3 b4 b5 b6 b7 hb4 hcall
      go_wp2_with fail
      rw [← ha, ← hb]
      go_roundg (gk - 1)
      case measure => omega
      case rel => exact ⟨i + 1, by omega, by go_num, hbf⟩
set_option maxRecDepth 100000 in
set_option maxHeartbeats 2000000 in
/-- Same, of two alike trees. -/
theorem treeSame_self (t : TR) (no mo : Option Addr) (nc mc : Nat) (B : Nat) (w : World) (hA : TrIs B w t no nc) (hB : TrIs B w t mo mc) (hBw : B ≤ w.heap.size) :
    Calls Tryz.prog 20 #[.agg #[.slice no t.nodes.length nc, .int .i64 t.ms, .int .i64 t.nt], .agg #[.slice mo t.nodes.length mc, .int .i64 t.ms, .int .i64 t.nt]] w fun e w' => e = .returned (.bool true) ∧ Below w.heap.size w w' := by
  obtain ⟨w0, hw0, hbf, hz0, pa, hpa, hba⟩ := boxT w no t.nodes.length nc t.ms t.nt
  obtain ⟨w1, hw1, hb1, hz1, pb, hpb, hbb⟩ := boxT w0 mo t.nodes.length mc t.ms t.nt
  replace hba := hba.kept hb1
  replace hbf := hbf.trans (hb1.mono hbf.size)
  have hcall := eqN_self t no mo nc mc B w1 (hA.low (Low.of_below hbf hBw)) (hB.low (Low.of_below hbf hBw)) (Nat.le_trans hBw hbf.size)
  have HW0 := Lib.hid hw0
  have HW1 := Lib.hid hw1
  have HPB : Hid (w.heap.size + 1 = pb) := Lib.hid (by rw [hpb, hz0])
  have HPA := Lib.hid hpa
  clear hw0 hw1 hz0 hz1 hpb hpa hb1 hA hB
  go_enter Tryz.func20, Tryz.ntmps20
  go_upto_region 1 with fail
  rw [← HW0.out, ← HW1.out, HPB.out, ← HPA.out]
  clear HW0 HW1 HPB HPA
  have a0 := hba.cell 0 _ rfl
  have a1 := hba.cell 1 _ rfl
  have a2 := hba.cell 2 _ rfl
  have b0 := hbb.cell 0 _ rfl
  have b1 := hbb.cell 1 _ rfl
  have b2 := hbb.cell 2 _ rfl
  go_wp2_with fail
  (with_reducible refine hcall.mono ?_)
  rintro e w2 ⟨rfl, hb2⟩
  replace hbf := hbf.trans (hb2.mono hbf.size)
  clear a0 a1 a2 b0 b1 b2 hb2 hcall
  go_wp2_with fail
  go_ret
  exact ⟨ret_one rfl, hbf⟩
end Go.Proofs.YtlmjkbdodecbmaaGreatDoor

namespace Go.Proofs.YtlmjkbdodecbmaaGreatDoor
open Go.RowKit
set_option linter.unusedVariables false
set_option linter.unusedSimpArgs false
/-- Whose kid a node is; -1: nobody's. -/
def upW (t : TR) (n : Int) : Int := if shapeB t = true ∧ 0 ≤ n ∧ n < (t.N : Int) then ((upT t).getD [])[n.toNat]?.getD 0 else -1
theorem walkT_len {t : TR} (h : shapeB t = true) : (walkT t).length = t.N := by
  obtain ⟨_, _, _, _, _, hl, _⟩ := shapeB_true h
  exact hl
end Go.Proofs.YtlmjkbdodecbmaaGreatDoor

namespace Go.Proofs.YtlmjkbdodecbmaaGreatDoor
open Go.RowKit
set_option linter.unusedVariables false
set_option linter.unusedSimpArgs false
/-- A node's place in a walk. -/
def posT (t : TR) (n : Nat) : Nat := ((walkT t).map Prod.fst).idxOf n
/-- A node as it stands in the tree in order. -/
def newN (t : TR) (n : TN) : TN := ⟨n.p, n.sc, n.ct, n.kids.map (fun k => ((posT t k.toNat : Nat) : Int)), if 0 ≤ n.df ∧ n.df < (t.N : Int) then ((posT t n.df.toNat : Nat) : Int) else -1⟩
/-- The tree in order. -/
def orderT (t : TR) : TR := ⟨(walkT t).map (fun x => newN t (t.nodes[x.1]?.getD default)), t.ms, t.nt⟩
/-- A root with two leaves. -/
def twoT : TR := ⟨[⟨.mk 1 0 [] [], [], [], [1, 2], -1⟩, ⟨.mk 3 0 [⟨1, [53], []⟩] [], [49], [], [], -1⟩, ⟨.mk 7 0 [⟨1, [53], []⟩] [], [50], [], [], -1⟩], 3, 3⟩
def fldX : F5 := ⟨[120], 1, [], ⟨0, [], []⟩, 2⟩
theorem two_shape : shapeB twoT = true := by decide
theorem two_walk : walkT twoT = [(0, 1), (1, 2), (2, 2)] := by decide
theorem two_deep : deepT twoT = 2 := by unfold deepT; rw [two_walk]; rfl
theorem two_up : upW twoT 2 = 0 := by decide
theorem two_order : orderT twoT = twoT := by
  unfold orderT newN posT
  rw [two_walk]
  rfl
theorem none_valid (fs : List F5) : validT fs ⟨[], 0, 0⟩ = false := by
  unfold validT headT
  simp
theorem dtext_1 : qtext (qOf false 1 1) = [49] := by
  have h : str (dec 1) = [49] := str_dec (l := [49]) (by decide)
  unfold qtext
  rw [show decide (qOf false 1 1 < 0) = false by decide, show (qOf false 1 1).num.natAbs = 1 by decide, show (qOf false 1 1).den = 1 by decide, h]; rfl
theorem dcode_1 : qcode [49] = 0 ∧ qval [49] = qOf false 1 1 := by
  rw [← dtext_1]
  exact qparse_text _ (Nat.le_trans (dec_le (k := 1) (by decide) (by decide)) (by omega)) (Nat.le_trans (dec_le (k := 1) (by decide) (by decide)) (by omega))
theorem dtext_2 : qtext (qOf false 2 1) = [50] := by
  have h : str (dec 2) = [50] := str_dec (l := [50]) (by decide)
  unfold qtext
  rw [show decide (qOf false 2 1 < 0) = false by decide, show (qOf false 2 1).num.natAbs = 2 by decide, show (qOf false 2 1).den = 1 by decide, h]; rfl
theorem dcode_2 : qcode [50] = 0 ∧ qval [50] = qOf false 2 1 := by
  rw [← dtext_2]
  exact qparse_text _ (Nat.le_trans (dec_le (k := 1) (by decide) (by decide)) (by omega)) (Nat.le_trans (dec_le (k := 1) (by decide) (by decide)) (by omega))
theorem dtext_5 : qtext (qOf false 5 1) = [53] := by
  have h : str (dec 5) = [53] := str_dec (l := [53]) (by decide)
  unfold qtext
  rw [show decide (qOf false 5 1 < 0) = false by decide, show (qOf false 5 1).num.natAbs = 5 by decide, show (qOf false 5 1).den = 1 by decide, h]; rfl
theorem dcode_5 : qcode [53] = 0 ∧ qval [53] = qOf false 5 1 := by
  rw [← dtext_5]
  exact qparse_text _ (Nat.le_trans (dec_le (k := 1) (by decide) (by decide)) (by omega)) (Nat.le_trans (dec_le (k := 1) (by decide) (by decide)) (by omega))
theorem two_valid : validT [fldX] twoT = true := by
  have hv : vvalid 1 [53] [] = true := by
    unfold vvalid vnum
    rw [if_neg (by decide), if_neg (by decide), dcode_5.1]
    rfl
  have n0 : numB [] = true := rfl
  have c0 : cntB [] = true := rfl
  have n1 : numB [49] = true := by unfold numB; rw [dcode_1.1]; rfl
  have n2 : numB [50] = true := by unfold numB; rw [dcode_2.1]; rfl
  have p1 : validP [fldX] (.mk 1 0 [] []) = true := by decide
  have vb : valuesB 1 [⟨1, [53], []⟩] = true := by
    unfold valuesB
    rw [List.all_cons]
    show ((vvalid 1 [53] [] && _) && _) = true
    rw [hv]
    rfl
  have p3 : validP [fldX] (.mk 3 0 [⟨1, [53], []⟩] []) = true := by
    show ((true && (valuesB 1 [⟨1, [53], []⟩] && true)) && true) = true
    rw [vb]; rfl
  have p7 : validP [fldX] (.mk 7 0 [⟨1, [53], []⟩] []) = true := by
    show ((true && (valuesB 1 [⟨1, [53], []⟩] && true)) && true) = true
    rw [vb]; rfl
  unfold validT
  rw [two_shape, two_deep]
  show (true && ((validP [fldX] (.mk 1 0 [] []) && (numB [] && (cntB [] && true))) && ((validP [fldX] (.mk 3 0 [⟨1, [53], []⟩] []) && (numB [49] && (cntB [] && true))) && ((validP [fldX] (.mk 7 0 [⟨1, [53], []⟩] []) && (numB [50] && (cntB [] && true))) && true))) && _) = true
  rw [p1, p3, p7, n0, n1, n2, c0]
  rfl
end Go.Proofs.YtlmjkbdodecbmaaGreatDoor

namespace Go.Proofs.YtlmjkbdodecbmaaGreatDoor
open Go.RowKit
set_option linter.unusedVariables false
set_option linter.unusedSimpArgs false
attribute [local go_sem] field_nat
theorem load_t3 {w : World} {b : Nat} {x y z : Value} (h0 : w.cell? ⟨b, 0, none⟩ = some x) (h1 : w.cell? ⟨b, 1, none⟩ = some y) (h2 : w.cell? ⟨b, 2, none⟩ = some z) : (loadVar 24 ⟨b, 0, none⟩).run Tryz.prog w = .ok (.agg #[x, y, z]) w := by
  simp [go_sem, h0, h1, h2]
/-- The end of a function whose one result is a tree. -/
theorem ret_t3 {fn : Func} {s : Nat} {R : Ending → World → Prop} {a : Act} {w : World} {b : Nat} {x y z : Value} (hres : fn.results = #[.cell s 24]) (hp : a.tmps.getD s undef = .pointer (some ⟨b, 0, none⟩)) (h0 : w.cell? ⟨b, 0, none⟩ = some x) (h1 : w.cell? ⟨b, 1, none⟩ = some y) (h2 : w.cell? ⟨b, 2, none⟩ = some z) (hd : a.defers = []) (hR : R (.returned (.agg #[x, y, z])) w) : bodyPost Tryz.prog fn R .ret a w := by
  refine bodyPost_ret (v := .agg #[x, y, z]) ?_ hd hR
  have hp' : a.tmps[s]?.getD undef = .pointer (some ⟨b, 0, none⟩) := by simpa using hp
  simp only [results, hres]
  simp [Sem.run_bind, Sem.run_pure, Result.andThen, hp', asAddr, load_t3 h0 h1 h2]
theorem ml0 : (0 : Nat) ≤ maxLen := by decide
theorem ml1 : (1 : Nat) ≤ maxLen := by decide
theorem ml2 : (2 : Nat) ≤ maxLen := by decide
theorem intsB_nil (B : Nat) (w : World) : IntsB B w none 0 [] := ⟨⟨Nat.le_refl _, Nat.zero_le _⟩, fun _ => rfl, fun i n hi => by simp at hi⟩
set_option maxRecDepth 100000 in
set_option maxHeartbeats 2000000 in
/-- Two. -/
theorem two_any (w : World) : Calls Tryz.prog 35 #[] w fun e w' => (∃ no nc, e = .returned (.agg #[.slice no twoT.nodes.length nc, .int .i64 twoT.ms, .int .i64 twoT.nt]) ∧ TrIs w'.heap.size w' twoT no nc) ∧ Below w.heap.size w w' := by
  go_enter Tryz.func35, Tryz.ntmps35
  go_wp2_with fail
  refine ret_t3 (x := .slice (some ⟨w.heap.size + 1 + 1 + 1 + 1 + 1, 0, none⟩) 3 3) (y := .int .i64 3) (z := .int .i64 3) rfl rfl (by go_simp) (by go_simp) (by go_simp) rfl ⟨⟨some ⟨w.heap.size + 1 + 1 + 1 + 1 + 1, 0, none⟩, 3, rfl, ?_⟩, ?_⟩
  · refine ⟨⟨by decide, by decide⟩, fun h => by (cases h), fun i n hi => ?_⟩
    match i, hi with
    | 0, hi =>
      cases hi
      refine ⟨_, 0, ⟨none, 0, none, 0, some ⟨w.heap.size + 1 + 1, 0, none⟩, 2⟩, rfl, (by simp <;> omega), ⟨?_, ?_, by decide, by decide⟩, ?_⟩
      · exact PIs.mk (fun _ => []) ⟨fun i v hi => by simp at hi, ⟨Nat.le_refl _, ml0⟩, by simp, fun h => absurd rfl h, fun _ => rfl⟩ ⟨Nat.le_refl _, ml0⟩ (fun _ => rfl) (.inl rfl) (fun i k hk => by simp at hk)
      · refine ⟨⟨Nat.le_refl 2, ml2⟩, fun h => by (cases h), fun i n hi => ?_⟩
        match i, hi with
        | 0, hi => cases hi; exact ⟨_, 0, rfl, (by simp <;> omega), by go_simp <;> rfl⟩
        | 1, hi => cases hi; exact ⟨_, 0, rfl, (by simp <;> omega), by go_simp <;> rfl⟩
        | i + 2, hi => simp at hi
      · exact ⟨by go_simp <;> rfl, by go_simp <;> rfl, by go_simp <;> rfl, by go_simp <;> rfl, by go_simp <;> rfl, by go_simp <;> rfl, by go_simp <;> rfl, by go_simp <;> rfl⟩
    | 1, hi =>
      cases hi
      refine ⟨_, 0, ⟨some ⟨w.heap.size + 1 + 1 + 1, 0, none⟩, 1, none, 0, none, 0⟩, rfl, (by simp <;> omega), ⟨?_, intsB_nil _ _, by decide, by decide⟩, ?_⟩
      · refine PIs.mk (fun _ => []) ⟨fun i v hi => ?_, ⟨Nat.le_refl _, ml1⟩, by decide, fun _ => ⟨_, 0, rfl, (by simp <;> omega)⟩, fun h => by cases h⟩ ⟨Nat.le_refl _, ml0⟩ (fun _ => rfl) (.inl rfl) (fun i k hk => by simp at hk)
        match i, hi with
        | 0, hi => cases hi; exact ⟨_, 0, rfl, ⟨by go_simp <;> rfl⟩, ⟨by go_simp <;> rfl⟩, ⟨by go_simp <;> rfl⟩⟩
        | i + 1, hi => simp at hi
      · exact ⟨by go_simp <;> rfl, by go_simp <;> rfl, by go_simp <;> rfl, by go_simp <;> rfl, by go_simp <;> rfl, by go_simp <;> rfl, by go_simp <;> rfl, by go_simp <;> rfl⟩
    | 2, hi =>
      cases hi
      refine ⟨_, 0, ⟨some ⟨w.heap.size + 1 + 1 + 1 + 1, 0, none⟩, 1, none, 0, none, 0⟩, rfl, (by simp <;> omega), ⟨?_, intsB_nil _ _, by decide, by decide⟩, ?_⟩
      · refine PIs.mk (fun _ => []) ⟨fun i v hi => ?_, ⟨Nat.le_refl _, ml1⟩, by decide, fun _ => ⟨_, 0, rfl, (by simp <;> omega)⟩, fun h => by cases h⟩ ⟨Nat.le_refl _, ml0⟩ (fun _ => rfl) (.inl rfl) (fun i k hk => by simp at hk)
        match i, hi with
        | 0, hi => cases hi; exact ⟨_, 0, rfl, ⟨by go_simp <;> rfl⟩, ⟨by go_simp <;> rfl⟩, ⟨by go_simp <;> rfl⟩⟩
        | i + 1, hi => simp at hi
      · exact ⟨by go_simp <;> rfl, by go_simp <;> rfl, by go_simp <;> rfl, by go_simp <;> rfl, by go_simp <;> rfl, by go_simp <;> rfl, by go_simp <;> rfl, by go_simp <;> rfl⟩
    | i + 3, hi => simp [twoT] at hi
  · exact ((((((Below.refl _ w).alloc (Nat.le_refl _) _).alloc (by simp <;> omega) _).alloc (by simp <;> omega) _).alloc (by simp <;> omega) _).alloc (by simp <;> omega) _).alloc (by simp <;> omega) _
end Go.Proofs.YtlmjkbdodecbmaaGreatDoor

namespace Go.Proofs.YtlmjkbdodecbmaaGreatDoor
open Go.RowKit
set_option linter.unusedVariables false
set_option linter.unusedSimpArgs false
/-- The numbers told so far. -/
def numL (N : Nat) (pre : List (Nat × Nat)) : List Int := (List.range N).map fun n => if n ∈ pre.map Prod.fst then (((pre.map Prod.fst).idxOf n : Nat) : Int) else 0
theorem numL_len (N : Nat) (pre : List (Nat × Nat)) : (numL N pre).length = N := by unfold numL; simp
theorem numL_get (N : Nat) (pre : List (Nat × Nat)) (n : Nat) (h : n < N) : (numL N pre)[n]? = some (if n ∈ pre.map Prod.fst then (((pre.map Prod.fst).idxOf n : Nat) : Int) else 0) := by
  unfold numL
  rw [List.getElem?_map, List.getElem?_range h]
  rfl
theorem numL_nil (N : Nat) : numL N [] = List.replicate N 0 := by
  unfold numL
  simp [List.map_const']
theorem numL_snoc {N : Nat} {pre : List (Nat × Nat)} {x : Nat × Nat} (h : x.1 ∉ pre.map Prod.fst) : (numL N pre).set x.1 ((pre.length : Nat) : Int) = numL N (pre ++ [x]) := by
  apply List.ext_getElem?
  intro n
  rw [List.getElem?_set, numL_len]
  by_cases hn : n < N
  · rw [numL_get N pre n hn, numL_get N _ n hn, List.map_append, List.map_cons, List.map_nil, List.idxOf_append]
    by_cases hx : x.1 = n
    · subst hx
      rw [if_pos rfl, if_pos hn, if_pos (by simp), if_neg h]
      simp
    · rw [if_neg hx]
      by_cases hm : n ∈ pre.map Prod.fst
      · rw [if_pos hm, if_pos (by simp [hm]), if_pos hm]
      · rw [if_neg hm, if_neg (by rw [List.mem_append]; rintro (h9 | h9); exact hm h9; rw [List.mem_singleton] at h9; exact hx h9.symm)]
  · rw [List.getElem?_eq_none (by rw [numL_len]; omega), List.getElem?_eq_none (by rw [numL_len]; omega)]
    by_cases hx : x.1 = n
    · rw [if_pos hx, if_neg (by omega)]
    · rw [if_neg hx]
theorem walk_fst_nd {t : TR} (h : shapeB t = true) : ((walkT t).map Prod.fst).Nodup := by
  obtain ⟨_, _, _, _, hi, _, _⟩ := shapeB_true h
  exact fst_nd hi
theorem walk_fst_lt {t : TR} (h : shapeB t = true) {x : Nat × Nat} (hx : x ∈ walkT t) : x.1 < t.N := by
  obtain ⟨_, _, _, _, hi, _, _⟩ := shapeB_true h
  exact hi.lt x (by simpa using hx)
theorem walk_mem {t : TR} (h : shapeB t = true) {n : Nat} (hn : n < t.N) : n ∈ (walkT t).map Prod.fst := by
  obtain ⟨d, hd⟩ := walkT_all h n hn
  exact List.mem_map.2 ⟨_, hd, rfl⟩
theorem numL_all {t : TR} (h : shapeB t = true) {n : Nat} (hn : n < t.N) : (numL t.N (walkT t))[n]? = some ((posT t n : Nat) : Int) := by
  rw [numL_get _ _ n hn, if_pos (walk_mem h hn)]
  rfl
theorem snoc_new {t : TR} (h : shapeB t = true) {pre : List (Nat × Nat)} {x : Nat × Nat} (hp : (pre ++ [x]) <+: walkT t) : x.1 ∉ pre.map Prod.fst ∧ x.1 < t.N ∧ pre.length < t.N := by
  have hn := (walk_fst_nd h).sublist (hp.sublist.map Prod.fst)
  rw [List.map_append, List.nodup_append] at hn
  refine ⟨fun hm => hn.2.2 _ hm _ (by simp) rfl, walk_fst_lt h (hp.subset (by simp)), ?_⟩
  have := hp.length_le
  rw [walkT_len h, List.length_append] at this
  simp at this
  omega
theorem posT_lt {t : TR} (h : shapeB t = true) {n : Nat} (hn : n < t.N) : posT t n < t.N := by
  have h1 := List.idxOf_lt_length_of_mem (walk_mem h hn)
  rw [List.length_map, walkT_len h] at h1
  exact h1
theorem posT_get {t : TR} (h : shapeB t = true) {n : Nat} (hn : n < t.N) : ((walkT t).map Prod.fst)[posT t n]? = some n := by
  have h1 := List.idxOf_lt_length_of_mem (walk_mem h hn)
  have h2 : posT t n < ((walkT t).map Prod.fst).length := h1
  rw [List.getElem?_eq_getElem h2]
  congr 1
  exact List.getElem_idxOf h1
theorem posT_inj {t : TR} (h : shapeB t = true) {n m : Nat} (hn : n < t.N) (hm : m < t.N) (he : posT t n = posT t m) : n = m := by
  have h1 := posT_get h hn
  rw [he, posT_get h hm] at h1
  cases h1
  rfl
theorem nodup_idx : ∀ {l : List Nat} {i j a : Nat}, l.Nodup → l[i]? = some a → l[j]? = some a → i = j := by
  intro l
  induction l with
  | nil => intro i j a _ h; simp at h
  | cons b l ih =>
    intro i j a hn hi hj
    rw [List.nodup_cons] at hn
    cases i with
    | zero =>
      cases j with
      | zero => rfl
      | succ j =>
        simp at hi hj
        subst hi
        exact absurd (List.mem_of_getElem? hj) hn.1
    | succ i =>
      cases j with
      | zero =>
        simp at hi hj
        subst hj
        exact absurd (List.mem_of_getElem? hi) hn.1
      | succ j =>
        simp at hi hj
        rw [ih hn.2 hi hj]
theorem posT_at {t : TR} (h : shapeB t = true) {p : Nat} {x : Nat × Nat} (hp : (walkT t)[p]? = some x) : posT t x.1 = p := by
  have hx := walk_fst_lt h (List.mem_of_getElem? hp)
  have h1 := posT_get h hx
  have h2 : ((walkT t).map Prod.fst)[p]? = some x.1 := by rw [List.getElem?_map, hp]; rfl
  exact nodup_idx (walk_fst_nd h) h1 h2
theorem orderT_len {t : TR} (h : shapeB t = true) : (orderT t).nodes.length = t.N := by unfold orderT; rw [List.length_map, walkT_len h]
theorem orderT_at {t : TR} (h : shapeB t = true) {p : Nat} {y : TN} (hp : (orderT t).nodes[p]? = some y) : ∃ j n, j < t.N ∧ t.nodes[j]? = some n ∧ posT t j = p ∧ y = newN t n := by
  unfold orderT at hp
  rw [List.getElem?_map] at hp
  cases hw : (walkT t)[p]? with
  | none => rw [hw] at hp; cases hp
  | some x =>
    rw [hw] at hp
    have hx := walk_fst_lt h (List.mem_of_getElem? hw)
    have hn : t.nodes[x.1]? = some (t.nodes[x.1]'hx) := List.getElem?_eq_getElem hx
    simp only [Option.map_some, Option.some.injEq] at hp
    rw [hn, Option.getD_some] at hp
    exact ⟨x.1, _, hx, hn, posT_at h hw, hp.symm⟩
/-- Eight cells set in a row. -/
def set8 (cs : List Value) (o : Nat) (x0 x1 x2 x3 x4 x5 x6 x7 : Value) : List Value := (((((((cs.set o x0).set (o + 1) x1).set (o + 2) x2).set (o + 3) x3).set (o + 4) x4).set (o + 5) x5).set (o + 6) x6).set (o + 7) x7
theorem set8_len (cs : List Value) (o : Nat) (x0 x1 x2 x3 x4 x5 x6 x7 : Value) : (set8 cs o x0 x1 x2 x3 x4 x5 x6 x7).length = cs.length := by unfold set8; simp
theorem set8_ne {cs : List Value} {o i : Nat} {x0 x1 x2 x3 x4 x5 x6 x7 : Value} (h : i < o ∨ o + 8 ≤ i) : (set8 cs o x0 x1 x2 x3 x4 x5 x6 x7)[i]? = cs[i]? := by
  unfold set8
  rw [List.getElem?_set_ne (by omega), List.getElem?_set_ne (by omega), List.getElem?_set_ne (by omega), List.getElem?_set_ne (by omega), List.getElem?_set_ne (by omega), List.getElem?_set_ne (by omega), List.getElem?_set_ne (by omega), List.getElem?_set_ne (by omega)]
/-- Eight cells in a list. -/
def Ls8 (cs : List Value) (o : Nat) (x0 x1 x2 x3 x4 x5 x6 x7 : Value) : Prop := cs[o]? = some x0 ∧ cs[o + 1]? = some x1 ∧ cs[o + 2]? = some x2 ∧ cs[o + 3]? = some x3 ∧ cs[o + 4]? = some x4 ∧ cs[o + 5]? = some x5 ∧ cs[o + 6]? = some x6 ∧ cs[o + 7]? = some x7
theorem set8_at {cs : List Value} {o : Nat} {x0 x1 x2 x3 x4 x5 x6 x7 : Value} (h : o + 8 ≤ cs.length) : Ls8 (set8 cs o x0 x1 x2 x3 x4 x5 x6 x7) o x0 x1 x2 x3 x4 x5 x6 x7 := by
  unfold set8 Ls8
  refine ⟨?_, ?_, ?_, ?_, ?_, ?_, ?_, ?_⟩ <;> simp [List.getElem?_set] <;> omega
theorem Ls8.keep {cs cs' : List Value} {o : Nat} {x0 x1 x2 x3 x4 x5 x6 x7 : Value} (h : Ls8 cs o x0 x1 x2 x3 x4 x5 x6 x7) (hs : ∀ c, c < 8 → cs'[o + c]? = cs[o + c]?) : Ls8 cs' o x0 x1 x2 x3 x4 x5 x6 x7 := by
  obtain ⟨a0, a1, a2, a3, a4, a5, a6, a7⟩ := h
  exact ⟨(hs 0 (by omega)).trans a0, (hs 1 (by omega)).trans a1, (hs 2 (by omega)).trans a2, (hs 3 (by omega)).trans a3, (hs 4 (by omega)).trans a4, (hs 5 (by omega)).trans a5, (hs 6 (by omega)).trans a6, (hs 7 (by omega)).trans a7⟩
theorem BoxL.set8 {w : World} {b : Nat} {cs : List Value} (h : BoxL w b cs) {o : Nat} (x0 x1 x2 x3 x4 x5 x6 x7 : Value) (ho : o + 8 ≤ cs.length) :
    BoxL ((((((((w.setCell ⟨b, o, none⟩ x0).setCell ⟨b, o + 1, none⟩ x1).setCell ⟨b, o + 2, none⟩ x2).setCell ⟨b, o + 3, none⟩ x3).setCell ⟨b, o + 4, none⟩ x4).setCell ⟨b, o + 5, none⟩ x5).setCell ⟨b, o + 6, none⟩ x6).setCell ⟨b, o + 7, none⟩ x7) b (Go.Proofs.YtlmjkbdodecbmaaGreatDoor.set8 cs o x0 x1 x2 x3 x4 x5 x6 x7) := by
  unfold Go.Proofs.YtlmjkbdodecbmaaGreatDoor.set8
  exact (((((((h.set o x0 (by omega)).set (o + 1) x1 (by simp; omega)).set (o + 2) x2 (by simp; omega)).set (o + 3) x3 (by simp; omega)).set (o + 4) x4 (by simp; omega)).set (o + 5) x5 (by simp; omega)).set (o + 6) x6 (by simp; omega)).set (o + 7) x7 (by simp; omega)
theorem Ls8.at8 {w : World} {b : Nat} {cs : List Value} {o : Nat} {x0 x1 x2 x3 x4 x5 x6 x7 : Value} (h : Ls8 cs o x0 x1 x2 x3 x4 x5 x6 x7) (hb : BoxL w b cs) : At8 w b o x0 x1 x2 x3 x4 x5 x6 x7 := by
  obtain ⟨a0, a1, a2, a3, a4, a5, a6, a7⟩ := h
  exact ⟨hb.cell _ _ a0, hb.cell _ _ a1, hb.cell _ _ a2, hb.cell _ _ a3, hb.cell _ _ a4, hb.cell _ _ a5, hb.cell _ _ a6, hb.cell _ _ a7⟩
end Go.Proofs.YtlmjkbdodecbmaaGreatDoor

namespace Go.Proofs.YtlmjkbdodecbmaaGreatDoor
open Go.RowKit Go.Shelf
set_option linter.unusedVariables false
set_option linter.unusedSimpArgs false
/-- A row of ints that lies between two bounds. -/
structure IntsQ (lo hi : Nat) (w : World) (io : Option Addr) (ic : Nat) (ns : List Int) : Prop where
  cap : ns.length ≤ ic ∧ ic ≤ maxLen
  no : io = none → ic = 0
  at_ : ∀ (i : Nat) (n : Int), ns[i]? = some n → ∃ b off, io = some ⟨b, off, none⟩ ∧ lo ≤ b ∧ b < hi ∧ w.cell? ⟨b, off + i, none⟩ = some (.int .i64 n)
theorem IntsQ.mid {lo hi : Nat} {w w' : World} {io : Option Addr} {ic : Nat} {ns : List Int} (h : IntsQ lo hi w io ic ns) (hl : Mid lo hi w w') : IntsQ lo hi w' io ic ns :=
  ⟨h.cap, h.no, fun i n hi => by obtain ⟨b, off, e, h1, h2, hc⟩ := h.at_ i n hi; exact ⟨b, off, e, h1, h2, (hl.cell h1 h2).trans hc⟩⟩
theorem IntsQ.widen {lo hi lo' hi' : Nat} {w : World} {io : Option Addr} {ic : Nat} {ns : List Int} (h : IntsQ lo hi w io ic ns) (h1 : lo' ≤ lo) (h2 : hi ≤ hi') : IntsQ lo' hi' w io ic ns :=
  ⟨h.cap, h.no, fun i n hi => by obtain ⟨b, off, e, h3, h4, hc⟩ := h.at_ i n hi; exact ⟨b, off, e, by omega, by omega, hc⟩⟩
theorem IntsQ.toB {lo hi : Nat} {w : World} {io : Option Addr} {ic : Nat} {ns : List Int} (h : IntsQ lo hi w io ic ns) : IntsB hi w io ic ns :=
  ⟨h.cap, h.no, fun i n hi => by obtain ⟨b, off, e, h1, h2, hc⟩ := h.at_ i n hi; exact ⟨b, off, e, h2, hc⟩⟩
theorem IntsQ.of_owns {base : Nat} {e : TypeId} {w : World} {io : Option Addr} {n ic : Nat} {ns : List Int} (h : OwnsK 1 base e w (.slice io n ic) n (icel ns)) (hn : ns.length = n) : IntsQ base w.heap.size w io ic ns := by
  obtain ⟨ao, cap, hv, h1, h2, h3⟩ := h.slice
  cases hv
  refine ⟨⟨by omega, h2⟩, h3, fun i x hi => ?_⟩
  rcases h.shape with ⟨h4, h5⟩ | ⟨g, cap', e1, h6, h7, -⟩
  · cases h4
    have := (List.getElem?_eq_some_iff.1 hi).1
    omega
  · cases e1
    exact ⟨g, 0, rfl, h6, h7, by rw [Nat.zero_add]; exact h.cellAt (icel_get hi)⟩
/-- A node whose parts lie between two bounds. -/
structure NdQ (lo hi : Nat) (w : World) (n : TN) (l : NdL) : Prop where
  p : PQt lo hi w n.p l.vo l.vc l.ko l.kc
  k : IntsQ lo hi w l.io l.ic n.kids
  sc : n.sc.length ≤ 9223372036854775807
  ct : n.ct.length ≤ 9223372036854775807
theorem NdQ.mid {lo hi : Nat} {w w' : World} {n : TN} {l : NdL} (h : NdQ lo hi w n l) (hl : Mid lo hi w w') : NdQ lo hi w' n l := ⟨h.p.mid hl, h.k.mid hl, h.sc, h.ct⟩
theorem NdQ.widen {lo hi lo' hi' : Nat} {w : World} {n : TN} {l : NdL} (h : NdQ lo hi w n l) (h1 : lo' ≤ lo) (h2 : hi ≤ hi') : NdQ lo' hi' w n l := ⟨h.p.widen h1 h2, h.k.widen h1 h2, h.sc, h.ct⟩
theorem NdQ.toB {lo hi : Nat} {w : World} {n : TN} {l : NdL} (h : NdQ lo hi w n l) : NdIs hi w n l := ⟨h.p.toP, h.k.toB, h.sc, h.ct⟩
/-- A node's cells in a list. -/
abbrev ndLs (cs : List Value) (o : Nat) (n : TN) (l : NdL) : Prop := Ls8 cs o (.int .i64 n.p.op) (.int .i64 n.p.fld) (.slice l.vo n.p.vals.length l.vc) (.slice l.ko n.p.kids.length l.kc) (.string ⟨n.sc.toArray⟩) (.string ⟨n.ct.toArray⟩) (.slice l.io n.kids.length l.ic) (.int .i64 n.df)
/-- The nodes that Order has laid so far. -/
def OdRow (t : TR) (D hi : Nat) (W : World) (cs : List Value) (i : Nat) : Prop := cs.length = t.N * 8 ∧ ∀ (j : Nat) (n : TN), j < i → t.nodes[j]? = some n → ∃ l, NdQ D hi W (newN t n) l ∧ ndLs cs (posT t j * 8) (newN t n) l
theorem OdRow.go {t : TR} {D hi hi' : Nat} {W W' : World} {cs : List Value} {i : Nat} (h : OdRow t D hi W cs i) (h1 : hi ≤ hi') (hm : Mid D hi W W') : OdRow t D hi' W' cs i :=
  ⟨h.1, fun j n hj hn => by obtain ⟨l, h3, h4⟩ := h.2 j n hj hn; exact ⟨l, (h3.mid hm).widen (Nat.le_refl _) h1, h4⟩⟩
theorem OdRow.start {t : TR} {D hi : Nat} {W : World} {cs : List Value} (h : cs.length = t.N * 8) : OdRow t D hi W cs 0 := ⟨h, fun j n hj => absurd hj (Nat.not_lt_zero _)⟩
theorem OdRow.room {t : TR} {D hi : Nat} {W : World} {cs : List Value} {i j : Nat} (hs : shapeB t = true) (h : OdRow t D hi W cs i) (hj : j < t.N) : posT t j * 8 + 8 ≤ cs.length := by
  have := posT_lt hs hj
  rw [h.1]
  omega
theorem OdRow.step {t : TR} {D hi : Nat} {W : World} {cs : List Value} {i : Nat} {n : TN} {l : NdL} (hs : shapeB t = true) (h : OdRow t D hi W cs i) (hn : t.nodes[i]? = some n) (hq : NdQ D hi W (newN t n) l) :
    OdRow t D hi W (set8 cs (posT t i * 8) (.int .i64 (newN t n).p.op) (.int .i64 (newN t n).p.fld) (.slice l.vo (newN t n).p.vals.length l.vc) (.slice l.ko (newN t n).p.kids.length l.kc) (.string ⟨(newN t n).sc.toArray⟩) (.string ⟨(newN t n).ct.toArray⟩) (.slice l.io (newN t n).kids.length l.ic) (.int .i64 (newN t n).df)) (i + 1) := by
  have hi9 : i < t.N := (List.getElem?_eq_some_iff.1 hn).1
  refine ⟨by rw [set8_len]; exact h.1, fun j m hj hm => ?_⟩
  by_cases hji : j = i
  · subst hji
    rw [hn] at hm
    cases hm
    exact ⟨l, hq, set8_at (h.room hs hi9)⟩
  · obtain ⟨l2, h3, h4⟩ := h.2 j m (by omega) hm
    refine ⟨l2, h3, Ls8.keep h4 fun c hc => ?_⟩
    have hj9 : j < t.N := (List.getElem?_eq_some_iff.1 hm).1
    have hne : posT t j ≠ posT t i := fun e => hji (posT_inj hs hj9 hi9 e)
    exact set8_ne (by omega)
theorem OdRow.done {t : TR} {D hi g : Nat} {W : World} {cs : List Value} (hs : shapeB t = true) (h : OdRow t D hi W cs t.N) (hb : BoxL W g cs) (hg : g < hi) (hN : t.N ≤ maxLen) : TrIs hi W (orderT t) (some ⟨g, 0, none⟩) t.N := by
  refine ⟨⟨by rw [orderT_len hs]; exact Nat.le_refl _, hN⟩, (fun e => by cases e), fun p y hp => ?_⟩
  obtain ⟨j, n, hj, hn, hpj, rfl⟩ := orderT_at hs hp
  obtain ⟨l, h3, h4⟩ := h.2 j n hj hn
  refine ⟨g, 0, l, rfl, hg, h3.toB, ?_⟩
  rw [Nat.zero_add, ← hpj]
  exact h4.at8 hb
/-- A full row as a block that may be written. -/
theorem BoxL.of_ownsK {K base : Nat} {e : TypeId} {w : World} {g n : Nat} {xs : List Value} (h : OwnsK K base e w (.slice (some ⟨g, 0, none⟩) n n) n xs) : BoxL w g xs := by
  obtain ⟨h1, ⟨h2, _⟩ | ⟨g', cap, cur, e1, h3, h4, h5, h6, h7, h8⟩⟩ := h
  · cases h2
  · cases e1
    have hc : cur.toList = xs := by
      rw [← h8, List.take_of_length_le]
      have := h7
      simp at this ⊢
      omega
    refine ⟨fun i x hi => ?_, fun i hi => ?_, (Array.getElem?_eq_some_iff.1 h4).1⟩
    · unfold World.cell?
      rw [h4]
      rw [← hc] at hi
      simpa using hi
    · unfold World.frozen?
      rw [h4]
      simp
theorem OwnsK.obj {K base : Nat} {e : TypeId} {w : World} {g n c : Nat} {xs : List Value} (h : OwnsK K base e w (.slice (some ⟨g, 0, none⟩) n c) n xs) : ∃ cur, w.heap[g]? = some (.cells cur e) ∧ base ≤ g := by
  obtain ⟨h1, ⟨h2, _⟩ | ⟨g', cap, cur, e1, h3, h4, h5, h6, h7, h8⟩⟩ := h
  · cases h2
  · cases e1
    exact ⟨cur, h4, h3⟩
theorem BoxL.of_obj {w : World} {g : Nat} {cs : Array Value} {e : TypeId} (h : w.heap[g]? = some (.cells cs e)) : BoxL w g cs.toList := by
  refine ⟨fun i x hi => ?_, fun i hi => ?_, (Array.getElem?_eq_some_iff.1 h).1⟩
  · unfold World.cell?
    rw [h]
    simpa using hi
  · unfold World.frozen?
    rw [h]
    simp
theorem heap_kept {w w' : World} {k : Nat} {o : Obj} (h : w.heap[k]? = some o) (hb : Below w.heap.size w w') : w'.heap[k]? = some o := (hb.block k (Array.getElem?_eq_some_iff.1 h).1).trans h
section
variable {P : Program} {t e : TypeId} {z : Value} {K bytes : Nat}
/-- make([]T, n), as an operation. -/
theorem step_makeT (E : ElemK P t e z K bytes) {w : World} {o : Oper} {a : Act} {Kn : Act → World → Prop} {Q : Exit → Act → World → Prop} {l c : Operand} {n : Nat}
    (hop : o.op = Op.makeSlice t l c) (hl : a.eval l = .int .i64 (n : Int)) (hc : a.eval c = .int .i64 (n : Int)) (b2 : bytes * n ≤ 281474976710656) (b3 : n ≤ maxLen)
    (h : ∀ w', OwnsK K w.heap.size e w' (.slice (some ⟨w.heap.size, 0, none⟩) n n) n (madeCells z.cells (n * K)).toList → Below w.heap.size w w' → Kn (a.put o.dst (.slice (some ⟨w.heap.size, 0, none⟩) n n)) w') : Oper.wp P o a w Kn Q := by
  obtain ⟨i, hi, hz, h4, h5⟩ := E.info
  subst h5
  obtain ⟨w', hrun, r1, r2⟩ := run_make_full (P := P) w w.heap.size t e i z K E.und hi hz h4 .i64 .i64 n b2 b3 (Nat.le_refl _)
  unfold Oper.wp
  simp [execOp, hop, hl, hc, hrun, Result.andThen]
  exact h w' r1 ⟨r2.os, r2.tape, r2.output, r2.size, fun k hk => r2.block k hk (by simp)⟩
end
theorem E_nodeT : ElemK Tryz.prog 22 36 (.agg #[.int .i64 0, .int .i64 0, .slice none 0 0, .slice none 0 0, .string ⟨#[]⟩, .string ⟨#[]⟩, .slice none 0 0, .int .i64 0]) 8 128 := elemK_of Tryz.underlying22 (by kernel_rfl) rfl (by decide)
theorem copied_h (p : PT) (vo : Option Addr) (vc : Nat) (ko : Option Addr) (kc : Nat) (B : Nat) (w : World) (hP : Hid (PtIs B w p vo vc ko kc)) (hB : Hid (B ≤ w.heap.size)) (hs : Hid (SmP 4000 p)) :
    Calls Tryz.prog 69 #[.agg #[.int .i64 p.op, .int .i64 p.fld, .slice vo p.vals.length vc, .slice ko p.kids.length kc]] w (CpPost p w) := copied_any p vo vc ko kc B w hP.out hB hs
/-- The body's own while nodes are numbered. -/
def OdI (pn p7 N : Nat) (pre : List (Nat × Nat)) (S : Nat → Prop) (W : World) : Prop := (S = fun k => k = pn ∨ k = p7) ∧ BoxL W pn (icel (numL N pre)) ∧ BoxL W p7 [.int .i64 ((pre.length : Nat) : Int)]
theorem OdI.oth {pn p7 N : Nat} {pre : List (Nat × Nat)} {S : Nat → Prop} {W W' : World} {D : Nat} (h : OdI pn p7 N pre S W) (ho : Oth D S W W') : OdI pn p7 N pre S W' := by
  obtain ⟨rfl, i1, i3⟩ := h
  exact ⟨rfl, i1.block (ho.same _ i1.lt (.inr (.inl rfl))), i3.block (ho.same _ i3.lt (.inr (.inr rfl)))⟩
theorem Keep.below_to {S : Nat → Prop} {a b c : World} (h : Keep S a b) (h' : Below a.heap.size b c) : Keep S a c := ⟨h'.os.trans h.os, h'.tape.trans h.tape, h'.output.trans h.output, Nat.le_trans h.size h'.size, fun k hk hs => (h'.block k hk).trans (h.same k hk hs)⟩
abbrev World.size9 (w : World) : Nat := w.heap.size
/-- No panic may come. -/
def NoPan (Q : Exit → Act → World → Prop) : Exit → Act → World → Prop
  | .panic _, _, _ => False
  | e, a, w => Q e a w
theorem NoPan.out {Q : Exit → Act → World → Prop} {e : Exit} {a : Act} {w : World} (h : NoPan Q e a w) : Q e a w := by cases e <;> first | exact h | exact h.elim
theorem NoPan.normal {Q : Exit → Act → World → Prop} {a : Act} {w : World} (h : Q .normal a w) : NoPan Q .normal a w := h
theorem wp_noPan {P : Program} {c : Code} {Q : Exit → Act → World → Prop} {a : Act} {w : World} (h : c.wp P (NoPan Q) a w) : c.wp P Q a w := Code.wp_mono (fun _ _ _ h => h.out) h
/-- What stays while nodes are numbered and laid. -/
def OdC (p1 p2 p6 pn N : Nat) (t : TR) (no : Option Addr) (nc B : Nat) (w W : World) : Prop := BoxL W p1 [.slice no t.nodes.length nc, .int .i64 t.ms, .int .i64 t.nt] ∧ BoxL W p2 [.slice none 0 0, .int .i64 0, .int .i64 0] ∧ BoxL W p6 [.slice (some ⟨pn, 0, none⟩) N N] ∧ Hid (TrIs B W t no nc) ∧ Below w.heap.size w W ∧ B ≤ W.heap.size
theorem OdC.oth {p1 p2 p6 pn N : Nat} {t : TR} {no : Option Addr} {nc B : Nat} {w W W' : World} {D : Nat} {S : Nat → Prop} (h : OdC p1 p2 p6 pn N t no nc B w W) (ho : Oth D S W W') (hw : w.heap.size ≤ D) (hB : B ≤ D) (hp : p1 < D ∧ p2 < D ∧ p6 < D) : OdC p1 p2 p6 pn N t no nc B w W' := by
  obtain ⟨c1, c2, c6, cT, cb, cB⟩ := h
  refine ⟨c1.block (ho.same _ c1.lt (.inl hp.1)), c2.block (ho.same _ c2.lt (.inl hp.2.1)), c6.block (ho.same _ c6.lt (.inl hp.2.2)), Lib.hid (cT.out.low fun k hk => ho.same k (by omega) (.inl (by omega))), ?_, Nat.le_trans cB ho.size⟩
  exact cb.trans ⟨ho.os, ho.tape, ho.output, ho.size, fun k hk => ho.same k (Nat.lt_of_lt_of_le hk cb.size) (.inl (by omega))⟩
theorem OdC.keep {p1 p2 p6 pn N : Nat} {t : TR} {no : Option Addr} {nc B : Nat} {w W W' : World} {S : Nat → Prop} (h : OdC p1 p2 p6 pn N t no nc B w W) (hk : Keep S W W') (hw : ∀ k, S k → w.heap.size ≤ k ∧ B ≤ k ∧ k ≠ p1 ∧ k ≠ p2 ∧ k ≠ p6) : OdC p1 p2 p6 pn N t no nc B w W' := by
  obtain ⟨c1, c2, c6, cT, cb, cB⟩ := h
  refine ⟨c1.keep hk (fun h => (hw _ h).2.2.1 rfl), c2.keep hk (fun h => (hw _ h).2.2.2.1 rfl), c6.keep hk (fun h => (hw _ h).2.2.2.2 rfl), Lib.hid (cT.out.low fun k hk2 => hk.same k (by omega) (fun h => by have := (hw _ h).2.1; omega)), ?_, Nat.le_trans cB hk.size⟩
  exact cb.trans (hk.below (fun k h => (hw k h).1) cb.size)
theorem OdC.kept {p1 p2 p6 pn N : Nat} {t : TR} {no : Option Addr} {nc B : Nat} {w W W' : World} (h : OdC p1 p2 p6 pn N t no nc B w W) (hb : Below W.heap.size W W') : OdC p1 p2 p6 pn N t no nc B w W' :=
  h.keep (S := fun _ => False) (Keep.of_below hb) (fun k h => h.elim)
end Go.Proofs.YtlmjkbdodecbmaaGreatDoor
