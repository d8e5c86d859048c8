/-
  Pi20: TreB HeapT (what is needed of them).
-/
import Derived.Test.YtlmjkbdodecbmaaGreatDoorPi18
import Derived.Test.YtlmjkbdodecbmaaGreatDoorPi19

namespace Go.Proofs.YtlmjkbdodecbmaaGreatDoor
open Go.RowKit
set_option linter.unusedVariables false
set_option linter.unusedSimpArgs false
attribute [local go_sem] field_nat
set_option maxRecDepth 100000 in
set_option maxHeartbeats 2000000 in
/-- Index, of ints. -/
theorem idxI_any (io : Option Addr) (ic : Nat) (ns : List Int) (x : Int) (B : Nat) (w : World) (h : IntsB B w io ic ns) (hBw : B ≤ w.heap.size) :
    Calls Tryz.prog 114 #[.slice io ns.length ic, .int .i64 x] w fun e w' => (∃ r : Int, e = .returned (.int .i64 r) ∧ (0 ≤ r ↔ x ∈ ns)) ∧ Below w.heap.size w w' := by
  have hlm := h.le
  have hbf : Below w.heap.size w w := Below.refl _ _
  go_enter Tryz.func114, Tryz.ntmps114
  go_wp2_with fail
  go_loopg [8] ns.length (fun gg iv wr => ∃ (i : Nat), i + gg = ns.length ∧ iv = .int .i64 (i : Int) ∧ Hid (x ∈ ns ↔ x ∈ ns.drop i) ∧ Below w.heap.size w wr)
  case atStart => exact ⟨0, by omega, rfl, Lib.hid Iff.rfl, hbf⟩
  clear hbf
  case round =>
    obtain ⟨i, hi, rfl, HR, hbf⟩ := hrel
    by_cases hil : ¬ i < ns.length
    case pos =>
      have HN : Hid (¬ x ∈ ns) := Lib.hid (by rw [HR.out, List.drop_eq_nil_of_le (by omega)]; simp)
      have hii : ¬ ((i : Nat) : Int) < ((ns.length : Nat) : Int) := by omega
      go_wp2_with fail
      go_ret
      exact ⟨⟨_, ret_one rfl, by constructor <;> intro h9; omega; exact absurd h9 HN.out⟩, hbf⟩
    case neg =>
      have hil9 : i < ns.length := by omega
      have hii : ((i : Nat) : Int) < ((ns.length : Nat) : Int) := by omega
      have hqi : (0 : Int) ≤ (i : Int) := by omega
      obtain ⟨n, hn9⟩ : ∃ v, ns[i]? = some v := ⟨_, List.getElem?_eq_getElem hil9⟩
      obtain ⟨b, off, rfl, hbB, hc⟩ := h.at_ i n hn9
      have hdr : ns.drop i = n :: ns.drop (i + 1) := by rw [List.drop_eq_getElem_cons hil9, (List.getElem?_eq_some_iff.1 hn9).2]
      rw [hdr] at HR
      have HM : Hid (n ∈ ns) := Lib.hid (List.mem_of_getElem? hn9)
      have e0 := (World.cell?_of_block (a := ⟨b, off + i, none⟩) (hbf.block b (by omega))).trans hc
      clear hc hdr hn9
      by_cases hx : x = n
      · subst hx
        go_wp2_with fail
        go_ret
        exact ⟨⟨_, ret_one rfl, fun _ => HM.out, fun _ => by omega⟩, hbf⟩
      · have hxb : (x == n) = false := by rw [beq_eq_false_iff_ne]; exact hx
        have HR2 : Hid (x ∈ ns ↔ x ∈ ns.drop (i + 1)) := Lib.hid (by rw [HR.out, List.mem_cons]; simp [hx])
        clear hx
        go_wp2_with fail
        clear e0
        go_roundg (gk - 1)
        case measure => omega
        case rel => exact ⟨i + 1, by omega, by go_num, HR2, hbf⟩
set_option maxRecDepth 100000 in
set_option maxHeartbeats 2000000 in
/-- Contains, of ints. -/
theorem contI_any (io : Option Addr) (ic : Nat) (ns : List Int) (x : Int) (b : Bool) (B : Nat) (w : World) (h : Hid (IntsB B w io ic ns)) (hBw : B ≤ w.heap.size) (HB : Hid (b = decide (x ∈ ns))) :
    Calls Tryz.prog 99 #[.slice io ns.length ic, .int .i64 x] w fun e w' => e = .returned (.bool b) ∧ Below w.heap.size w w' := by
  go_enter Tryz.func99, Tryz.ntmps99
  go_wp2_with fail
  (with_reducible refine (idxI_any io ic ns x B _ h.out hBw).mono ?_)
  rintro e w2 ⟨⟨r, rfl, hr⟩, hb2⟩
  have HB2 : Hid (b = decide (0 ≤ r)) := Lib.hid (by rw [HB.out]; exact decide_eq_decide.2 hr.symm)
  clear hr HB
  by_cases h0 : 0 ≤ r
  · go_wp2_with fail
    go_ret
    exact ⟨ret_one (congrArg Value.bool (by rw [HB2.out, decide_eq_true h0])), hb2⟩
  · go_wp2_with fail
    go_ret
    exact ⟨ret_one (congrArg Value.bool (by rw [HB2.out, decide_eq_false (Int.not_le.2 h0)])), hb2⟩
set_option maxRecDepth 100000 in
set_option maxHeartbeats 2000000 in
/-- number. -/
theorem tnumber_any (s : List UInt8) (b : Bool) (w : World) (hs : s.length ≤ 1000000) (HB : Hid (b = numB s)) :
    Calls Tryz.prog 97 #[.string ⟨s.toArray⟩] w fun e w' => e = .returned (.bool b) ∧ Below w.heap.size w w' := by
  obtain ⟨q, hq⟩ : ∃ q, q = qval s := ⟨_, rfl⟩
  obtain ⟨cd, hcd⟩ : ∃ d, d = qcode s := ⟨_, rfl⟩
  have HQV := Lib.hid hq
  have HCD := Lib.hid hcd
  clear hq hcd
  go_enter Tryz.func97, Tryz.ntmps97
  go_wp2_with fail
  refine (qparse_main s _ q cd HQV HCD (by omega)).mono ?_
  rintro e w1 hq9
  obtain ⟨aB, axO, axL, axC, ayO, ayL, ayC, rfl, hS, hax, hay, ha, hbf⟩ := hq9.out
  clear hS hax hay hq9
  obtain ⟨w2, hwE⟩ : ∃ W, W = (w1.alloc (.cells #[.bool aB, .slice axO axL axC, .slice ayO ayL ayC] 145)) := ⟨_, rfl⟩
  have hb : Below w1.heap.size w1 w2 := by rw [hwE]; exact ((Below.refl _ w1).alloc (Nat.le_refl _) _)
  obtain ⟨pa, hpa⟩ : ∃ p, p = w1.heap.size := ⟨_, rfl⟩
  have hba : Box3 w2 pa (Value.bool aB) (Value.slice axO axL axC) (Value.slice ayO ayL ayC) := by rw [hwE, hpa]; exact ⟨by go_simp, by go_simp, by go_simp, by go_simp, by go_simp, by go_simp⟩
  replace ha := ha.below hb
  have HW := Lib.hid hwE; clear hwE
  replace hbf := hbf.trans (hb.mono hbf.size)
  clear hb
  go_upto_region 2 with fail
  rw [← HW.out, ← hpa]
  clear hpa HW
  clear ha hba
  by_cases hs0 : s = []
  · have HB2 : Hid (b = true) := Lib.hid (by rw [HB.out]; unfold numB; rw [decide_eq_true hs0]; rfl)
    subst hs0
    go_wp2_with fail
    go_ret
    exact ⟨ret_one (congrArg Value.bool HB2.out.symm), hbf⟩
  · have hsb := nilb hs0
    have HB2 : Hid (b = decide (cd = 0)) := Lib.hid (by rw [HB.out]; unfold numB; rw [decide_eq_false hs0, HCD.out]; rfl)
    clear hs0
    by_cases hc : cd = 0
    · subst hc
      go_wp2_with fail
      go_ret
      exact ⟨ret_one (congrArg Value.bool (by rw [HB2.out]; rfl)), hbf⟩
    · have hcb : (cd == 0) = false := by rw [beq_eq_false_iff_ne]; exact hc
      replace HB2 : Hid (b = false) := Lib.hid (by rw [HB2.out, decide_eq_false hc])
      go_wp2_with fail
      go_ret
      exact ⟨ret_one (congrArg Value.bool HB2.out.symm), hbf⟩
set_option maxRecDepth 100000 in
set_option maxHeartbeats 2000000 in
/-- count. -/
theorem tcount_any (s : List UInt8) (b : Bool) (w : World) (hs : s.length ≤ 1000000) (HB : Hid (b = cntB s)) :
    Calls Tryz.prog 98 #[.string ⟨s.toArray⟩] w fun e w' => e = .returned (.bool b) ∧ Below w.heap.size w w' := by
  obtain ⟨q, hq⟩ : ∃ q, q = qval s := ⟨_, rfl⟩
  obtain ⟨cd, hcd⟩ : ∃ d, d = qcode s := ⟨_, rfl⟩
  have HQV := Lib.hid hq
  have HCD := Lib.hid hcd
  clear hq hcd
  go_enter Tryz.func98, Tryz.ntmps98
  go_wp2_with fail
  refine (qparse_main s _ q cd HQV HCD (by omega)).mono ?_
  rintro e w1 hq9
  obtain ⟨aB, axO, axL, axC, ayO, ayL, ayC, rfl, hS, hax, hay, ha, hbf⟩ := hq9.out
  clear hS hax hay hq9
  obtain ⟨w2, hwE⟩ : ∃ W, W = (w1.alloc (.cells #[.bool aB, .slice axO axL axC, .slice ayO ayL ayC] 145)) := ⟨_, rfl⟩
  have hb : Below w1.heap.size w1 w2 := by rw [hwE]; exact ((Below.refl _ w1).alloc (Nat.le_refl _) _)
  obtain ⟨pa, hpa⟩ : ∃ p, p = w1.heap.size := ⟨_, rfl⟩
  have hba : Box3 w2 pa (Value.bool aB) (Value.slice axO axL axC) (Value.slice ayO ayL ayC) := by rw [hwE, hpa]; exact ⟨by go_simp, by go_simp, by go_simp, by go_simp, by go_simp, by go_simp⟩
  replace ha := ha.below hb
  have HW := Lib.hid hwE; clear hwE
  replace hbf := hbf.trans (hb.mono hbf.size)
  clear hb
  go_upto_region 2 with fail
  rw [← HW.out, ← hpa]
  clear hpa HW
  have e0 := hba.c0
  have e1 := hba.c1
  have e2 := hba.c2
  by_cases hs0 : s = []
  · have HB2 : Hid (b = true) := Lib.hid (by rw [HB.out]; unfold cntB; rw [decide_eq_true hs0]; rfl)
    subst hs0
    clear hba
    go_wp2_with fail
    go_ret
    exact ⟨ret_one (congrArg Value.bool HB2.out.symm), hbf⟩
  · have hsb := nilb hs0
    have HB2 : Hid (b = (decide (cd = 0) && !decide (q < 0))) := Lib.hid (by rw [HB.out]; unfold cntB; rw [decide_eq_false hs0, HCD.out, HQV.out]; rfl)
    clear hs0 hba
    by_cases hc : cd = 0
    · subst hc
      obtain ⟨d, hd⟩ : ∃ d, decide (q < 0) = d := ⟨_, rfl⟩
      have HD := Lib.hid hd
      replace HB2 : Hid (b = !d) := Lib.hid (by rw [HB2.out, hd]; rfl)
      clear hd
      go_wp2_with fail
      (with_reducible refine (neg_b _ q d _ ha HD).mono ?_)
      rintro e w3 ⟨rfl, hb3⟩
      replace hbf := hbf.trans (hb3.mono hbf.size)
      clear e0 e1 e2 hb3
      cases d
      · go_wp2_with fail
        go_ret
        exact ⟨ret_one (congrArg Value.bool (by rw [HB2.out]; rfl)), hbf⟩
      · go_wp2_with fail
        go_ret
        exact ⟨ret_one (congrArg Value.bool (by rw [HB2.out]; rfl)), hbf⟩
    · have hcb : (cd == 0) = false := by rw [beq_eq_false_iff_ne]; exact hc
      replace HB2 : Hid (b = false) := Lib.hid (by rw [HB2.out, decide_eq_false hc]; rfl)
      clear ha
      go_wp2_with fail
      go_ret
      exact ⟨ret_one (congrArg Value.bool HB2.out.symm), hbf⟩
set_option maxRecDepth 100000 in
set_option maxHeartbeats 4000000 in
theorem boxN (w : World) (x : TN) (l : NdL) : ∃ w0, w0 = w.alloc (.cells #[.int .i64 x.p.op, .int .i64 x.p.fld, .slice l.vo x.p.vals.length l.vc, .slice l.ko x.p.kids.length l.kc, .string ⟨x.sc.toArray⟩, .string ⟨x.ct.toArray⟩, .slice l.io x.kids.length l.ic, .int .i64 x.df] 36) ∧ Below w.heap.size w w0 ∧ w0.heap.size = w.heap.size + 1 ∧ ∃ p, p = w.heap.size ∧ BoxL w0 p [.int .i64 x.p.op, .int .i64 x.p.fld, .slice l.vo x.p.vals.length l.vc, .slice l.ko x.p.kids.length l.kc, .string ⟨x.sc.toArray⟩, .string ⟨x.ct.toArray⟩, .slice l.io x.kids.length l.ic, .int .i64 x.df] :=
  ⟨_, rfl, (Below.refl _ w).alloc (Nat.le_refl _) _, by simp, _, rfl, BoxL.new w _ _⟩
theorem lvalid_h (p : PT) (vo : Option Addr) (vc : Nat) (ko : Option Addr) (kc : Nat) (B : Nat) (ao : Option Addr) (cap : Nat) (xs : List FV) (b : Bool) (w : World) (hP : PtIs B w p vo vc ko kc) (hBw : B ≤ w.heap.size) (hsz : Hid (∃ y : TN, SmN y ∧ y.p = p)) (hf : Hid (Flds w ao xs)) (hxl : xs.length ≤ 1000000) (HB : Hid (b = validP (xs.map (·.f)) p)) :
    Calls Tryz.prog 96 #[.agg #[.int .i64 p.op, .int .i64 p.fld, .slice vo p.vals.length vc, .slice ko p.kids.length kc], .slice ao xs.length cap] w fun e w' => e = .returned (.bool b) ∧ Below w.heap.size w w' := by
  obtain ⟨x, h1, rfl⟩ := hsz.out
  exact lvalid_any x.p vo vc ko kc B ao cap xs b w hP hBw h1.sz (Lib.hid h1.p) hf.out hxl HB
set_option maxRecDepth 100000 in
set_option maxHeartbeats 4000000 in
/-- node. -/
theorem tnode_any (x : TN) (l : NdL) (B : Nat) (ao : Option Addr) (cap : Nat) (xs : List FV) (b : Bool) (w : World) (hNI : NdIs B w x l) (hBw : B ≤ w.heap.size) (hsm : Hid (SmN x)) (hf : Hid (Flds w ao xs)) (hxl : xs.length ≤ 1000000) (HB : Hid (b = nodeB (xs.map (·.f)) x)) :
    Calls Tryz.prog 70 #[.agg #[.int .i64 x.p.op, .int .i64 x.p.fld, .slice l.vo x.p.vals.length l.vc, .slice l.ko x.p.kids.length l.kc, .string ⟨x.sc.toArray⟩, .string ⟨x.ct.toArray⟩, .slice l.io x.kids.length l.ic, .int .i64 x.df], .slice ao xs.length cap] w fun e w' => e = .returned (.bool b) ∧ Below w.heap.size w w' := by
  obtain ⟨w0, hw0, hbf, -, px, hpx, hbx⟩ := boxN w x l
  have HW := Lib.hid hw0
  replace hf : Hid (Flds w0 ao xs) := Lib.hid (hf.out.below hbf)
  replace hNI := hNI.low (Low.of_below hbf hBw)
  replace hBw := Nat.le_trans hBw hbf.size
  obtain ⟨d1, hd1⟩ : ∃ d, d = validP (xs.map (·.f)) x.p := ⟨_, rfl⟩
  obtain ⟨d2, hd2⟩ : ∃ d, d = numB x.sc := ⟨_, rfl⟩
  obtain ⟨d3, hd3⟩ : ∃ d, d = cntB x.ct := ⟨_, rfl⟩
  obtain ⟨d4, hd4⟩ : ∃ d, d = decide (x.df ∈ x.kids) := ⟨_, rfl⟩
  replace HB : Hid (b = (d1 && (d2 && (d3 && (decide (x.df = -1) || d4))))) := Lib.hid (by rw [HB.out, hd1, hd2, hd3, hd4]; rfl)
  have HD1 := Lib.hid hd1
  have HD2 := Lib.hid hd2
  have HD3 := Lib.hid hd3
  have HD4 := Lib.hid hd4
  have hsc := hsm.out.sc
  have hct := hsm.out.ct
  have HS2 : Hid (∃ y : TN, SmN y ∧ y.p = x.p) := Lib.hid ⟨x, hsm.out, rfl⟩
  clear hw0 hd1 hd2 hd3 hd4 hsm
  go_enter Tryz.func70, Tryz.ntmps70
  go_upto_region 1 with fail
  rw [← HW.out, ← hpx]
  clear hpx HW
  have e0 := hbx.cell 0 _ rfl
  have e1 := hbx.cell 1 _ rfl
  have e2 := hbx.cell 2 _ rfl
  have e3 := hbx.cell 3 _ rfl
  have e4 := hbx.cell 4 _ rfl
  have e5 := hbx.cell 5 _ rfl
  have e6 := hbx.cell 6 _ rfl
  have e7 := hbx.cell 7 _ rfl
  go_wp2_with fail
  (with_reducible refine (lvalid_h x.p l.vo l.vc l.ko l.kc B ao cap xs d1 _ hNI.p hBw HS2 hf hxl HD1).mono ?_)
  rintro e w2 ⟨rfl, hb⟩
  replace hbf := hbf.trans (hb.mono hbf.size)
  replace hbx := hbx.kept hb
  replace hNI := hNI.low (Low.of_below hb hBw)
  replace hBw := Nat.le_trans hBw hb.size
  clear hb e0 e1 e2 e3 e4 e5 e6 e7
  have e0 := hbx.cell 0 _ rfl
  have e1 := hbx.cell 1 _ rfl
  have e2 := hbx.cell 2 _ rfl
  have e3 := hbx.cell 3 _ rfl
  have e4 := hbx.cell 4 _ rfl
  have e5 := hbx.cell 5 _ rfl
  have e6 := hbx.cell 6 _ rfl
  have e7 := hbx.cell 7 _ rfl
  cases d1
  · have HB2 : Hid (b = false) := Lib.hid (by rw [HB.out]; rfl)
    go_wp2_with fail
    go_ret
    exact ⟨ret_one (congrArg Value.bool HB2.out.symm), hbf⟩
  · replace HB : Hid (b = (d2 && (d3 && (decide (x.df = -1) || d4)))) := Lib.hid (by rw [HB.out]; rfl)
    go_wp2_with fail
    (with_reducible refine (tnumber_any x.sc d2 _ (by omega) HD2).mono ?_)
    rintro e w3 ⟨rfl, hb⟩
    replace hbf := hbf.trans (hb.mono hbf.size)
    replace hbx := hbx.kept hb
    replace hNI := hNI.low (Low.of_below hb hBw)
    replace hBw := Nat.le_trans hBw hb.size
    clear hb e0 e1 e2 e3 e4 e5 e6 e7
    have e0 := hbx.cell 0 _ rfl
    have e1 := hbx.cell 1 _ rfl
    have e2 := hbx.cell 2 _ rfl
    have e3 := hbx.cell 3 _ rfl
    have e4 := hbx.cell 4 _ rfl
    have e5 := hbx.cell 5 _ rfl
    have e6 := hbx.cell 6 _ rfl
    have e7 := hbx.cell 7 _ rfl
    cases d2
    · have HB2 : Hid (b = false) := Lib.hid (by rw [HB.out]; rfl)
      go_wp2_with fail
      go_ret
      exact ⟨ret_one (congrArg Value.bool HB2.out.symm), hbf⟩
    · replace HB : Hid (b = (d3 && (decide (x.df = -1) || d4))) := Lib.hid (by rw [HB.out]; rfl)
      go_wp2_with fail
      (with_reducible refine (tcount_any x.ct d3 _ (by omega) HD3).mono ?_)
      rintro e w4 ⟨rfl, hb⟩
      replace hbf := hbf.trans (hb.mono hbf.size)
      replace hbx := hbx.kept hb
      replace hNI := hNI.low (Low.of_below hb hBw)
      replace hBw := Nat.le_trans hBw hb.size
      clear hb e0 e1 e2 e3 e4 e5 e6 e7
      have e0 := hbx.cell 0 _ rfl
      have e1 := hbx.cell 1 _ rfl
      have e2 := hbx.cell 2 _ rfl
      have e3 := hbx.cell 3 _ rfl
      have e4 := hbx.cell 4 _ rfl
      have e5 := hbx.cell 5 _ rfl
      have e6 := hbx.cell 6 _ rfl
      have e7 := hbx.cell 7 _ rfl
      cases d3
      · have HB2 : Hid (b = false) := Lib.hid (by rw [HB.out]; rfl)
        go_wp2_with fail
        go_ret
        exact ⟨ret_one (congrArg Value.bool HB2.out.symm), hbf⟩
      · replace HB : Hid (b = (decide (x.df = -1) || d4)) := Lib.hid (by rw [HB.out]; rfl)
        by_cases hdf : x.df = -1
        · have HB2 : Hid (b = true) := Lib.hid (by rw [HB.out, decide_eq_true hdf]; rfl)
          rw [hdf] at e7
          go_wp2_with fail
          go_ret
          exact ⟨ret_one (congrArg Value.bool HB2.out.symm), hbf⟩
        · have hdb : (x.df == -1) = false := by rw [beq_eq_false_iff_ne]; exact hdf
          have HB2 : Hid (b = d4) := Lib.hid (by rw [HB.out, decide_eq_false hdf]; rfl)
          have HK := Lib.hid hNI.k
          clear hdf
          go_wp2_with fail
          (with_reducible refine (contI_any l.io l.ic x.kids x.df d4 B _ HK hBw HD4).mono ?_)
          rintro e w5 ⟨rfl, hb⟩
          replace hbf := hbf.trans (hb.mono hbf.size)
          replace hbx := hbx.kept hb
          replace hNI := hNI.low (Low.of_below hb hBw)
          replace hBw := Nat.le_trans hBw hb.size
          clear hb e0 e1 e2 e3 e4 e5 e6 e7
          have e0 := hbx.cell 0 _ rfl
          have e1 := hbx.cell 1 _ rfl
          have e2 := hbx.cell 2 _ rfl
          have e3 := hbx.cell 3 _ rfl
          have e4 := hbx.cell 4 _ rfl
          have e5 := hbx.cell 5 _ rfl
          have e6 := hbx.cell 6 _ rfl
          have e7 := hbx.cell 7 _ rfl
          cases d4
          · go_wp2_with fail
            go_ret
            exact ⟨ret_one (congrArg Value.bool HB2.out.symm), hbf⟩
          · go_wp2_with fail
            go_ret
            exact ⟨ret_one (congrArg Value.bool HB2.out.symm), hbf⟩
end Go.Proofs.YtlmjkbdodecbmaaGreatDoor

namespace Go.Proofs.YtlmjkbdodecbmaaGreatDoor
open Go.RowKit
set_option linter.unusedVariables false
set_option linter.unusedSimpArgs false
/-- Ints as cells. -/
def icel (ns : List Int) : List Value := ns.map (Value.int .i64)
theorem icel_len (ns : List Int) : (icel ns).length = ns.length := by unfold icel; simp
theorem icel_get {ns : List Int} {i : Nat} {n : Int} (h : ns[i]? = some n) : (icel ns)[i]? = some (.int .i64 n) := by unfold icel; rw [List.getElem?_map, h]; rfl
theorem icel_inv {ns : List Int} {i : Nat} {u : Value} (h : (icel ns)[i]? = some u) : ∃ n, ns[i]? = some n ∧ u = .int .i64 n := by
  unfold icel at h
  rw [List.getElem?_map] at h
  cases hn : ns[i]? with
  | none => rw [hn] at h; cases h
  | some n => rw [hn] at h; cases h; exact ⟨n, rfl, rfl⟩
theorem icel_set (ns : List Int) (i : Nat) (n : Int) : (icel ns).set i (.int .i64 n) = icel (ns.set i n) := by unfold icel; rw [List.map_set]
theorem icel_app (a b : List Int) : icel (a ++ b) = icel a ++ icel b := by unfold icel; simp
theorem icel_one (ns : List Int) : ∀ u ∈ icel ns, u.oneCell' = true := by
  intro u hu
  unfold icel at hu
  obtain ⟨n, _, rfl⟩ := List.mem_map.1 hu
  rfl
theorem E_intT : ElemK Tryz.prog 27 3 (.int .i64 0) 1 8 := elemK_of Tryz.underlying27 (by kernel_rfl) rfl (by decide)
/-- A full row as a block that may be written. -/
theorem BoxL.of_owns {base : Nat} {e : TypeId} {w : World} {g n : Nat} {xs : List Value} (h : OwnsK 1 base e w (.slice (some ⟨g, 0, none⟩) n n) n xs) : BoxL w g xs := by
  obtain ⟨h1, ⟨h2, _⟩ | ⟨g', cap, cur, e1, h3, h4, h5, h6, h7, h8⟩⟩ := h
  · cases h2
  · cases e1
    have hc : cur.toList = xs := by
      rw [← h8, List.take_of_length_le]
      have := h7
      simp at this ⊢
      omega
    refine ⟨fun i x hi => ?_, fun i hi => ?_, (Array.getElem?_eq_some_iff.1 h4).1⟩
    · unfold World.cell?
      rw [h4]
      rw [← hc] at hi
      simpa using hi
    · unfold World.frozen?
      rw [h4]
      simp
section
variable {P : Program} {t e : TypeId} {z : Value} {K bytes : Nat}
/-- A slice without elements and without room grows as nil does. -/
theorem run_append_empty (E : ElemK P t e z K bytes) (ty : TypeId) {w : World} (b ad : Addr) (m c : Nat) (news : List Value) (h0 : 0 < m) (hl : news.length = m * K) (hnews : ∀ j u, news[j]? = some u → w.cell? (ad.add j) = some u)
    (hb : m * bytes ≤ 140737488355328) (hm : m ≤ maxLen) :
    (Builtin.append_ #[t, t] ty #[.slice (some b) 0 0, .slice (some ad) m c]).run P w = (Builtin.append_ #[t, t] ty #[.slice none 0 0, .slice (some ad) m c]).run P w := by
  obtain ⟨i, hi, hz, h4, h5⟩ := E.info
  unfold maxLen at hm
  rw [run_append_nil (P := P) w t ty e i z E.und hi hz ad m c news (by rw [h4]; exact hl) hnews h0 (by omega) (by rw [h5]; omega)]
  rw [run_append_grow (P := P) w t ty e i z E.und hi hz b 0 0 [] (by simp) (by simp) ad m c news (by rw [h4]; exact hl) hnews (by omega) (by omega) (growslice_fits (by omega) (by rw [h5]; simpa using hb))]
  simp
/-- Nothing is appended. -/
theorem run_append_none (E : ElemK P t e z K bytes) (ty : TypeId) {w : World} {base n : Nat} {v : Value} {xs : List Value} (hown : OwnsK K base e w v n xs) :
    (Builtin.append_ #[t, t] ty #[v, .slice none 0 0]).run P w = .ok v w := by
  obtain ⟨i, hi, hz, h4, h5⟩ := E.info
  obtain ⟨h1, ⟨rfl, h2⟩ | ⟨g', cap, cur, rfl, h3, h4', h5', h6, h7, h8⟩⟩ := hown
  · simp [Builtin.append_, run_underlying E.und, sizeOf, typeInfo, hi, Builtin.lenOf, run_firstCells_none]
  · have hst := run_storeCells_cells (P := P) g' (n * i.size) [] 0 w (by simp) (by simp) (by simp)
    simp only [Nat.add_zero] at hst
    simp [Builtin.append_, run_underlying E.und, sizeOf, typeInfo, hi, Builtin.lenOf, run_firstCells_none, h5', Addr.add_lit, hst]
    rfl
/-- make([]T, n): zero values of the call's own. -/
theorem makeT (E : ElemK P t e z K bytes) {w : World} {ops : Array Oper} {rest : List Oper} {o : Oper} {a : Act} {Q : Exit → Act → World → Prop} {l c : Operand} {n : Nat}
    (hg : o.guard = none) (hop : o.op = Op.makeSlice t l c) (hl : a.eval l = .int .i64 (n : Int)) (hc : a.eval c = .int .i64 (n : Int)) (b2 : bytes * n ≤ 281474976710656) (b3 : n ≤ maxLen)
    (h : ∀ w', OwnsK K w.heap.size e w' (.slice (some ⟨w.heap.size, 0, none⟩) n n) n (madeCells z.cells (n * K)).toList → Below w.heap.size w w' → wpList P ops Q rest (a.put o.dst (.slice (some ⟨w.heap.size, 0, none⟩) n n)) w') : wpList P ops Q (o :: rest) a w := by
  obtain ⟨i, hi, hz, h4, h5⟩ := E.info
  subst h5
  refine wpList_make_full w hg l c t hop w.heap.size e i z K E.und hi hz h4 .i64 .i64 (n : Int) (n : Int) n hl hc rfl rfl b2 b3 (Nat.le_refl _) ?_
  intro w' h1 h2
  exact h w' h1 ⟨h2.os, h2.tape, h2.output, h2.size, fun k hk => h2.block k hk (by simp)⟩
theorem made_ints (n : Nat) : (madeCells (Value.int .i64 0).cells (n * 1)).toList = icel (List.replicate n 0) := by
  rw [Nat.mul_one, show (Value.int .i64 0).cells = #[.int .i64 0] from rfl, toList_madeCells_one]
  simp [icel]
/-- append(s, l...): l any slice. -/
theorem step_appendT (E : ElemK P t e z K bytes) {w : World} {o : Oper} {a : Act} {Kn : Act → World → Prop} {Q : Exit → Act → World → Prop} {s x : Operand} {base n m c : Nat} {v : Value} {xs news : List Value} {xo : Option Addr}
    (hown : OwnsK K base e w v n xs) (ho : o.op = .call { callee := .builtin .append, args := #[s, x], argTypes := #[t, t] }) (hs : a.eval s = v) (hx : a.eval x = .slice xo m c) (hl : news.length = m * K)
    (hsrc : (xo = none ∧ m = 0 ∧ c = 0) ∨ ∃ ad, xo = some ad ∧ ∀ j u, news[j]? = some u → w.cell? (ad.add j) = some u) (h1 : ∀ u ∈ news, u.oneCell' = true) (hb : (n + m) * bytes ≤ 140737488355328) (hm : n + m ≤ maxLen) (hbase : base ≤ w.heap.size)
    (h : ∀ v' w', OwnsK K base e w' v' (n + m) (xs ++ news) → w.grownBy w' v.ownBlock → (v'.ownBlock = v.ownBlock ∨ v'.ownBlock = some w.heap.size) → Kn (a.put o.dst v') w') : Oper.wp P o a w Kn Q := by
  rcases hsrc with ⟨rfl, rfl, rfl⟩ | ⟨ad, rfl, hnews⟩
  · have hnn : news = [] := List.eq_nil_of_length_eq_zero (by omega)
    subst hnn
    have hrun := run_append_none (P := P) E o.type hown
    unfold Oper.wp
    simp [execOp, ho, resolve, invoke, builtin, hs, hx, hrun, Result.andThen]
    exact h v w (by rw [List.append_nil]; exact hown) (grownBy_refl w _) (.inl rfl)
  · obtain ⟨i, hi, hz, h4, h5⟩ := E.info
    obtain ⟨v', w', hrun, r1, r2, _, r5⟩ := run_append_own_at (P := P) w base t o.type e i z K bytes E.und hi hz h4 h5 E.many E.pos v n xs hown ad m c news hl hnews h1 hm hb hbase
    unfold Oper.wp
    simp [execOp, ho, resolve, invoke, builtin, hs, hx, hrun, Result.andThen]
    exact h v' w' r1 r2 r5
/-- append to a slice without elements and without room. -/
theorem appendEN (E : ElemK P t e z K bytes) {w : World} {ops : Array Oper} {rest : List Oper} {o : Oper} {a : Act} {Q : Exit → Act → World → Prop} {s x : Operand} {base m c : Nat} {b : Addr} {news : List Value} {ad : Addr}
    (h0 : 0 < m) (hgd : o.guard = none) (ho : o.op = .call { callee := .builtin .append, args := #[s, x], argTypes := #[t, t] }) (hs : a.eval s = .slice (some b) 0 0) (hx : a.eval x = .slice (some ad) m c) (hl : news.length = m * K) (hnews : ∀ j u, news[j]? = some u → w.cell? (ad.add j) = some u)
    (h1 : ∀ u ∈ news, u.oneCell' = true) (hb : m * bytes ≤ 140737488355328) (hm : m ≤ maxLen) (hbase : base ≤ w.heap.size)
    (h : ∀ v' w', OwnsK K base e w' v' m news → Below w.heap.size w w' → wpList P ops Q rest (a.put o.dst v') w') : wpList P ops Q (o :: rest) a w := by
  obtain ⟨i, hi, hz, h4, h5⟩ := E.info
  obtain ⟨v', w', hrun, r1, r2, _, r5⟩ := run_append_own_at (P := P) w base t o.type e i z K bytes E.und hi hz h4 h5 E.many E.pos (.slice none 0 0) 0 [] (OwnsK.nil _ _ _ _) ad m c news hl hnews h1 (by omega) (by simpa using hb) hbase
  rw [← run_append_empty E o.type b ad m c news h0 hl hnews hb hm] at hrun
  rw [Nat.zero_add, List.nil_append] at r1
  refine wpList_plain hgd fun K' hK => ?_
  unfold Oper.wp
  simp [execOp, ho, resolve, invoke, builtin, hs, hx, hrun, Result.andThen]
  exact hK _ _ (h v' w' r1 ⟨r2.os, r2.tape, r2.output, r2.size, fun k hk => r2.block k hk (by simp [Value.ownBlock])⟩)
end
end Go.Proofs.YtlmjkbdodecbmaaGreatDoor
