/-
  Pi13: BookM ValA ValB FldA MathPd (what is needed of them).
-/
import Derived.Test.YtlmjkbdodecbmaaGreatDoorPi05
import Derived.Test.YtlmjkbdodecbmaaGreatDoorPi09
import Derived.Test.YtlmjkbdodecbmaaGreatDoorPi12
import Derived.Deep.DeepCutAuto
import Derived.WalkMore
import Derived.Laws.StructEq

namespace Go.Proofs.YtlmjkbdodecbmaaGreatDoor
open Go.RowKit
set_option linter.unusedVariables false
set_option linter.unusedSimpArgs false
/-- What is left of the room. -/
def roomL : Int → List Nat → Int
  | n, [] => n
  | n, k :: ks => if n < 0 ∨ n < (k : Int) then -1 else roomL (n - k) ks
theorem roomL_drop {n : Int} {ks : List Nat} {i : Nat} (hi : i < ks.length) : roomL n (ks.drop i) = if n < 0 ∨ n < ((ks[i]?.getD 0 : Nat) : Int) then -1 else roomL (n - (ks[i]?.getD 0 : Nat)) (ks.drop (i + 1)) := by
  rw [List.drop_eq_getElem_cons hi, List.getElem?_eq_getElem hi]; rfl
set_option maxRecDepth 100000 in
set_option maxHeartbeats 1000000 in
theorem room_any (n : Int) (ao : Option Addr) (cap : Nat) (ks : List Nat) (w : World) (hn : -1 ≤ n) (hn2 : n ≤ 1000000000) (hc : Cells .i64 w ao ks) (hlen : ks.length ≤ 1000000) :
    Calls Tryz.prog 68 #[.int .i64 n, .slice ao ks.length cap] w fun e w' => e = .returned (.int .i64 (roomL n ks)) ∧ w = w' := by
  go_enter Tryz.func68, Tryz.ntmps68
  go_wp2_with fail
  go_loopg [0, 5] ks.length (fun gg nv iv wr => ∃ (m : Int) (i : Nat), i + gg = ks.length ∧ iv = .int .i64 (i : Int) ∧ nv = .int .i64 m ∧ -1 ≤ m ∧ m ≤ 1000000000 ∧ roomL m (ks.drop i) = roomL n ks ∧ w = wr)
  case atStart => exact ⟨n, 0, by omega, rfl, rfl, hn, hn2, rfl, rfl⟩
  case round =>
    obtain ⟨m, i, hi, rfl, rfl, hm1, hm2, hr, rfl⟩ := hrel
    by_cases hil : i < ks.length
    · rcases hc with h | ⟨b, off, rfl, hb, hcell⟩
      · rw [h] at hil; simp at hil
      have c1 := hcell i hil
      have hd := roomL_drop (n := m) hil
      rw [hd] at hr
      have q1 : (0 : Int) ≤ (i : Int) := by omega
      have q2 : (i : Int) < (ks.length : Int) := by omega
      generalize ks[i]?.getD 0 = k at *
      have HR := Lib.hid hr
      clear hr hd hcell
      by_cases hneg : m < 0
      · have HN := Lib.hid (show roomL n ks = -1 by rw [← HR.out, if_pos (.inl hneg)])
        go_wp2_with fail
        go_ret
        exact ⟨ret_one (by rw [HN.out]; rfl), rfl⟩
      · by_cases hlt : m < (k : Int)
        · have HN := Lib.hid (show roomL n ks = -1 by rw [← HR.out, if_pos (.inr hlt)])
          go_wp2_with fail
          go_ret
          exact ⟨ret_one (by rw [HN.out]; rfl), rfl⟩
        · have HN := Lib.hid (show roomL (m - k) (ks.drop (i + 1)) = roomL n ks by rw [← HR.out, if_neg (by omega)])
          go_wp2_with fail
          go_roundg (gk - 1)
          case measure => omega
          case rel => exact ⟨m - k, i + 1, by omega, by go_num, rfl, by omega, by omega, HN.out, rfl⟩
    · have hd : ks.drop i = [] := List.drop_of_length_le (by omega)
      rw [hd] at hr
      have HR := Lib.hid hr
      clear hr hd
      go_wp2_with fail
      go_ret
      exact ⟨ret_one (by rw [← HR.out]; rfl), rfl⟩
end Go.Proofs.YtlmjkbdodecbmaaGreatDoor

namespace Go.Proofs.YtlmjkbdodecbmaaGreatDoor
open Go.RowKit
set_option linter.unusedVariables false
set_option linter.unusedSimpArgs false
attribute [local go_sem] field_nat
/-- A fraction and a yes or no are told. -/
def NPost (w : World) (q : Rat) (b : Bool) (e : Ending) (w' : World) : Prop := ∃ r, e = .returned (.tuple #[r, .bool b]) ∧ QIs w' r q ∧ Below w.heap.size w w'
theorem NPost.out {w w' : World} {q : Rat} {b : Bool} {e : Ending} (h : NPost w q b e w') : ∃ s xo xl xc yo yl yc, e = .returned (.tuple #[.agg #[.bool s, .slice xo xl xc, .slice yo yl yc], .bool b]) ∧ s = decide (q < 0) ∧ NatIs w' (.agg #[.slice xo xl xc]) q.num.natAbs ∧ NatIs w' (.agg #[.slice yo yl yc]) (den0 q) ∧ QIs w' (.agg #[.bool s, .slice xo xl xc, .slice yo yl yc]) q ∧ Below w.heap.size w w' := by
  obtain ⟨r, rfl, hq, hb⟩ := h
  obtain ⟨s, xo, xl, xc, yo, yl, yc, rfl, h1, h2, h3⟩ := hq.form
  exact ⟨_, _, _, _, _, _, _, rfl, h1, h2, h3, hq, hb⟩
section
variable {fn : Func} {s : Nat} {act : Act} {w w9 : World} {b : Nat} {s0 : Bool} {o1 o2 : Option Addr} {l1 l2 c1 c2 : Nat} {u0 u1 u2 : Value} {q : Rat}
theorem end_qb {t : Nat} {c : Bool} (hres : fn.results = #[.cell s 145, .tmp t]) (hp : act.tmps.getD s undef = .pointer (some ⟨b, 0, none⟩)) (hu : act.tmps.getD t undef = .bool c) (hd : act.defers = []) (hb : Box3 w9 b (.bool s0) (.slice o1 l1 c1) (.slice o2 l2 c2)) (hge : w.heap.size ≤ b) (hq : QIs w9 (.agg #[u0, u1, u2]) q) (hB : Below w.heap.size w w9) :
    bodyPost Tryz.prog fn (NPost w q c) .ret act (((w9.setCell ⟨b, 0, none⟩ u0).setCell ⟨b, 1, none⟩ u1).setCell ⟨b, 2, none⟩ u2) :=
  ret_rat_tmp hres hp hu hb.set3 hd ⟨_, rfl, hq.set3 hb, below_set3 hB hge⟩
end
section
variable {fn : Func} {s : Nat} {act : Act} {w w9 : World} {b : Nat} {x y z u0 u1 u2 : Value}
end
theorem nilb {l : List UInt8} (h : l ≠ []) : (l == []) = false := by rw [beq_eq_false_iff_ne]; exact h
set_option maxRecDepth 100000 in
set_option maxHeartbeats 1000000 in
/-- Num. -/
theorem vnum_main (k : Int) (n c : List UInt8) (q : Rat) (b : Bool) (w : World) (HB : Hid (b = vnum k n c)) (HQ0 : Hid (b = false → q = 0)) (HQ1 : Hid (k = 1 → c = [] → q = qval n)) (hn : n.length ≤ 1000000) : Calls Tryz.prog 107 #[valV k n c] w (NPost w q b) := by
  obtain ⟨w0, hw0⟩ : ∃ w0, w0 = ((w.alloc (.cells #[.int .i64 k, .string ⟨n.toArray⟩, .string ⟨c.toArray⟩] 65)).alloc (.cells #[.bool false, .slice none 0 0, .slice none 0 0] 145)) := ⟨_, rfl⟩
  have hbf : Below w.heap.size w w0 := by rw [hw0]; exact (((Below.refl _ w).alloc (Nat.le_refl _) _).alloc (by simp <;> omega) _)
  obtain ⟨pv, hpv⟩ : ∃ p, p = w.heap.size := ⟨_, rfl⟩
  have hbv : Box3 w0 pv (Value.int .i64 k) (Value.string ⟨n.toArray⟩) (Value.string ⟨c.toArray⟩) := by rw [hw0, hpv]; exact ⟨by go_simp, by go_simp, by go_simp, by go_simp, by go_simp, by go_simp⟩
  obtain ⟨pr, hpr⟩ : ∃ p, p = w.heap.size + 1 := ⟨_, rfl⟩
  have hbr : Box3 w0 pr (Value.bool false) (Value.slice none 0 0) (Value.slice none 0 0) := by rw [hw0, hpr]; exact ⟨by go_simp, by go_simp, by go_simp, by go_simp, by go_simp, by go_simp⟩
  have HP : Hid (w.heap.size ≤ pv ∧ pv < pr) := Lib.hid (by omega)
  have HW := Lib.hid hw0; clear hw0
  go_enter Tryz.func107, Tryz.ntmps107
  go_upto_region 1 with fail
  rw [← HW.out, ← hpr, ← hpv]
  clear hpv hpr HW
  by_cases hk : k = 1
  case neg =>
    have hkb : (k == 1) = false := by rw [beq_eq_false_iff_ne]; exact hk
    have hb0 : b = false := by rw [HB.out]; unfold vnum; simp [hk]
    have hq0 : q = 0 := HQ0.out hb0
    subst hb0; subst hq0
    have ev0 := hbv.c0
    have ev1 := hbv.c1
    have ev2 := hbv.c2
    have er0 := hbr.c0
    have fr0 := hbr.f0
    have er1 := hbr.c1
    have fr1 := hbr.f1
    have er2 := hbr.c2
    have fr2 := hbr.f2
    go_wp2_with fail
    exact end_qb rfl rfl rfl rfl hbr (show w.heap.size ≤ pr by have := HP.out; omega) (QIs.zero _) hbf
  case pos =>
    subst hk
    by_cases hc : c = []
    case neg =>
      have hcb := nilb hc
      have hb0 : b = false := by rw [HB.out]; unfold vnum; simp [hc]
      have hq0 : q = 0 := HQ0.out hb0
      subst hb0; subst hq0
      have ev0 := hbv.c0
      have ev1 := hbv.c1
      have ev2 := hbv.c2
      have er0 := hbr.c0
      have fr0 := hbr.f0
      have er1 := hbr.c1
      have fr1 := hbr.f1
      have er2 := hbr.c2
      have fr2 := hbr.f2
      go_wp2_with fail
      exact end_qb rfl rfl rfl rfl hbr (show w.heap.size ≤ pr by have := HP.out; omega) (QIs.zero _) hbf
    case pos =>
      subst hc
      obtain ⟨cd, hcd⟩ : ∃ d, d = qcode n := ⟨_, rfl⟩
      have HCD := Lib.hid hcd
      have hbd : (cd == 0) = b := by rw [HB.out, hcd]; unfold vnum; by_cases h9 : qcode n = 0 <;> simp [h9]
      have hqv : q = qval n := HQ1.out rfl rfl
      have HQV := Lib.hid hqv
      clear hcd hqv
      have ev0 := hbv.c0
      have ev1 := hbv.c1
      have ev2 := hbv.c2
      go_wp2_with fail
      refine (qparse_main n _ q cd HQV HCD (by omega)).mono ?_
      rintro e w1 hq9
      obtain ⟨aB, axO, axL, axC, ayO, ayL, ayC, rfl, hS, hax, hay, ha, hb⟩ := hq9.out
      have HaS := Lib.hid hS; clear hS
      clear ev0 ev1 ev2
      replace hbv := hbv.kept hb
      replace hbr := hbr.kept hb
      replace hbf := hbf.trans (hb.mono hbf.size)
      clear hb
      obtain ⟨w2, hwE⟩ : ∃ W, W = (w1.alloc (.cells #[.bool aB, .slice axO axL axC, .slice ayO ayL ayC] 145)) := ⟨_, rfl⟩
      have hb : Below w1.heap.size w1 w2 := by rw [hwE]; exact ((Below.refl _ w1).alloc (Nat.le_refl _) _)
      obtain ⟨pa, hpa⟩ : ∃ p, p = w1.heap.size := ⟨_, rfl⟩
      have hba : Box3 w2 pa (Value.bool aB) (Value.slice axO axL axC) (Value.slice ayO ayL ayC) := by rw [hwE, hpa]; exact ⟨by go_simp, by go_simp, by go_simp, by go_simp, by go_simp, by go_simp⟩
      replace HP : Hid (w.heap.size ≤ pv ∧ pv < pr ∧ pr < pa) := Lib.hid (by have h1 := HP.out; have h9 := hbf.size; have h2r := hbr.lt; omega)
      have HW := Lib.hid hwE; clear hwE
      go_upto_region 4 with fail
      rw [← HW.out, ← hpa]
      clear hpa HW
      replace hbv := hbv.kept hb
      replace hbr := hbr.kept hb
      replace hax := hax.below hb
      replace hay := hay.below hb
      replace ha := ha.below hb
      replace hbf := hbf.trans (hb.mono hbf.size)
      clear hb
      have ea0 := hba.c0
      have ea1 := hba.c1
      have ea2 := hba.c2
      have er0 := hbr.c0
      have fr0 := hbr.f0
      have er1 := hbr.c1
      have fr1 := hbr.f1
      have er2 := hbr.c2
      have fr2 := hbr.f2
      go_wp2_with fail
      exact end_qb rfl rfl rfl rfl hbr (show w.heap.size ≤ pr by have := HP.out; omega) ha hbf
theorem qval_not {n : List UInt8} (h : qcode n ≠ 0) : qval n = 0 := by unfold qval; rw [if_neg h]
/-- The number of a value; 0, if it is none. -/
def vq (k : Int) (n c : List UInt8) : Rat := if vnum k n c = true then qval n else 0
theorem vnum_q (k : Int) (n c : List UInt8) (q : Rat) (b : Bool) (w : World) (HB : Hid (b = vnum k n c)) (HQ : Hid (q = vq k n c)) (hn : n.length ≤ 1000000) : Calls Tryz.prog 107 #[valV k n c] w (NPost w q b) := by
  refine vnum_main k n c q b w HB (Lib.hid fun h => ?_) (Lib.hid fun h1 h2 => ?_) hn
  · rw [HQ.out]; unfold vq; rw [← HB.out, h]; rfl
  · rw [HQ.out]; unfold vq vnum
    subst h1; subst h2
    by_cases h9 : qcode n = 0
    · simp [h9]
    · simp [h9, qval_not h9]
set_option maxRecDepth 100000 in
set_option maxHeartbeats 1000000 in
/-- Valid. -/
theorem vvalid_b (k : Int) (n c : List UInt8) (b : Bool) (w : World) (HB : Hid (b = vvalid k n c)) (hnl : n.length ≤ 1000000) : Calls Tryz.prog 78 #[valV k n c] w fun e w' => e = .returned (.bool b) ∧ Below w.heap.size w w' := by
  obtain ⟨w0, hw0⟩ : ∃ w0, w0 = (w.alloc (.cells #[.int .i64 k, .string ⟨n.toArray⟩, .string ⟨c.toArray⟩] 65)) := ⟨_, rfl⟩
  have hbf : Below w.heap.size w w0 := by rw [hw0]; exact ((Below.refl _ w).alloc (Nat.le_refl _) _)
  obtain ⟨pv, hpv⟩ : ∃ p, p = w.heap.size := ⟨_, rfl⟩
  have hbv : Box3 w0 pv (Value.int .i64 k) (Value.string ⟨n.toArray⟩) (Value.string ⟨c.toArray⟩) := by rw [hw0, hpv]; exact ⟨by go_simp, by go_simp, by go_simp, by go_simp, by go_simp, by go_simp⟩
  have HP : Hid (w.heap.size ≤ pv) := Lib.hid (by omega)
  have HW := Lib.hid hw0; clear hw0
  go_enter Tryz.func78, Tryz.ntmps78
  go_upto_region 1 with fail
  rw [← HW.out, ← hpv]
  clear hpv HW
  by_cases hk0 : k = 0
  case pos =>
    subst hk0
    by_cases hn : n = []
    case pos =>
      subst hn
      by_cases hc : c = []
      case pos =>
        subst hc
        have ev0 := hbv.c0
        have ev1 := hbv.c1
        have ev2 := hbv.c2
        go_wp2_with fail
        go_ret
        exact ⟨ret_one (congrArg Value.bool (by rw [HB.out]; rfl)), hbf⟩
      case neg =>
        have hcb := nilb hc
        have ev0 := hbv.c0
        have ev1 := hbv.c1
        have ev2 := hbv.c2
        go_wp2_with fail
        go_ret
        exact ⟨ret_one (congrArg Value.bool (by rw [HB.out]; unfold vvalid; simp [hc])), hbf⟩
    case neg =>
      have hnb := nilb hn
      have ev0 := hbv.c0
      have ev1 := hbv.c1
      have ev2 := hbv.c2
      go_wp2_with fail
      go_ret
      exact ⟨ret_one (congrArg Value.bool (by rw [HB.out]; unfold vvalid; simp [hn])), hbf⟩
  case neg =>
    have hkb0 : (k == 0) = false := by rw [beq_eq_false_iff_ne]; exact hk0
    by_cases hk2 : k = 2
    case pos =>
      subst hk2
      clear hkb0
      by_cases hn : n = []
      case pos =>
        subst hn
        by_cases hcl : c.length ≤ 60
        case pos =>
          have hci : ((c.length : Nat) : Int) ≤ 60 := by omega
          have ev0 := hbv.c0
          have ev1 := hbv.c1
          have ev2 := hbv.c2
          go_wp2_with fail
          go_ret
          exact ⟨ret_one (congrArg Value.bool (by rw [HB.out]; unfold vvalid; simp [hcl])), hbf⟩
        case neg =>
          have hci : ¬ ((c.length : Nat) : Int) ≤ 60 := by omega
          have ev0 := hbv.c0
          have ev1 := hbv.c1
          have ev2 := hbv.c2
          go_wp2_with fail
          go_ret
          exact ⟨ret_one (congrArg Value.bool (by rw [HB.out]; unfold vvalid; simp [hcl])), hbf⟩
      case neg =>
        have hnb := nilb hn
        have ev0 := hbv.c0
        have ev1 := hbv.c1
        have ev2 := hbv.c2
        go_wp2_with fail
        go_ret
        exact ⟨ret_one (congrArg Value.bool (by rw [HB.out]; unfold vvalid; simp [hn])), hbf⟩
    case neg =>
      have hkb2 : (k == 2) = false := by rw [beq_eq_false_iff_ne]; exact hk2
      have HB2 : Hid (b = vnum k n c) := Lib.hid (by rw [HB.out]; unfold vvalid; rw [if_neg hk0, if_neg hk2])
      obtain ⟨q, hq⟩ : ∃ q, q = vq k n c := ⟨_, rfl⟩
      have HQ := Lib.hid hq
      clear hq
      have ev0 := hbv.c0
      have ev1 := hbv.c1
      have ev2 := hbv.c2
      go_wp2_with fail
      refine (vnum_q k n c q b _ HB2 HQ hnl).mono ?_
      rintro e w1 hq9
      obtain ⟨aB, axO, axL, axC, ayO, ayL, ayC, rfl, hS, hax, hay, ha, hb⟩ := hq9.out
      have HaS := Lib.hid hS; clear hS
      clear ev0 ev1 ev2
      replace hbv := hbv.kept hb
      replace hbf := hbf.trans (hb.mono hbf.size)
      clear hb
      obtain ⟨w2, hwE⟩ : ∃ W, W = (w1.alloc (.cells #[.bool aB, .slice axO axL axC, .slice ayO ayL ayC] 145)) := ⟨_, rfl⟩
      have hb : Below w1.heap.size w1 w2 := by rw [hwE]; exact ((Below.refl _ w1).alloc (Nat.le_refl _) _)
      obtain ⟨pa, hpa⟩ : ∃ p, p = w1.heap.size := ⟨_, rfl⟩
      have hba : Box3 w2 pa (Value.bool aB) (Value.slice axO axL axC) (Value.slice ayO ayL ayC) := by rw [hwE, hpa]; exact ⟨by go_simp, by go_simp, by go_simp, by go_simp, by go_simp, by go_simp⟩
      replace HP : Hid (w.heap.size ≤ pv ∧ pv < pa) := Lib.hid (by have h1 := HP.out; have h9 := hbf.size; have h2v := hbv.lt; omega)
      have HW := Lib.hid hwE; clear hwE
      go_upto_region 7 with fail
      rw [← HW.out, ← hpa]
      clear hpa HW
      replace hbv := hbv.kept hb
      replace hax := hax.below hb
      replace hay := hay.below hb
      replace ha := ha.below hb
      replace hbf := hbf.trans (hb.mono hbf.size)
      clear hb
      go_wp2_with fail
      go_ret
      exact ⟨rfl, hbf⟩
end Go.Proofs.YtlmjkbdodecbmaaGreatDoor

namespace Go.Proofs.YtlmjkbdodecbmaaGreatDoor
open Go.RowKit
set_option linter.unusedVariables false
set_option linter.unusedSimpArgs false
attribute [local go_sem] field_nat
/-- A cell of memory that only is read. -/
structure CellV (w : World) (b off : Nat) (v : Value) : Prop where
  cell : w.cell? ⟨b, off, none⟩ = some v
theorem CellV.kept {w w' : World} {b off : Nat} {v : Value} (h : CellV w b off v) (hb : Below w.heap.size w w') : CellV w' b off v := ⟨(hb.cell (p := ⟨b, off, none⟩) (World.block_lt_of_cell? w ⟨b, off, none⟩ h.cell)).trans h.cell⟩
theorem CellV.drew {w : World} {b off : Nat} {v : Value} (h : CellV w b off v) : CellV w.drew b off v := ⟨h.cell⟩
/-- A row of values in memory. -/
def Vals (w : World) (ao : Option Addr) (vs : List V3) : Prop := ∀ (i : Nat) (v : V3), vs[i]? = some v → ∃ b off, ao = some ⟨b, off, none⟩ ∧ CellV w b (off + i * 3) (.int .i64 v.k) ∧ CellV w b (off + i * 3 + 1) (.string ⟨v.n.toArray⟩) ∧ CellV w b (off + i * 3 + 2) (.string ⟨v.c.toArray⟩)
theorem Vals.below {w w' : World} {ao : Option Addr} {vs : List V3} (h : Vals w ao vs) (hb : Below w.heap.size w w') : Vals w' ao vs := fun i v hi => by
  obtain ⟨b, off, h1, h2, h3, h4⟩ := h i v hi
  exact ⟨b, off, h1, h2.kept hb, h3.kept hb, h4.kept hb⟩
def valsRoom : Int → List V3 → Int
  | n, [] => n
  | n, v :: r => if n < 0 then n else valsRoom (roomL n [1, v.n.length, v.c.length]) r
theorem valsRoom_neg {n : Int} (h : n < 0) (vs : List V3) : valsRoom n vs = n := by
  cases vs with
  | nil => rfl
  | cons v r => unfold valsRoom; rw [if_pos h]
theorem valsRoom_drop {n : Int} {vs : List V3} {i : Nat} {v : V3} (h : vs[i]? = some v) (hn : ¬ n < 0) : valsRoom n (vs.drop i) = valsRoom (roomL n [1, v.n.length, v.c.length]) (vs.drop (i + 1)) := by
  have hi : i < vs.length := (List.getElem?_eq_some_iff.1 h).1
  rw [List.drop_eq_getElem_cons hi, (List.getElem?_eq_some_iff.1 h).2]
  rw [valsRoom, if_neg hn]
theorem roomL_range {n : Int} (ks : List Nat) (h1 : -1 ≤ n) (h2 : n ≤ 1000000000) : -1 ≤ roomL n ks ∧ roomL n ks ≤ 1000000000 := by
  induction ks generalizing n with
  | nil => exact ⟨h1, h2⟩
  | cons k ks ih =>
    unfold roomL
    split
    · omega
    · exact ih (by omega) (by omega)
theorem roomL_le (n : Int) (ks : List Nat) : roomL n ks ≤ n ∨ roomL n ks = -1 := by
  induction ks generalizing n with
  | nil => exact Or.inl (Int.le_refl _)
  | cons k ks ih =>
    unfold roomL
    split
    · exact Or.inr rfl
    · rcases ih (n - k) with h | h
      · exact Or.inl (by omega)
      · exact Or.inr h
theorem room_le {n : Int} {a b : Nat} (h : 0 ≤ roomL n [1, a, b]) : (a : Int) + b ≤ n := by
  unfold roomL at h
  split at h
  · omega
  · unfold roomL at h
    split at h
    · omega
    · unfold roomL at h
      split at h
      · omega
      · unfold roomL at h; omega
theorem cells3 (w : World) (x y z : Nat) : Cells .i64 (w.alloc (.cells #[.int .i64 (x : Int), .int .i64 (y : Int), .int .i64 (z : Int)] 3)) (some ⟨w.heap.size, 0, none⟩) [x, y, z] := by
  refine .inr ⟨_, 0, rfl, by simp, fun i hi => ?_⟩
  match i, hi with
  | 0, _ => go_simp
  | 1, _ => go_simp
  | 2, _ => go_simp
theorem room_z (n z : Int) (ao : Option Addr) (cap : Nat) (ks : List Nat) (w : World) (hn : -1 ≤ n) (hn2 : n ≤ 1000000000) (hc : Cells .i64 w ao ks) (hlen : ks.length ≤ 1000000) (hz : Hid (z = roomL n ks)) :
    Calls Tryz.prog 68 #[.int .i64 n, .slice ao ks.length cap] w fun e w' => e = .returned (.int .i64 z) ∧ Below w.heap.size w w' := by
  rw [hz.out]
  refine (room_any n ao cap ks w hn hn2 hc hlen).mono ?_
  rintro e w' ⟨rfl, rfl⟩
  exact ⟨rfl, Below.refl _ _⟩
theorem room_z3 (n z : Int) (ao : Option Addr) (x y t : Nat) (w : World) (hn : -1 ≤ n) (hn2 : n ≤ 1000000000) (hc : Cells .i64 w ao [x, y, t]) (hz : Hid (z = roomL n [x, y, t])) :
    Calls Tryz.prog 68 #[.int .i64 n, .slice ao 3 3] w fun e w' => e = .returned (.int .i64 z) ∧ Below w.heap.size w w' := room_z n z ao 3 [x, y, t] w hn hn2 hc (by simp) hz
end Go.Proofs.YtlmjkbdodecbmaaGreatDoor

namespace Go.Proofs.YtlmjkbdodecbmaaGreatDoor
open Go.RowKit
set_option linter.unusedVariables false
set_option linter.unusedSimpArgs false
theorem valsRoom_le : ∀ (vs : List V3) (n : Int), 0 ≤ valsRoom n vs → n ≤ 4000 → ∀ v ∈ vs, v.n.length ≤ 4000 ∧ v.c.length ≤ 4000 := by
  intro vs
  induction vs with
  | nil => intro n _ _ v hv; cases hv
  | cons u r ih =>
    intro n h hn v hv
    unfold valsRoom at h
    by_cases h0 : n < 0
    · rw [if_pos h0] at h; omega
    · rw [if_neg h0] at h
      by_cases h1 : roomL n [1, u.n.length, u.c.length] < 0
      · rw [valsRoom_neg h1] at h; omega
      · have h2 := room_le (n := n) (a := u.n.length) (b := u.c.length) (by omega)
        rcases List.mem_cons.1 hv with rfl | hv
        · omega
        · rcases roomL_le n [1, u.n.length, u.c.length] with h3 | h3
          · exact ih _ h (by omega) v hv
          · omega
theorem roomL_sum (ks : List Nat) : ∀ {n : Int}, 0 ≤ roomL n ks → roomL n ks = n - ((ks.sum : Nat) : Int) ∧ 0 ≤ n := by
  induction ks with
  | nil => intro n h; unfold roomL at h ⊢; simp; exact h
  | cons k ks ih =>
    intro n h
    unfold roomL at h ⊢
    split at h
    · omega
    · rename_i h2
      rw [if_neg h2]
      obtain ⟨h3, h4⟩ := ih h
      rw [h3]
      simp only [List.sum_cons, Int.natCast_add]
      omega
/-- A field that is small. -/
structure Small (f : F5) : Prop where
  nm : f.nm.length ≤ 4000
  rn : f.r.n.length ≤ 4000
  rc : f.r.c.length ≤ 4000
  vals : f.vals.length ≤ 4000
/-- A field, and where the texts lie that it declares. -/
structure FV where
  f : F5
  vo : Option Addr
  vc : Nat
def FV.cells (x : FV) : List Value := [.string ⟨x.f.nm.toArray⟩, .int .i64 x.f.k, .slice x.vo x.f.vals.length x.vc, .int .i64 x.f.r.k, .string ⟨x.f.r.n.toArray⟩, .string ⟨x.f.r.c.toArray⟩, .int .i64 x.f.inv]
abbrev FV.val (x : FV) : Value := .agg #[.string ⟨x.f.nm.toArray⟩, .int .i64 x.f.k, .slice x.vo x.f.vals.length x.vc, .int .i64 x.f.r.k, .string ⟨x.f.r.n.toArray⟩, .string ⟨x.f.r.c.toArray⟩, .int .i64 x.f.inv]
/-- A row of fields in memory. -/
def Flds (w : World) (ao : Option Addr) (xs : List FV) : Prop :=
  (xs = [] ∨ ∃ b off, ao = some ⟨b, off, none⟩ ∧ b < w.heap.size ∧ ∀ i x, xs[i]? = some x → ∀ j c, x.cells[j]? = some c → w.cell? ⟨b, off + i * 7 + j, none⟩ = some c) ∧ ∀ x ∈ xs, Strs w (.slice x.vo x.f.vals.length x.vc) x.f.vals
theorem Flds.below {w w' : World} {ao : Option Addr} {xs : List FV} (h : Flds w ao xs) (hb : Below w.heap.size w w') : Flds w' ao xs := by
  refine ⟨?_, fun x hx => (h.2 x hx).below hb⟩
  rcases h.1 with h1 | ⟨b, off, h1, h2, h3⟩
  · exact .inl h1
  · exact .inr ⟨b, off, h1, Nat.lt_of_lt_of_le h2 hb.size, fun i x hi j c hj => (hb.cell (p := ⟨b, off + i * 7 + j, none⟩) h2).trans (h3 i x hi j c hj)⟩
/-- A field's cells, where they lie. -/
structure FldAt (w : World) (b o : Nat) (x : FV) : Prop where
  lt : b < w.heap.size
  c : ∀ j v, x.cells[j]? = some v → w.cell? ⟨b, o + j, none⟩ = some v
theorem FldAt.kept {w w' : World} {b o : Nat} {x : FV} (h : FldAt w b o x) (hb : Below w.heap.size w w') : FldAt w' b o x :=
  ⟨Nat.lt_of_lt_of_le h.lt hb.size, fun j v hj => (hb.cell (p := ⟨b, o + j, none⟩) h.lt).trans (h.c j v hj)⟩
theorem FldAt.drew {w : World} {b o : Nat} {x : FV} (h : FldAt w b o x) : FldAt w.drew b o x := ⟨h.lt, h.c⟩
theorem FldAt.c7 {w : World} {b o : Nat} {x : FV} (h : FldAt w b o x) : w.cell? ⟨b, o, none⟩ = some (.string ⟨x.f.nm.toArray⟩) ∧ w.cell? ⟨b, o + 1, none⟩ = some (.int .i64 x.f.k) ∧ w.cell? ⟨b, o + 2, none⟩ = some (.slice x.vo x.f.vals.length x.vc) ∧ w.cell? ⟨b, o + 3, none⟩ = some (.int .i64 x.f.r.k) ∧ w.cell? ⟨b, o + 4, none⟩ = some (.string ⟨x.f.r.n.toArray⟩) ∧ w.cell? ⟨b, o + 5, none⟩ = some (.string ⟨x.f.r.c.toArray⟩) ∧ w.cell? ⟨b, o + 6, none⟩ = some (.int .i64 x.f.inv) :=
  ⟨h.c 0 _ rfl, h.c 1 _ rfl, h.c 2 _ rfl, h.c 3 _ rfl, h.c 4 _ rfl, h.c 5 _ rfl, h.c 6 _ rfl⟩
theorem Flds.at {w : World} {ao : Option Addr} {xs : List FV} (h : Flds w ao xs) {i : Nat} {x : FV} (hi : xs[i]? = some x) : ∃ b off, ao = some ⟨b, off, none⟩ ∧ FldAt w b (off + i * 7) x := by
  rcases h.1 with rfl | ⟨b, off, h1, h2, h3⟩
  · simp at hi
  · exact ⟨b, off, h1, h2, h3 i x hi⟩
end Go.Proofs.YtlmjkbdodecbmaaGreatDoor

namespace Go.Proofs.YtlmjkbdodecbmaaGreatDoor
open Go.RowKit
set_option linter.unusedVariables false
set_option linter.unusedSimpArgs false
/-- A predicate. -/
inductive PT where
  | mk (op fld : Int) (vals : List V3) (kids : List PT)
instance : Inhabited PT := ⟨.mk 0 0 [] []⟩
def PT.op : PT → Int | .mk o _ _ _ => o
def PT.fld : PT → Int | .mk _ f _ _ => f
def PT.vals : PT → List V3 | .mk _ _ v _ => v
def PT.kids : PT → List PT | .mk _ _ _ k => k
theorem PT.eta (p : PT) : PT.mk p.op p.fld p.vals p.kids = p := by cases p; rfl
theorem PT.ind {P : PT → Prop} (h : ∀ op fld vs ks, (∀ k ∈ ks, P k) → P (.mk op fld vs ks)) (p : PT) : P p :=
  PT.rec (motive_1 := P) (motive_2 := fun ks => ∀ k ∈ ks, P k) (fun op fld vs ks ih => h op fld vs ks ih) (by simp) (fun k ks h1 h2 x hx => by
    rcases List.mem_cons.1 hx with rfl | hx
    · exact h1
    · exact h2 x hx) p
mutual
/-- A predicate and all within it, each with its depth. -/
def walkP : Nat → PT → List (PT × Nat)
  | d, .mk o f v ks => (.mk o f v ks, d) :: walksP (d + 1) ks
def walksP : Nat → List PT → List (PT × Nat)
  | _, [] => []
  | d, k :: ks => walkP d k ++ walksP d ks
end
mutual
def sizeP : PT → Nat
  | .mk _ _ vs ks => 1 + (vs.length + sizesP ks)
def sizesP : List PT → Nat
  | [] => 0
  | k :: ks => sizeP k + sizesP ks
end
mutual
/-- What is left of the room behind a predicate. -/
def predR : Int → PT → Int
  | n, .mk _ _ vs ks => predsR (valsRoom (roomL n [1]) vs) ks
def predsR : Int → List PT → Int
  | n, [] => n
  | n, k :: ks => if n < 0 then n else predsR (predR n k) ks
end
theorem walkP_eq (d : Nat) (p : PT) : walkP d p = (p, d) :: walksP (d + 1) p.kids := by cases p; rfl
theorem predR_eq (n : Int) (p : PT) : predR n p = predsR (valsRoom (roomL n [1]) p.vals) p.kids := by cases p; rw [predR]; rfl
theorem predsR_neg {n : Int} (h : n < 0) (ks : List PT) : predsR n ks = n := by
  cases ks with
  | nil => rfl
  | cons k r => rw [predsR, if_pos h]
theorem predsR_drop {n : Int} {ks : List PT} {i : Nat} {k : PT} (h : ks[i]? = some k) (hn : ¬ n < 0) : predsR n (ks.drop i) = predsR (predR n k) (ks.drop (i + 1)) := by
  have hi : i < ks.length := (List.getElem?_eq_some_iff.1 h).1
  rw [List.drop_eq_getElem_cons hi, (List.getElem?_eq_some_iff.1 h).2, predsR, if_neg hn]
theorem valsRoom_sum : ∀ (vs : List V3) (n : Int), 0 ≤ valsRoom n vs → valsRoom n vs + ((vs.length : Nat) : Int) ≤ n ∧ 0 ≤ n := by
  intro vs
  induction vs with
  | nil => intro n h; unfold valsRoom at h ⊢; simp; exact h
  | cons u r ih =>
    intro n h
    unfold valsRoom at h ⊢
    by_cases h0 : n < 0
    · rw [if_pos h0] at h; omega
    · rw [if_neg h0] at h ⊢
      obtain ⟨h1, h2⟩ := ih _ h
      obtain ⟨h3, h4⟩ := roomL_sum _ h2
      simp only [List.sum_cons, List.sum_nil, Int.natCast_add] at h3
      rw [List.length_cons]
      omega
/-- All texts and lists within are short. -/
inductive SmP (K : Nat) : PT → Prop
  | mk {op fld : Int} {vs : List V3} {ks : List PT} (hv : vs.length ≤ K) (hk : ks.length ≤ K) (ht : ∀ v ∈ vs, v.n.length ≤ K ∧ v.c.length ≤ K) (hs : ∀ k ∈ ks, SmP K k) : SmP K (.mk op fld vs ks)
theorem SmP.out {K : Nat} {p : PT} (h : SmP K p) : p.vals.length ≤ K ∧ p.kids.length ≤ K ∧ (∀ v ∈ p.vals, v.n.length ≤ K ∧ v.c.length ≤ K) ∧ ∀ k ∈ p.kids, SmP K k := by
  cases h with
  | mk hv hk ht hs => exact ⟨hv, hk, ht, hs⟩
theorem sizesP_len (ks : List PT) : ks.length ≤ sizesP ks := by
  induction ks with
  | nil => exact Nat.zero_le _
  | cons k ks ih =>
    rw [List.length_cons, sizesP]
    have : 1 ≤ sizeP k := by cases k; rw [sizeP]; omega
    omega
theorem predR_le (p : PT) : ∀ n : Int, 0 ≤ predR n p → n ≤ 4000 → predR n p + ((sizeP p : Nat) : Int) ≤ n ∧ 0 ≤ n ∧ SmP 4000 p := by
  refine PT.rec (motive_1 := fun p => ∀ n : Int, 0 ≤ predR n p → n ≤ 4000 → predR n p + ((sizeP p : Nat) : Int) ≤ n ∧ 0 ≤ n ∧ SmP 4000 p) (motive_2 := fun ks => ∀ n : Int, 0 ≤ predsR n ks → n ≤ 4000 → predsR n ks + ((sizesP ks : Nat) : Int) ≤ n ∧ 0 ≤ n ∧ ∀ k ∈ ks, SmP 4000 k) ?_ ?_ ?_ p
  · intro op fld vs ks ih n h hn
    rw [predR] at h ⊢
    rw [sizeP]
    have h0 : 0 ≤ valsRoom (roomL n [1]) vs := by
      by_cases h8 : valsRoom (roomL n [1]) vs < 0
      · rw [predsR_neg h8] at h; omega
      · omega
    obtain ⟨h1, h2⟩ := valsRoom_sum _ _ h0
    obtain ⟨h3, h4⟩ := roomL_sum _ h2
    simp only [List.sum_cons, List.sum_nil, Int.natCast_add] at h3
    obtain ⟨h5, h6, h7⟩ := ih _ h (by omega)
    have h8 := sizesP_len ks
    have h9 := valsRoom_le vs _ h0 (by omega)
    refine ⟨by omega, by omega, .mk (by omega) (by omega) h9 h7⟩
  · intro n h hn
    rw [predsR] at h ⊢
    rw [sizesP]
    exact ⟨by omega, h, by simp⟩
  · intro k ks ih1 ih2 n h hn
    rw [predsR] at h ⊢
    rw [sizesP]
    by_cases h0 : n < 0
    · rw [if_pos h0] at h; omega
    · rw [if_neg h0] at h ⊢
      have h9 : 0 ≤ predR n k := by
        by_cases h8 : predR n k < 0
        · rw [predsR_neg h8] at h; omega
        · omega
      obtain ⟨h1, h2, h3⟩ := ih1 n h9 hn
      obtain ⟨h4, h5, h6⟩ := ih2 _ h (by omega)
      refine ⟨by omega, h2, fun x hx => ?_⟩
      rcases List.mem_cons.1 hx with rfl | hx
      · exact h3
      · exact h6 x hx
theorem walkP_len (p : PT) : ∀ d, (walkP d p).length ≤ sizeP p := by
  refine PT.rec (motive_1 := fun p => ∀ d, (walkP d p).length ≤ sizeP p) (motive_2 := fun ks => ∀ d, (walksP d ks).length ≤ sizesP ks) ?_ ?_ ?_ p
  · intro op fld vs ks ih d
    rw [walkP, sizeP, List.length_cons]
    have := ih (d + 1)
    omega
  · intro d; rw [walksP, sizesP]; exact Nat.le_refl _
  · intro k ks ih1 ih2 d
    rw [walksP, sizesP, List.length_append]
    have := ih1 d
    have := ih2 d
    omega
/-- What is within a predicate is no deeper than it has parts. -/
theorem walkP_depth (p : PT) : ∀ d x, x ∈ walkP d p → d ≤ x.2 ∧ x.2 < d + sizeP p := by
  refine PT.rec (motive_1 := fun p => ∀ d x, x ∈ walkP d p → d ≤ x.2 ∧ x.2 < d + sizeP p) (motive_2 := fun ks => ∀ d x, x ∈ walksP d ks → d ≤ x.2 ∧ x.2 < d + sizesP ks) ?_ ?_ ?_ p
  · intro op fld vs ks ih d x hx
    rw [walkP] at hx
    rw [sizeP]
    rcases List.mem_cons.1 hx with rfl | hx
    · exact ⟨Nat.le_refl _, by show d < _; omega⟩
    · have := ih _ _ hx
      omega
  · intro d x hx; rw [walksP] at hx; cases hx
  · intro k ks ih1 ih2 d x hx
    rw [walksP] at hx
    rw [sizesP]
    rcases List.mem_append.1 hx with hx | hx
    · have := ih1 _ _ hx; omega
    · have := ih2 _ _ hx; omega
/-- What is still to be told: a heap whose top is the last one. -/
def todoP (st : List (PT × Nat)) : List (PT × Nat) := st.reverse.flatMap fun x => walkP x.2 x.1
theorem todoP_pop (st : List (PT × Nat)) (x : PT × Nat) : todoP (st ++ [x]) = x :: (walksP (x.2 + 1) x.1.kids ++ todoP st) := by
  unfold todoP
  rw [List.reverse_append, List.reverse_singleton, List.singleton_append, List.flatMap_cons, walkP_eq]
  rfl
theorem todoP_push (st : List (PT × Nat)) (k : PT) (d : Nat) : todoP (st ++ [(k, d)]) = walkP d k ++ todoP st := by
  unfold todoP
  rw [List.reverse_append, List.reverse_singleton, List.singleton_append, List.flatMap_cons]
end Go.Proofs.YtlmjkbdodecbmaaGreatDoor
