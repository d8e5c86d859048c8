/-
  Pj15: ValA (what is needed of them).
-/
import Derived.Test.YtcpfanpcdkoiaaaGreatDoorPj07
import Derived.Test.YtcpfanpcdkoiaaaGreatDoorPj13
import Derived.Test.YtcpfanpcdkoiaaaGreatDoorPj14
import Derived.Deep.DeepCutAuto
import Derived.WalkMore
import Derived.Laws.StructEq
set_option maxRecDepth 100000
set_option linter.unusedVariables false
set_option linter.unusedSimpArgs false

namespace Go.Proofs.YtcpfanpcdkoiaaaGreatDoor
open Go.RowKit


attribute [local go_sem] field_nat
theorem lparse_q9 (l : List UInt8) (q : Rat) (c : Int) (w : World) (hq : Hid (q = litVal l)) (hc : Hid (c = litCode l)) (hl : l.length ≤ 1000) : Calls Tryz.prog 94 #[.string ⟨l.toArray⟩] w (QPostC w q c) := by
 rw [hq.out, hc.out]; exact lparse_any l w hl
theorem qtext_t9 (va : Value) (a : Rat) (T : List UInt8) (w : World) (ha : QIs w va a) (hla : QB a 100000) (hT : Hid (T = qtext a)) :
  Calls Tryz.prog 84 #[va] w fun e w' => e = .returned (.string ⟨T.toArray⟩) ∧ Below w.heap.size w w' := by
 rw [hT.out]; exact qtext_any va a w ha hla
theorem load_val {w : World} {b : Nat} {x y z : Value} (h : Box3 w b x y z) : (loadVar 30 ⟨b, 0, none⟩).run Tryz.prog w = .ok (.agg #[x, y, z]) w := by
 have h0 := h.c0
 have h1 := h.c1
 have h2 := h.c2
 simp [go_sem, h0, h1, h2]
theorem ret_val {fn : Func} {s : Nat} {R : Ending → World → Prop} {a : Act} {w : World} {b : Nat} {x y z : Value} (hres : fn.results = #[.cell s 30]) (hp : a.tmps.getD s undef = .pointer (some ⟨b, 0, none⟩)) (hc : Box3 w b x y z) (hd : a.defers = []) (hR : R (.returned (.agg #[x, y, z])) w) : bodyPost Tryz.prog fn R .ret a w := by
 refine bodyPost_ret (v := .agg #[x, y, z]) ?_ hd hR
 have hp' : a.tmps[s]?.getD undef = .pointer (some ⟨b, 0, none⟩) := by simpa using hp
 simp only [results, hres]
 simp [Sem.run_bind, Sem.run_pure, Result.andThen, hp', asAddr, load_val hc]
theorem ret_val_tmp {fn : Func} {s t : Nat} {R : Ending → World → Prop} {a : Act} {w : World} {b : Nat} {x y z u : Value} (hres : fn.results = #[.cell s 30, .tmp t]) (hp : a.tmps.getD s undef = .pointer (some ⟨b, 0, none⟩)) (hu : a.tmps.getD t undef = u) (hc : Box3 w b x y z) (hd : a.defers = []) (hR : R (.returned (.tuple #[.agg #[x, y, z], u])) w) : bodyPost Tryz.prog fn R .ret a w := by
 refine bodyPost_ret (v := .tuple #[.agg #[x, y, z], u]) ?_ hd hR
 rw [results_cell_tmp hres, hp, hu]
 simp [asAddr, load_val hc]
def NPost (w : World) (q : Rat) (b : Bool) (e : Ending) (w' : World) : Prop := ∃ r, e = .returned (.tuple #[r, .bool b]) ∧ QIs w' r q ∧ Below w.heap.size w w'
theorem NPost.out {w w' : World} {q : Rat} {b : Bool} {e : Ending} (h : NPost w q b e w') : ∃ s xo xl xc yo yl yc, e = .returned (.tuple #[.agg #[.bool s, .slice xo xl xc, .slice yo yl yc], .bool b]) ∧ s = decide (q < 0) ∧ NatIs w' (.agg #[.slice xo xl xc]) q.num.natAbs ∧ NatIs w' (.agg #[.slice yo yl yc]) (den0 q) ∧ QIs w' (.agg #[.bool s, .slice xo xl xc, .slice yo yl yc]) q ∧ Below w.heap.size w w' := by
 obtain ⟨r, rfl, hq, hb⟩ := h
 obtain ⟨s, xo, xl, xc, yo, yl, yc, rfl, h1, h2, h3⟩ := hq.form
 exact ⟨_, _, _, _, _, _, _, rfl, h1, h2, h3, hq, hb⟩
section
variable {fn : Func} {s : Nat} {act : Act} {w w9 : World} {b : Nat} {s0 : Bool} {o1 o2 : Option Addr} {l1 l2 c1 c2 : Nat} {u0 u1 u2 : Value} {q : Rat}
theorem end_qb {t : Nat} {c : Bool} (hres : fn.results = #[.cell s 113, .tmp t]) (hp : act.tmps.getD s undef = .pointer (some ⟨b, 0, none⟩)) (hu : act.tmps.getD t undef = .bool c) (hd : act.defers = []) (hb : Box3 w9 b (.bool s0) (.slice o1 l1 c1) (.slice o2 l2 c2)) (hge : w.heap.size ≤ b) (hq : QIs w9 (.agg #[u0, u1, u2]) q) (hB : Below w.heap.size w w9) :
  bodyPost Tryz.prog fn (NPost w q c) .ret act (((w9.setCell ⟨b, 0, none⟩ u0).setCell ⟨b, 1, none⟩ u1).setCell ⟨b, 2, none⟩ u2) :=
 ret_rat_tmp hres hp hu hb.set3 hd ⟨_, rfl, hq.set3 hb, below_set3 hB hge⟩
end
section
variable {fn : Func} {s : Nat} {act : Act} {w w9 : World} {b : Nat} {x y z u0 u1 u2 : Value}
theorem end_v (hres : fn.results = #[.cell s 30]) (hp : act.tmps.getD s undef = .pointer (some ⟨b, 0, none⟩)) (hd : act.defers = []) (hb : Box3 w9 b x y z) (hge : w.heap.size ≤ b) (hB : Below w.heap.size w w9) :
  bodyPost Tryz.prog fn (fun e w' => e = .returned (.agg #[u0, u1, u2]) ∧ Below w.heap.size w w') .ret act (((w9.setCell ⟨b, 0, none⟩ u0).setCell ⟨b, 1, none⟩ u1).setCell ⟨b, 2, none⟩ u2) :=
 ret_val hres hp hb.set3 hd ⟨rfl, below_set3 hB hge⟩
theorem end_vc {t : Nat} {c : Int} (hres : fn.results = #[.cell s 30, .tmp t]) (hp : act.tmps.getD s undef = .pointer (some ⟨b, 0, none⟩)) (hu : act.tmps.getD t undef = .int .i64 c) (hd : act.defers = []) (hb : Box3 w9 b x y z) (hge : w.heap.size ≤ b) (hB : Below w.heap.size w w9) :
  bodyPost Tryz.prog fn (fun e w' => e = .returned (.tuple #[.agg #[u0, u1, u2], .int .i64 c]) ∧ Below w.heap.size w w') .ret act (((w9.setCell ⟨b, 0, none⟩ u0).setCell ⟨b, 1, none⟩ u1).setCell ⟨b, 2, none⟩ u2) :=
 ret_val_tmp hres hp hu hb.set3 hd ⟨rfl, below_set3 hB hge⟩
end
theorem nilb {l : List UInt8} (h : l ≠ []) : (l == []) = false := by rw [beq_eq_false_iff_ne]; exact h
def cutCol (l : List UInt8) : Bool × List UInt8 := if l.head? = some 58 then (true, l.tail) else (false, l)
set_option maxHeartbeats 1000000 in
theorem prefixC_any (l : List UInt8) (w : World) (hl : l.length ≤ 9223372036854775807) :
  Calls Tryz.prog 157 #[.string ⟨l.toArray⟩, .string ⟨#[58]⟩] w fun e w' => e = .returned (.tuple #[.string ⟨(cutCol l).2.toArray⟩, .bool (cutCol l).1]) ∧ w' = w := by
 cases l with
 | nil =>
  have hp : Calls Tryz.prog 202 #[.string ⟨#[]⟩, .string ⟨#[58]⟩] w fun e w' => e = .returned (.bool false) ∧ w' = w := by
   go_enter Tryz.func202, Tryz.ntmps202
   go_wp2
   go_ret
   exact ⟨rfl, rfl⟩
  go_enter Tryz.func157, Tryz.ntmps157
  go_wp2_with fail
  refine hp.mono ?_
  rintro e w' ⟨rfl, rfl⟩
  go_wp2_with fail
  go_ret2
  exact ⟨rfl, rfl⟩
 | cons c t =>
  simp only [List.length_cons] at hl
  have h1 : (1 : Int) ≤ ((t.length : Nat) : Int) + 1 := by omega
  have h2 : ((⟨(c :: t).toArray⟩ : ByteArray).extract 0 1) = ⟨#[c]⟩ := by rw [bytes_extract]; rfl
  have h3 : ((⟨(c :: t).toArray⟩ : ByteArray).extract 1 (t.length + 1)) = ⟨t.toArray⟩ := by rw [bytes_extract]; simp
  have hp : Calls Tryz.prog 202 #[.string ⟨(c :: t).toArray⟩, .string ⟨#[58]⟩] w fun e w' => e = .returned (.bool (c == 58)) ∧ w' = w := by
   go_enter Tryz.func202, Tryz.ntmps202
   go_wp2
   go_ret
   exact ⟨rfl, rfl⟩
  go_enter Tryz.func157, Tryz.ntmps157
  go_wp2_with fail
  refine hp.mono ?_
  rintro e w' ⟨rfl, rfl⟩
  by_cases hc : c = 58
  ·subst hc
   go_wp2_with fail
   go_ret2
   exact ⟨rfl, rfl⟩
  ·have hb : (c == 58) = false := by simpa using hc
   have hcn : cutCol (c :: t) = (false, c :: t) := by unfold cutCol; rw [if_neg (by simpa using hc)]
   rw [hb]
   go_wp2_with fail
   go_ret2
   exact ⟨ret_one (by rw [hcn]; rfl), rfl⟩
set_option maxHeartbeats 1000000 in
theorem cutprefixC_any (l : List UInt8) (w : World) (hl : l.length ≤ 9223372036854775807) :
  Calls Tryz.prog 92 #[.string ⟨l.toArray⟩, .string ⟨#[58]⟩] w fun e w' => e = .returned (.tuple #[.string ⟨(cutCol l).2.toArray⟩, .bool (cutCol l).1]) ∧ Below w.heap.size w w' := by
 go_enter Tryz.func92, Tryz.ntmps92
 go_wp2_with fail
 refine (prefixC_any l _ hl).mono ?_
 rintro e w' ⟨rfl, rfl⟩
 go_wp2_with fail
 go_ret2
 exact ⟨rfl, Below.refl _ _⟩
theorem QB.val9 (l : List UInt8) : QB (qval l) 20000 := by
 unfold qval
 split
 ·unfold qmade
  rcases Nat.eq_zero_or_pos (pval (qden l)) with h | h
  ·rw [h]
   have e : qOf (qneg l) (pval (qnum l)) 0 = 0 := by unfold qOf; exact Rat.mkRat_zero _
   rw [e]; exact QB.zero _ (by decide)
  ·exact QB.of _ (Nat.le_trans (pval_lim _) (by decide)) (Nat.le_trans (pval_lim _) (by decide)) h
 ·exact QB.zero _ (by decide)
theorem sclone_any (l : List UInt8) (w : World) (hl : l.length ≤ 1000000) : Calls Tryz.prog 96 #[.string ⟨l.toArray⟩] w fun e w' => e = .returned (.string ⟨l.toArray⟩) ∧ Below w.heap.size w w' := by
 have hc := fun W => Tryz.stringslite_Clone ⟨l.toArray⟩ W (by show l.length ≤ _; omega)
 go_enter Tryz.func96, Tryz.ntmps96
 go_wp2_with fail
 refine (hc _).mono ?_
 rintro e w' ⟨rfl, hb⟩
 go_wp2_with fail
 go_ret
 exact ⟨rfl, hb⟩
set_option maxHeartbeats 1000000 in
theorem vnum_main (k : Int) (n c : List UInt8) (q : Rat) (b : Bool) (w : World) (HB : Hid (b = vnum k n c)) (HQ0 : Hid (b = false → q = 0)) (HQ1 : Hid (k = 1 → c = [] → q = qval n)) (hn : n.length ≤ 1000000) : Calls Tryz.prog 97 #[valV k n c] w (NPost w q b) := by
 obtain ⟨w0, hw0⟩ : ∃ w0, w0 = ((w.alloc (.cells #[.int .i64 k, .string ⟨n.toArray⟩, .string ⟨c.toArray⟩] 30)).alloc (.cells #[.bool false, .slice none 0 0, .slice none 0 0] 113)) := ⟨_, rfl⟩
 have hbf : Below w.heap.size w w0 := by rw [hw0]; exact (((Below.refl _ w).alloc (Nat.le_refl _) _).alloc (by simp <;> omega) _)
 obtain ⟨pv, hpv⟩ : ∃ p, p = w.heap.size := ⟨_, rfl⟩
 have hbv : Box3 w0 pv (Value.int .i64 k) (Value.string ⟨n.toArray⟩) (Value.string ⟨c.toArray⟩) := by rw [hw0, hpv]; exact ⟨by go_simp, by go_simp, by go_simp, by go_simp, by go_simp, by go_simp⟩
 obtain ⟨pr, hpr⟩ : ∃ p, p = w.heap.size + 1 := ⟨_, rfl⟩
 have hbr : Box3 w0 pr (Value.bool false) (Value.slice none 0 0) (Value.slice none 0 0) := by rw [hw0, hpr]; exact ⟨by go_simp, by go_simp, by go_simp, by go_simp, by go_simp, by go_simp⟩
 have HP : Hid (w.heap.size ≤ pv ∧ pv < pr) := Lib.hid (by omega)
 have HW := Lib.hid hw0; clear hw0
 go_enter Tryz.func97, Tryz.ntmps97
 go_upto_region 1 with fail
 rw [← HW.out, ← hpr, ← hpv]
 clear hpv hpr HW
 by_cases hk : k = 1
 case neg =>
  have hkb : (k == 1) = false := by rw [beq_eq_false_iff_ne]; exact hk
  have hb0 : b = false := by rw [HB.out]; unfold vnum; simp [hk]
  have hq0 : q = 0 := HQ0.out hb0
  subst hb0; subst hq0
  have ev0 := hbv.c0
  have ev1 := hbv.c1
  have ev2 := hbv.c2
  have er0 := hbr.c0
  have fr0 := hbr.f0
  have er1 := hbr.c1
  have fr1 := hbr.f1
  have er2 := hbr.c2
  have fr2 := hbr.f2
  go_wp2_with fail
  exact end_qb rfl rfl rfl rfl hbr (show w.heap.size ≤ pr by have := HP.out; omega) (QIs.zero _) hbf
 case pos =>
  subst hk
  by_cases hc : c = []
  case neg =>
   have hcb := nilb hc
   have hb0 : b = false := by rw [HB.out]; unfold vnum; simp [hc]
   have hq0 : q = 0 := HQ0.out hb0
   subst hb0; subst hq0
   have ev0 := hbv.c0
   have ev1 := hbv.c1
   have ev2 := hbv.c2
   have er0 := hbr.c0
   have fr0 := hbr.f0
   have er1 := hbr.c1
   have fr1 := hbr.f1
   have er2 := hbr.c2
   have fr2 := hbr.f2
   go_wp2_with fail
   exact end_qb rfl rfl rfl rfl hbr (show w.heap.size ≤ pr by have := HP.out; omega) (QIs.zero _) hbf
  case pos =>
   subst hc
   obtain ⟨cd, hcd⟩ : ∃ d, d = qcode n := ⟨_, rfl⟩
   have HCD := Lib.hid hcd
   have hbd : (cd == 0) = b := by rw [HB.out, hcd]; unfold vnum; by_cases h9 : qcode n = 0 <;> simp [h9]
   have hqv : q = qval n := HQ1.out rfl rfl
   have HQV := Lib.hid hqv
   clear hcd hqv
   have ev0 := hbv.c0
   have ev1 := hbv.c1
   have ev2 := hbv.c2
   go_wp2_with fail
   refine (qparse_main n _ q cd HQV HCD (by omega)).mono ?_
   rintro e w1 hq9
   obtain ⟨aB, axO, axL, axC, ayO, ayL, ayC, rfl, hS, hax, hay, ha, hb⟩ := hq9.out
   have HaS := Lib.hid hS; clear hS
   clear ev0 ev1 ev2
   replace hbv := hbv.kept hb
   replace hbr := hbr.kept hb
   replace hbf := hbf.trans (hb.mono hbf.size)
   clear hb
   obtain ⟨w2, hwE⟩ : ∃ W, W = (w1.alloc (.cells #[.bool aB, .slice axO axL axC, .slice ayO ayL ayC] 113)) := ⟨_, rfl⟩
   have hb : Below w1.heap.size w1 w2 := by rw [hwE]; exact ((Below.refl _ w1).alloc (Nat.le_refl _) _)
   obtain ⟨pa, hpa⟩ : ∃ p, p = w1.heap.size := ⟨_, rfl⟩
   have hba : Box3 w2 pa (Value.bool aB) (Value.slice axO axL axC) (Value.slice ayO ayL ayC) := by rw [hwE, hpa]; exact ⟨by go_simp, by go_simp, by go_simp, by go_simp, by go_simp, by go_simp⟩
   replace HP : Hid (w.heap.size ≤ pv ∧ pv < pr ∧ pr < pa) := Lib.hid (by have h1 := HP.out; have h9 := hbf.size; have h2r := hbr.lt; omega)
   have HW := Lib.hid hwE; clear hwE
   go_upto_region 4 with fail
   rw [← HW.out, ← hpa]
   clear hpa HW
   replace hbv := hbv.kept hb
   replace hbr := hbr.kept hb
   replace hax := hax.below hb
   replace hay := hay.below hb
   replace ha := ha.below hb
   replace hbf := hbf.trans (hb.mono hbf.size)
   clear hb
   have ea0 := hba.c0
   have ea1 := hba.c1
   have ea2 := hba.c2
   have er0 := hbr.c0
   have fr0 := hbr.f0
   have er1 := hbr.c1
   have fr1 := hbr.f1
   have er2 := hbr.c2
   have fr2 := hbr.f2
   go_wp2_with fail
   exact end_qb rfl rfl rfl rfl hbr (show w.heap.size ≤ pr by have := HP.out; omega) ha hbf
theorem qval_not {n : List UInt8} (h : qcode n ≠ 0) : qval n = 0 := by unfold qval; rw [if_neg h]
def vq (k : Int) (n c : List UInt8) : Rat := if vnum k n c = true then qval n else 0
theorem vnum_q (k : Int) (n c : List UInt8) (q : Rat) (b : Bool) (w : World) (HB : Hid (b = vnum k n c)) (HQ : Hid (q = vq k n c)) (hn : n.length ≤ 1000000) : Calls Tryz.prog 97 #[valV k n c] w (NPost w q b) := by
 refine vnum_main k n c q b w HB (Lib.hid fun h => ?_) (Lib.hid fun h1 h2 => ?_) hn
 ·rw [HQ.out]; unfold vq; rw [← HB.out, h]; rfl
 ·rw [HQ.out]; unfold vq vnum
  subst h1; subst h2
  by_cases h9 : qcode n = 0
  ·simp [h9]
  ·simp [h9, qval_not h9]
set_option maxHeartbeats 1000000 in
theorem vvalid_b (k : Int) (n c : List UInt8) (b : Bool) (w : World) (HB : Hid (b = vvalid k n c)) (hnl : n.length ≤ 1000000) : Calls Tryz.prog 37 #[valV k n c] w fun e w' => e = .returned (.bool b) ∧ Below w.heap.size w w' := by
 obtain ⟨w0, hw0⟩ : ∃ w0, w0 = (w.alloc (.cells #[.int .i64 k, .string ⟨n.toArray⟩, .string ⟨c.toArray⟩] 30)) := ⟨_, rfl⟩
 have hbf : Below w.heap.size w w0 := by rw [hw0]; exact ((Below.refl _ w).alloc (Nat.le_refl _) _)
 obtain ⟨pv, hpv⟩ : ∃ p, p = w.heap.size := ⟨_, rfl⟩
 have hbv : Box3 w0 pv (Value.int .i64 k) (Value.string ⟨n.toArray⟩) (Value.string ⟨c.toArray⟩) := by rw [hw0, hpv]; exact ⟨by go_simp, by go_simp, by go_simp, by go_simp, by go_simp, by go_simp⟩
 have HP : Hid (w.heap.size ≤ pv) := Lib.hid (by omega)
 have HW := Lib.hid hw0; clear hw0
 go_enter Tryz.func37, Tryz.ntmps37
 go_upto_region 1 with fail
 rw [← HW.out, ← hpv]
 clear hpv HW
 by_cases hk0 : k = 0
 case pos =>
  subst hk0
  by_cases hn : n = []
  case pos =>
   subst hn
   by_cases hc : c = []
   case pos =>
    subst hc
    have ev0 := hbv.c0
    have ev1 := hbv.c1
    have ev2 := hbv.c2
    go_wp2_with fail
    go_ret
    exact ⟨ret_one (congrArg Value.bool (by rw [HB.out]; rfl)), hbf⟩
   case neg =>
    have hcb := nilb hc
    have ev0 := hbv.c0
    have ev1 := hbv.c1
    have ev2 := hbv.c2
    go_wp2_with fail
    go_ret
    exact ⟨ret_one (congrArg Value.bool (by rw [HB.out]; unfold vvalid; simp [hc])), hbf⟩
  case neg =>
   have hnb := nilb hn
   have ev0 := hbv.c0
   have ev1 := hbv.c1
   have ev2 := hbv.c2
   go_wp2_with fail
   go_ret
   exact ⟨ret_one (congrArg Value.bool (by rw [HB.out]; unfold vvalid; simp [hn])), hbf⟩
 case neg =>
  have hkb0 : (k == 0) = false := by rw [beq_eq_false_iff_ne]; exact hk0
  by_cases hk2 : k = 2
  case pos =>
   subst hk2
   clear hkb0
   by_cases hn : n = []
   case pos =>
    subst hn
    by_cases hcl : c.length ≤ 60
    case pos =>
     have hci : ((c.length : Nat) : Int) ≤ 60 := by omega
     have ev0 := hbv.c0
     have ev1 := hbv.c1
     have ev2 := hbv.c2
     go_wp2_with fail
     go_ret
     exact ⟨ret_one (congrArg Value.bool (by rw [HB.out]; unfold vvalid; simp [hcl])), hbf⟩
    case neg =>
     have hci : ¬ ((c.length : Nat) : Int) ≤ 60 := by omega
     have ev0 := hbv.c0
     have ev1 := hbv.c1
     have ev2 := hbv.c2
     go_wp2_with fail
     go_ret
     exact ⟨ret_one (congrArg Value.bool (by rw [HB.out]; unfold vvalid; simp [hcl])), hbf⟩
   case neg =>
    have hnb := nilb hn
    have ev0 := hbv.c0
    have ev1 := hbv.c1
    have ev2 := hbv.c2
    go_wp2_with fail
    go_ret
    exact ⟨ret_one (congrArg Value.bool (by rw [HB.out]; unfold vvalid; simp [hn])), hbf⟩
  case neg =>
   have hkb2 : (k == 2) = false := by rw [beq_eq_false_iff_ne]; exact hk2
   have HB2 : Hid (b = vnum k n c) := Lib.hid (by rw [HB.out]; unfold vvalid; rw [if_neg hk0, if_neg hk2])
   obtain ⟨q, hq⟩ : ∃ q, q = vq k n c := ⟨_, rfl⟩
   have HQ := Lib.hid hq
   clear hq
   have ev0 := hbv.c0
   have ev1 := hbv.c1
   have ev2 := hbv.c2
   go_wp2_with fail
   refine (vnum_q k n c q b _ HB2 HQ hnl).mono ?_
   rintro e w1 hq9
   obtain ⟨aB, axO, axL, axC, ayO, ayL, ayC, rfl, hS, hax, hay, ha, hb⟩ := hq9.out
   have HaS := Lib.hid hS; clear hS
   clear ev0 ev1 ev2
   replace hbv := hbv.kept hb
   replace hbf := hbf.trans (hb.mono hbf.size)
   clear hb
   obtain ⟨w2, hwE⟩ : ∃ W, W = (w1.alloc (.cells #[.bool aB, .slice axO axL axC, .slice ayO ayL ayC] 113)) := ⟨_, rfl⟩
   have hb : Below w1.heap.size w1 w2 := by rw [hwE]; exact ((Below.refl _ w1).alloc (Nat.le_refl _) _)
   obtain ⟨pa, hpa⟩ : ∃ p, p = w1.heap.size := ⟨_, rfl⟩
   have hba : Box3 w2 pa (Value.bool aB) (Value.slice axO axL axC) (Value.slice ayO ayL ayC) := by rw [hwE, hpa]; exact ⟨by go_simp, by go_simp, by go_simp, by go_simp, by go_simp, by go_simp⟩
   replace HP : Hid (w.heap.size ≤ pv ∧ pv < pa) := Lib.hid (by have h1 := HP.out; have h9 := hbf.size; have h2v := hbv.lt; omega)
   have HW := Lib.hid hwE; clear hwE
   go_upto_region 7 with fail
   rw [← HW.out, ← hpa]
   clear hpa HW
   replace hbv := hbv.kept hb
   replace hax := hax.below hb
   replace hay := hay.below hb
   replace ha := ha.below hb
   replace hbf := hbf.trans (hb.mono hbf.size)
   clear hb
   go_wp2_with fail
   go_ret
   exact ⟨rfl, hbf⟩
set_option maxHeartbeats 1000000 in
theorem vtext_t (k : Int) (n c T : List UInt8) (w : World) (HT : Hid (T = vtext k n c)) (hnl : n.length ≤ 1000000) (hcl : c.length ≤ 1000000) : Calls Tryz.prog 35 #[valV k n c] w fun e w' => e = .returned (.string ⟨T.toArray⟩) ∧ Below w.heap.size w w' := by
 obtain ⟨w0, hw0⟩ : ∃ w0, w0 = (w.alloc (.cells #[.int .i64 k, .string ⟨n.toArray⟩, .string ⟨c.toArray⟩] 30)) := ⟨_, rfl⟩
 have hbf : Below w.heap.size w w0 := by rw [hw0]; exact ((Below.refl _ w).alloc (Nat.le_refl _) _)
 obtain ⟨pv, hpv⟩ : ∃ p, p = w.heap.size := ⟨_, rfl⟩
 have hbv : Box3 w0 pv (Value.int .i64 k) (Value.string ⟨n.toArray⟩) (Value.string ⟨c.toArray⟩) := by rw [hw0, hpv]; exact ⟨by go_simp, by go_simp, by go_simp, by go_simp, by go_simp, by go_simp⟩
 have HP : Hid (w.heap.size ≤ pv) := Lib.hid (by omega)
 have HW := Lib.hid hw0; clear hw0
 go_enter Tryz.func35, Tryz.ntmps35
 go_upto_region 1 with fail
 rw [← HW.out, ← hpv]
 clear hpv HW
 obtain ⟨b, hb0⟩ : ∃ b, b = vvalid k n c := ⟨_, rfl⟩
 have HB := Lib.hid hb0
 clear hb0
 have ev0 := hbv.c0
 have ev1 := hbv.c1
 have ev2 := hbv.c2
 go_wp2_with fail
 refine (vvalid_b k n c b _ HB hnl).mono ?_
 rintro e w1 ⟨rfl, hb⟩
 clear ev0 ev1 ev2
 replace hbv := hbv.kept hb
 replace hbf := hbf.trans (hb.mono hbf.size)
 clear hb
 cases b
 case false =>
  obtain rfl : T = [33] := by rw [HT.out]; exact vtext_bad HB.out.symm
  have ev0 := hbv.c0
  have ev1 := hbv.c1
  have ev2 := hbv.c2
  go_wp2_with fail
  go_ret
  exact ⟨rfl, hbf⟩
 case true =>
  have HV : Hid (T = if k = 0 then [63] else if k = 2 then 58 :: c else n) := Lib.hid (by rw [HT.out]; unfold vtext; rw [← HB.out, if_pos rfl])
  by_cases hk0 : k = 0
  case pos =>
   subst hk0
   obtain rfl : T = [63] := by rw [HV.out, if_pos rfl]
   have ev0 := hbv.c0
   have ev1 := hbv.c1
   have ev2 := hbv.c2
   go_wp2_with fail
   go_ret
   exact ⟨rfl, hbf⟩
  case neg =>
   have hkb0 : (k == 0) = false := by rw [beq_eq_false_iff_ne]; exact hk0
   by_cases hk2 : k = 2
   case pos =>
    subst hk2
    clear hkb0
    have hT2 : (⟨#[58]⟩ ++ ⟨c.toArray⟩ : ByteArray) = ⟨T.toArray⟩ := by rw [HV.out, if_neg hk0, if_pos rfl]; exact bytes_append [58] c
    have ev0 := hbv.c0
    have ev1 := hbv.c1
    have ev2 := hbv.c2
    go_wp2_with fail
    go_ret
    exact ⟨rfl, hbf⟩
   case neg =>
    have hkb2 : (k == 2) = false := by rw [beq_eq_false_iff_ne]; exact hk2
    obtain rfl : n = T := by rw [HV.out, if_neg hk0, if_neg hk2]
    have ev0 := hbv.c0
    have ev1 := hbv.c1
    have ev2 := hbv.c2
    go_wp2_with fail
    go_ret
    exact ⟨rfl, hbf⟩
set_option maxHeartbeats 1000000 in
theorem vof_t (v : Value) (q : Rat) (T : List UInt8) (w : World) (h : QIs w v q) (hqb : QB q 100000) (HT : Hid (T = qtext q)) : Calls Tryz.prog 95 #[v] w fun e w' => e = .returned (valV 1 T []) ∧ Below w.heap.size w w' := by
 obtain ⟨aB, axO, axL, axC, ayO, ayL, ayC, rfl, hS, hax, hay⟩ := h.form
 have HaS := Lib.hid hS; clear hS
 obtain ⟨w0, hw0⟩ : ∃ w0, w0 = ((w.alloc (.cells #[.bool aB, .slice axO axL axC, .slice ayO ayL ayC] 113)).alloc (.cells #[.int .i64 0, .string ⟨#[]⟩, .string ⟨#[]⟩] 30)) := ⟨_, rfl⟩
 have hbf : Below w.heap.size w w0 := by rw [hw0]; exact (((Below.refl _ w).alloc (Nat.le_refl _) _).alloc (by simp <;> omega) _)
 obtain ⟨pa, hpa⟩ : ∃ p, p = w.heap.size := ⟨_, rfl⟩
 have hba : Box3 w0 pa (Value.bool aB) (Value.slice axO axL axC) (Value.slice ayO ayL ayC) := by rw [hw0, hpa]; exact ⟨by go_simp, by go_simp, by go_simp, by go_simp, by go_simp, by go_simp⟩
 obtain ⟨pr, hpr⟩ : ∃ p, p = w.heap.size + 1 := ⟨_, rfl⟩
 have hbr : Box3 w0 pr (Value.int .i64 0) (Value.string ⟨#[]⟩) (Value.string ⟨#[]⟩) := by rw [hw0, hpr]; exact ⟨by go_simp, by go_simp, by go_simp, by go_simp, by go_simp, by go_simp⟩
 have HP : Hid (w.heap.size ≤ pa ∧ pa < pr) := Lib.hid (by omega)
 replace h := h.below hbf
 replace hax := hax.below hbf
 replace hay := hay.below hbf
 have HW := Lib.hid hw0; clear hw0
 go_enter Tryz.func95, Tryz.ntmps95
 go_upto_region 1 with fail
 rw [← HW.out, ← hpr, ← hpa]
 clear hpa hpr HW
 have ea0 := hba.c0
 have ea1 := hba.c1
 have ea2 := hba.c2
 go_wp2_with fail
 refine (qtext_t9 _ q T _ h hqb HT).mono ?_
 rintro e w1 ⟨rfl, hb⟩
 clear ea0 ea1 ea2
 replace hba := hba.kept hb
 replace hbr := hbr.kept hb
 replace h := h.below hb
 replace hax := hax.below hb
 replace hay := hay.below hb
 replace hbf := hbf.trans (hb.mono hbf.size)
 clear hb
 have er0 := hbr.c0
 have fr0 := hbr.f0
 have er1 := hbr.c1
 have fr1 := hbr.f1
 have er2 := hbr.c2
 have fr2 := hbr.f2
 go_wp2_with fail
 exact end_v rfl rfl rfl hbr (show w.heap.size ≤ pr by have := HP.out; omega) hbf
set_option maxHeartbeats 1000000 in
theorem vcat_any (l : List UInt8) (w : World) (hl : l.length ≤ 1000000) : Calls Tryz.prog 34 #[.string ⟨l.toArray⟩] w fun e w' => e = .returned (valV 2 [] l) ∧ Below w.heap.size w w' := by
 obtain ⟨w0, hw0⟩ : ∃ w0, w0 = (w.alloc (.cells #[.int .i64 0, .string ⟨#[]⟩, .string ⟨#[]⟩] 30)) := ⟨_, rfl⟩
 have hbf : Below w.heap.size w w0 := by rw [hw0]; exact ((Below.refl _ w).alloc (Nat.le_refl _) _)
 obtain ⟨pr, hpr⟩ : ∃ p, p = w.heap.size := ⟨_, rfl⟩
 have hbr : Box3 w0 pr (Value.int .i64 0) (Value.string ⟨#[]⟩) (Value.string ⟨#[]⟩) := by rw [hw0, hpr]; exact ⟨by go_simp, by go_simp, by go_simp, by go_simp, by go_simp, by go_simp⟩
 have HP : Hid (w.heap.size ≤ pr) := Lib.hid (by omega)
 have HW := Lib.hid hw0; clear hw0
 go_enter Tryz.func34, Tryz.ntmps34
 go_upto_region 1 with fail
 rw [← HW.out, ← hpr]
 clear hpr HW
 go_wp2_with fail
 refine (sclone_any l _ hl).mono ?_
 rintro e w1 ⟨rfl, hb⟩
 replace hbr := hbr.kept hb
 replace hbf := hbf.trans (hb.mono hbf.size)
 clear hb
 have er0 := hbr.c0
 have fr0 := hbr.f0
 have er1 := hbr.c1
 have fr1 := hbr.f1
 have er2 := hbr.c2
 have fr2 := hbr.f2
 go_wp2_with fail
 exact end_v rfl rfl rfl hbr (show w.heap.size ≤ pr by have := HP.out; omega) hbf
set_option maxHeartbeats 4000000 in
theorem vparse_b (s n g : List UInt8) (k d : Int) (w : World) (HK : Hid (k = vpk s)) (HN : Hid (n = vpn s)) (HG : Hid (g = vpcat s)) (HD : Hid (d = vpc s)) (hs : s.length ≤ 1000000) (hs2 : Hid (¬ qcode s = 0 → s.length ≤ 1000)) : Calls Tryz.prog 33 #[.string ⟨s.toArray⟩] w fun e w' => e = .returned (.tuple #[valV k n g, .int .i64 d]) ∧ Below w.heap.size w w' := by
 obtain ⟨w0, hw0⟩ : ∃ w0, w0 = (w.alloc (.cells #[.int .i64 0, .string ⟨#[]⟩, .string ⟨#[]⟩] 30)) := ⟨_, rfl⟩
 have hbf : Below w.heap.size w w0 := by rw [hw0]; exact ((Below.refl _ w).alloc (Nat.le_refl _) _)
 obtain ⟨pr, hpr⟩ : ∃ p, p = w.heap.size := ⟨_, rfl⟩
 have hbr : Box3 w0 pr (Value.int .i64 0) (Value.string ⟨#[]⟩) (Value.string ⟨#[]⟩) := by rw [hw0, hpr]; exact ⟨by go_simp, by go_simp, by go_simp, by go_simp, by go_simp, by go_simp⟩
 have HP : Hid (w.heap.size ≤ pr) := Lib.hid (by omega)
 have HW := Lib.hid hw0; clear hw0
 go_enter Tryz.func33, Tryz.ntmps33
 go_upto_region 1 with fail
 rw [← HW.out, ← hpr]
 clear hpr HW
 by_cases h63 : s = [63]
 case pos =>
  subst h63
  obtain rfl : k = 0 := by rw [HK.out]; unfold vpk; rfl
  obtain rfl : n = [] := by rw [HN.out]; unfold vpn; rfl
  obtain rfl : g = [] := by rw [HG.out]; unfold vpcat; rfl
  obtain rfl : d = 0 := by rw [HD.out]; unfold vpc; rfl
  have er0 := hbr.c0
  have fr0 := hbr.f0
  have er1 := hbr.c1
  have fr1 := hbr.f1
  have er2 := hbr.c2
  have fr2 := hbr.f2
  go_wp2_with fail
  exact end_vc rfl rfl rfl rfl hbr (show w.heap.size ≤ pr by have := HP.out; omega) hbf
 case neg =>
  have h63b : (s == [63]) = false := by rw [beq_eq_false_iff_ne]; exact h63
  by_cases h58 : s.head? = some 58
  case pos =>
   have hcc : cutCol s = (true, s.tail) := by unfold cutCol; rw [if_pos h58]
   have hcp := fun W => cutprefixC_any s W (by omega)
   rw [hcc] at hcp
   obtain ⟨t, ht⟩ : ∃ t, t = s.tail := ⟨_, rfl⟩
   have htl : t.length ≤ 1000000 := by rw [ht, List.length_tail]; omega
   rw [← ht] at hcp
   have HTL := Lib.hid ht
   clear ht hcc
   go_wp2_with fail
   refine (hcp _).mono ?_
   rintro e w1 ⟨rfl, hb⟩
   replace hbr := hbr.kept hb
   replace hbf := hbf.trans (hb.mono hbf.size)
   clear hb
   clear hcp
   by_cases h60 : 60 < t.length
   case pos =>
    have hli : (60 : Int) < ((t.length : Nat) : Int) := by omega
    obtain rfl : k = 0 := by rw [HK.out]; unfold vpk; rw [if_neg h63, if_pos h58]; (try rw [if_pos (by rw [← HTL.out]; exact h60)])
    obtain rfl : n = [] := by rw [HN.out]; unfold vpn; rw [if_neg h63, if_pos h58]; (try rw [if_pos (by rw [← HTL.out]; exact h60)])
    obtain rfl : g = [] := by rw [HG.out]; unfold vpcat; rw [if_neg h63, if_pos h58]; (try rw [if_pos (by rw [← HTL.out]; exact h60)])
    obtain rfl : d = 3 := by rw [HD.out]; unfold vpc; rw [if_neg h63, if_pos h58]; (try rw [if_pos (by rw [← HTL.out]; exact h60)])
    have er0 := hbr.c0
    have fr0 := hbr.f0
    have er1 := hbr.c1
    have fr1 := hbr.f1
    have er2 := hbr.c2
    have fr2 := hbr.f2
    go_wp2_with fail
    exact end_vc rfl rfl rfl rfl hbr (show w.heap.size ≤ pr by have := HP.out; omega) hbf
   case neg =>
    have hli : ¬ (60 : Int) < ((t.length : Nat) : Int) := by omega
    obtain rfl : k = 2 := by rw [HK.out]; unfold vpk; rw [if_neg h63, if_pos h58]; (try rw [if_neg (by rw [← HTL.out]; exact h60)]); (try exact HTL.out.symm)
    obtain rfl : n = [] := by rw [HN.out]; unfold vpn; rw [if_neg h63, if_pos h58]; (try rw [if_neg (by rw [← HTL.out]; exact h60)]); (try exact HTL.out.symm)
    obtain rfl : g = t := by rw [HG.out]; unfold vpcat; rw [if_neg h63, if_pos h58]; (try rw [if_neg (by rw [← HTL.out]; exact h60)]); (try exact HTL.out.symm)
    obtain rfl : d = 0 := by rw [HD.out]; unfold vpc; rw [if_neg h63, if_pos h58]; (try rw [if_neg (by rw [← HTL.out]; exact h60)]); (try exact HTL.out.symm)
    go_wp2_with fail
    refine (vcat_any g _ htl).mono ?_
    rintro e w2 ⟨rfl, hb⟩
    replace hbr := hbr.kept hb
    replace hbf := hbf.trans (hb.mono hbf.size)
    clear hb
    have er0 := hbr.c0
    have fr0 := hbr.f0
    have er1 := hbr.c1
    have fr1 := hbr.f1
    have er2 := hbr.c2
    have fr2 := hbr.f2
    go_wp2_with fail
    exact end_vc rfl rfl rfl rfl hbr (show w.heap.size ≤ pr by have := HP.out; omega) hbf
  case neg =>
   have hcc : cutCol s = (false, s) := by unfold cutCol; rw [if_neg h58]
   have hcp := fun W => cutprefixC_any s W (by omega)
   rw [hcc] at hcp
   clear hcc
   go_wp2_with fail
   refine (hcp _).mono ?_
   rintro e w1 ⟨rfl, hb⟩
   replace hbr := hbr.kept hb
   replace hbf := hbf.trans (hb.mono hbf.size)
   clear hb
   clear hcp
   obtain ⟨q, hq⟩ : ∃ q, q = qval s := ⟨_, rfl⟩
   obtain ⟨c1, hc1⟩ : ∃ c, c = qcode s := ⟨_, rfl⟩
   have hqb : QB q 100000 := by rw [hq]; exact (QB.val9 s).mono (by decide)
   have HQ := Lib.hid hq
   have HC1 := Lib.hid hc1
   clear hq hc1
   go_wp2_with fail
   refine (qparse_main s _ q c1 HQ HC1 (by omega)).mono ?_
   rintro e w2 hq9
   obtain ⟨aB, axO, axL, axC, ayO, ayL, ayC, rfl, hS, hax, hay, ha, hb⟩ := hq9.out
   have HaS := Lib.hid hS; clear hS
   replace hbr := hbr.kept hb
   replace hbf := hbf.trans (hb.mono hbf.size)
   clear hb
   obtain ⟨w3, hwE⟩ : ∃ W, W = (w2.alloc (.cells #[.bool aB, .slice axO axL axC, .slice ayO ayL ayC] 113)) := ⟨_, rfl⟩
   have hb : Below w2.heap.size w2 w3 := by rw [hwE]; exact ((Below.refl _ w2).alloc (Nat.le_refl _) _)
   obtain ⟨pa, hpa⟩ : ∃ p, p = w2.heap.size := ⟨_, rfl⟩
   have hba : Box3 w3 pa (Value.bool aB) (Value.slice axO axL axC) (Value.slice ayO ayL ayC) := by rw [hwE, hpa]; exact ⟨by go_simp, by go_simp, by go_simp, by go_simp, by go_simp, by go_simp⟩
   replace HP : Hid (w.heap.size ≤ pr ∧ pr < pa) := Lib.hid (by have h1 := HP.out; have h9 := hbf.size; have h2r := hbr.lt; omega)
   have HW := Lib.hid hwE; clear hwE
   go_upto_region 9 with fail
   rw [← HW.out, ← hpa]
   clear hpa HW
   replace hbr := hbr.kept hb
   replace hax := hax.below hb
   replace hay := hay.below hb
   replace ha := ha.below hb
   replace hbf := hbf.trans (hb.mono hbf.size)
   clear hb
   by_cases hc0 : c1 = 0
   case pos =>
    subst hc0
    obtain rfl : k = 1 := by rw [HK.out]; unfold vpk; rw [if_neg h63, if_neg h58]; (try rw [if_pos HC1.out.symm]); (try rw [HQ.out])
    obtain rfl : n = qtext q := by rw [HN.out]; unfold vpn; rw [if_neg h63, if_neg h58]; (try rw [if_pos HC1.out.symm]); (try rw [HQ.out])
    obtain rfl : g = [] := by rw [HG.out]; unfold vpcat; rw [if_neg h63, if_neg h58]; (try rw [if_pos HC1.out.symm]); (try rw [HQ.out])
    obtain rfl : d = 0 := by rw [HD.out]; unfold vpc; rw [if_neg h63, if_neg h58]; (try rw [if_pos HC1.out.symm]); (try rw [HQ.out])
    have ea0 := hba.c0
    have ea1 := hba.c1
    have ea2 := hba.c2
    go_wp2_with fail
    refine (vof_t _ q (qtext q) _ ha hqb (Lib.hid rfl)).mono ?_
    rintro e w4 ⟨rfl, hb⟩
    clear ea0 ea1 ea2
    replace hbr := hbr.kept hb
    replace hba := hba.kept hb
    replace hax := hax.below hb
    replace hay := hay.below hb
    replace ha := ha.below hb
    replace hbf := hbf.trans (hb.mono hbf.size)
    clear hb
    have er0 := hbr.c0
    have fr0 := hbr.f0
    have er1 := hbr.c1
    have fr1 := hbr.f1
    have er2 := hbr.c2
    have fr2 := hbr.f2
    go_wp2_with fail
    exact end_vc rfl rfl rfl rfl hbr (show w.heap.size ≤ pr by have := HP.out; omega) hbf
   case neg =>
    have hcb : (c1 == 0) = false := by rw [beq_eq_false_iff_ne]; exact hc0
    have hcb2 : (c1 != 0) = true := by simp [bne, hcb]
    have HQN : Hid (¬ qcode s = 0) := Lib.hid (by rw [← HC1.out]; exact hc0)
    obtain ⟨p, hp⟩ : ∃ q, q = litVal s := ⟨_, rfl⟩
    obtain ⟨c2, hc2⟩ : ∃ c, c = litCode s := ⟨_, rfl⟩
    have hpb : QB p 100000 := by rw [hp]; exact (QB.lit s).mono (by decide)
    have HP9 := Lib.hid hp
    have HC2 := Lib.hid hc2
    clear hp hc2
    go_wp2_with fail
    refine (lparse_q9 s p c2 _ HP9 HC2 (hs2.out HQN.out)).mono ?_
    rintro e w4 hq9
    obtain ⟨zB, zxO, zxL, zxC, zyO, zyL, zyC, rfl, hS, hzx, hzy, hz, hb⟩ := hq9.out
    have HzS := Lib.hid hS; clear hS
    replace hbr := hbr.kept hb
    replace hba := hba.kept hb
    replace hax := hax.below hb
    replace hay := hay.below hb
    replace ha := ha.below hb
    replace hbf := hbf.trans (hb.mono hbf.size)
    clear hb
    clear hcb hcb2
    have ea0 := hba.c0
    have fa0 := hba.f0
    have ea1 := hba.c1
    have fa1 := hba.f1
    have ea2 := hba.c2
    have fa2 := hba.f2
    go_upto_region 11 with fail
    clear ea0 fa0 ea1 fa1 ea2 fa2
    obtain ⟨w5, hwE⟩ : ∃ W, W = ((w4.setCell ⟨pa, 0, none⟩ (Value.bool zB)).setCell ⟨pa, 1, none⟩ (Value.slice zxO zxL zxC)).setCell ⟨pa, 2, none⟩ (Value.slice zyO zyL zyC) := ⟨_, rfl⟩
    rw [← hwE]
    replace hax := hax.set3 (u0 := (Value.bool zB)) (u1 := (Value.slice zxO zxL zxC)) (u2 := (Value.slice zyO zyL zyC)) hba; rw [← hwE] at hax
    replace hay := hay.set3 (u0 := (Value.bool zB)) (u1 := (Value.slice zxO zxL zxC)) (u2 := (Value.slice zyO zyL zyC)) hba; rw [← hwE] at hay
    replace ha := ha.set3 (u0 := (Value.bool zB)) (u1 := (Value.slice zxO zxL zxC)) (u2 := (Value.slice zyO zyL zyC)) hba; rw [← hwE] at ha
    replace hzx := hzx.set3 (u0 := (Value.bool zB)) (u1 := (Value.slice zxO zxL zxC)) (u2 := (Value.slice zyO zyL zyC)) hba; rw [← hwE] at hzx
    replace hzy := hzy.set3 (u0 := (Value.bool zB)) (u1 := (Value.slice zxO zxL zxC)) (u2 := (Value.slice zyO zyL zyC)) hba; rw [← hwE] at hzy
    replace hz := hz.set3 (u0 := (Value.bool zB)) (u1 := (Value.slice zxO zxL zxC)) (u2 := (Value.slice zyO zyL zyC)) hba; rw [← hwE] at hz
    replace hbr := hbr.set3o (u0 := (Value.bool zB)) (u1 := (Value.slice zxO zxL zxC)) (u2 := (Value.slice zyO zyL zyC)) (show pr ≠ pa by have := HP.out; omega); rw [← hwE] at hbr
    replace hbf := below_set3 (u0 := (Value.bool zB)) (u1 := (Value.slice zxO zxL zxC)) (u2 := (Value.slice zyO zyL zyC)) hbf (show w.heap.size ≤ pa by have := HP.out; omega); rw [← hwE] at hbf
    replace hba := hba.set3 (u0 := (Value.bool zB)) (u1 := (Value.slice zxO zxL zxC)) (u2 := (Value.slice zyO zyL zyC)); rw [← hwE] at hba; clear hwE
    by_cases hd0 : ¬ c2 = 0
    case pos =>
     have hcc1 : (c2 == 0) = false := by rw [beq_eq_false_iff_ne]; exact hd0
     have hcc2 : (c2 != 0) = true := by simp [bne, hcc1]
     obtain rfl : k = 0 := by rw [HK.out]; unfold vpk; rw [if_neg h63, if_neg h58]; (try rw [if_neg HQN.out]); (try rw [if_neg (by rw [← HC2.out]; exact hd0)]); (try exact HC2.out.symm)
     obtain rfl : n = [] := by rw [HN.out]; unfold vpn; rw [if_neg h63, if_neg h58]; (try rw [if_neg HQN.out]); (try rw [if_neg (by rw [← HC2.out]; exact hd0)]); (try exact HC2.out.symm)
     obtain rfl : g = [] := by rw [HG.out]; unfold vpcat; rw [if_neg h63, if_neg h58]; (try rw [if_neg HQN.out]); (try rw [if_neg (by rw [← HC2.out]; exact hd0)]); (try exact HC2.out.symm)
     obtain rfl : d = c2 := by rw [HD.out]; unfold vpc; rw [if_neg h63, if_neg h58]; (try rw [if_neg HQN.out]); (try rw [if_neg (by rw [← HC2.out]; exact hd0)]); (try exact HC2.out.symm)
     have er0 := hbr.c0
     have fr0 := hbr.f0
     have er1 := hbr.c1
     have fr1 := hbr.f1
     have er2 := hbr.c2
     have fr2 := hbr.f2
     go_wp2_with fail
     exact end_vc rfl rfl rfl rfl hbr (show w.heap.size ≤ pr by have := HP.out; omega) hbf
    case neg =>
     obtain rfl : c2 = 0 := by omega
     clear hd0
     obtain rfl : k = 1 := by rw [HK.out]; unfold vpk; rw [if_neg h63, if_neg h58]; (try rw [if_neg HQN.out]); (try rw [if_pos HC2.out.symm]); (try rw [HP9.out]); (try exact HC2.out.symm)
     obtain rfl : n = qtext p := by rw [HN.out]; unfold vpn; rw [if_neg h63, if_neg h58]; (try rw [if_neg HQN.out]); (try rw [if_pos HC2.out.symm]); (try rw [HP9.out]); (try exact HC2.out.symm)
     obtain rfl : g = [] := by rw [HG.out]; unfold vpcat; rw [if_neg h63, if_neg h58]; (try rw [if_neg HQN.out]); (try rw [if_pos HC2.out.symm]); (try rw [HP9.out]); (try exact HC2.out.symm)
     obtain rfl : d = 0 := by rw [HD.out]; unfold vpc; rw [if_neg h63, if_neg h58]; (try rw [if_neg HQN.out]); (try rw [if_pos HC2.out.symm]); (try rw [HP9.out]); (try exact HC2.out.symm)
     have ea0 := hba.c0
     have ea1 := hba.c1
     have ea2 := hba.c2
     go_wp2_with fail
     refine (vof_t _ p (qtext p) _ hz hpb (Lib.hid rfl)).mono ?_
     rintro e w6 ⟨rfl, hb⟩
     clear ea0 ea1 ea2
     replace hbr := hbr.kept hb
     replace hba := hba.kept hb
     replace hax := hax.below hb
     replace hay := hay.below hb
     replace ha := ha.below hb
     replace hzx := hzx.below hb
     replace hzy := hzy.below hb
     replace hz := hz.below hb
     replace hbf := hbf.trans (hb.mono hbf.size)
     clear hb
     have er0 := hbr.c0
     have fr0 := hbr.f0
     have er1 := hbr.c1
     have fr1 := hbr.f1
     have er2 := hbr.c2
     have fr2 := hbr.f2
     go_wp2_with fail
     exact end_vc rfl rfl rfl rfl hbr (show w.heap.size ≤ pr by have := HP.out; omega) hbf
end Go.Proofs.YtcpfanpcdkoiaaaGreatDoor
