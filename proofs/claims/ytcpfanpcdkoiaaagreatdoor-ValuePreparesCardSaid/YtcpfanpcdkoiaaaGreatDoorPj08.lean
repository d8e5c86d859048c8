/-
  Pj08: HeapQ SeqF RatA RatB (what is needed of them).
-/
import Derived.Test.YtcpfanpcdkoiaaaGreatDoorPj06
import Derived.Test.YtcpfanpcdkoiaaaGreatDoorPj07
import Derived.OwnWalkIn
set_option maxRecDepth 100000
set_option linter.unusedVariables false
set_option linter.unusedSimpArgs false

namespace Go.Proofs.YtcpfanpcdkoiaaaGreatDoor
open Go.RowKit


structure Box3 (w : World) (b : Nat) (x y z : Value) : Prop where
 c0 : w.cell? ⟨b, 0, none⟩ = some x
 c1 : w.cell? ⟨b, 1, none⟩ = some y
 c2 : w.cell? ⟨b, 2, none⟩ = some z
 f0 : w.frozen? ⟨b, 0, none⟩ = false
 f1 : w.frozen? ⟨b, 1, none⟩ = false
 f2 : w.frozen? ⟨b, 2, none⟩ = false
theorem Box3.lt {w : World} {b : Nat} {x y z : Value} (h : Box3 w b x y z) : b < w.heap.size := World.block_lt_of_cell? w ⟨b, 0, none⟩ h.c0
theorem Box3.below {w w' : World} {b B : Nat} {x y z : Value} (h : Box3 w b x y z) (hb : Below B w w') (hlt : b < B) : Box3 w' b x y z :=
 ⟨(hb.cell (p := ⟨b, 0, none⟩) hlt).trans h.c0, (hb.cell (p := ⟨b, 1, none⟩) hlt).trans h.c1, (hb.cell (p := ⟨b, 2, none⟩) hlt).trans h.c2,
  (hb.frozen (p := ⟨b, 0, none⟩) hlt).trans h.f0, (hb.frozen (p := ⟨b, 1, none⟩) hlt).trans h.f1, (hb.frozen (p := ⟨b, 2, none⟩) hlt).trans h.f2⟩
theorem Box3.kept {w w' : World} {b : Nat} {x y z : Value} (h : Box3 w b x y z) (hb : Below w.heap.size w w') : Box3 w' b x y z := h.below hb h.lt
def den0 (q : Rat) : Nat := if q = 0 then 0 else q.den
def QIs (w : World) (v : Value) (q : Rat) : Prop := ∃ xo xl xc yo yl yc, v = .agg #[.bool (decide (q < 0)), .slice xo xl xc, .slice yo yl yc] ∧ NatIs w (.agg #[.slice xo xl xc]) q.num.natAbs ∧ NatIs w (.agg #[.slice yo yl yc]) (den0 q)
theorem QIs.below {w w' : World} {v : Value} {q : Rat} (h : QIs w v q) (hb : Below w.heap.size w w') : QIs w' v q := by
 obtain ⟨xo, xl, xc, yo, yl, yc, h1, h2, h3⟩ := h
 exact ⟨xo, xl, xc, yo, yl, yc, h1, h2.below hb, h3.below hb⟩
theorem QIs.mk {w : World} {x y : Value} {q : Rat} {s : Bool} (hs : s = decide (q < 0)) (h2 : NatIs w (.agg #[x]) q.num.natAbs) (h3 : NatIs w (.agg #[y]) (den0 q)) : QIs w (.agg #[.bool s, x, y]) q := by
 obtain ⟨ao, ca, h8, _⟩ := h2.open
 obtain ⟨bo, cb, h9, _⟩ := h3.open
 cases h8
 cases h9
 subst hs
 exact ⟨_, _, _, _, _, _, rfl, h2, h3⟩
theorem QIs.zero (w : World) : QIs w (.agg #[.bool false, .slice none 0 0, .slice none 0 0]) 0 := QIs.mk (by decide) (NatIs.zero w) (NatIs.zero w)
def RQIs (w : World) (v : Value) (q : Rat) : Prop := ∃ xo xl xc yo yl yc, v = .agg #[.bool (decide (q < 0)), .slice xo xl xc, .slice yo yl yc] ∧ RIs w (.slice xo xl xc) q.num.natAbs ∧ RIs w (.slice yo yl yc) q.den
theorem RQIs.below {w w' : World} {v : Value} {q : Rat} (h : RQIs w v q) (hb : Below w.heap.size w w') : RQIs w' v q := by
 obtain ⟨xo, xl, xc, yo, yl, yc, h1, h2, h3⟩ := h
 exact ⟨xo, xl, xc, yo, yl, yc, h1, h2.below hb, h3.below hb⟩
theorem load_rat {w : World} {b : Nat} {x y z : Value} (h : Box3 w b x y z) : (loadVar 113 ⟨b, 0, none⟩).run Tryz.prog w = .ok (.agg #[x, y, z]) w := by
 have h0 := h.c0
 have h1 := h.c1
 have h2 := h.c2
 simp [go_sem, h0, h1, h2]
theorem ret_rat {fn : Func} {s : Nat} {R : Ending → World → Prop} {a : Act} {w : World} {b : Nat} {x y z : Value} (hres : fn.results = #[.cell s 113]) (hp : a.tmps.getD s undef = .pointer (some ⟨b, 0, none⟩)) (hc : Box3 w b x y z) (hd : a.defers = []) (hR : R (.returned (.agg #[x, y, z])) w) : bodyPost Tryz.prog fn R .ret a w := by
 refine bodyPost_ret (v := .agg #[x, y, z]) ?_ hd hR
 have hp' : a.tmps[s]?.getD undef = .pointer (some ⟨b, 0, none⟩) := by simpa using hp
 simp only [results, hres]
 simp [Sem.run_bind, Sem.run_pure, Result.andThen, hp', asAddr, load_rat hc]
theorem ret_rat_tmp {fn : Func} {s t : Nat} {R : Ending → World → Prop} {a : Act} {w : World} {b : Nat} {x y z u : Value} (hres : fn.results = #[.cell s 113, .tmp t]) (hp : a.tmps.getD s undef = .pointer (some ⟨b, 0, none⟩)) (hu : a.tmps.getD t undef = u) (hc : Box3 w b x y z) (hd : a.defers = []) (hR : R (.returned (.tuple #[.agg #[x, y, z], u])) w) : bodyPost Tryz.prog fn R .ret a w := by
 refine bodyPost_ret (v := .tuple #[.agg #[x, y, z], u]) ?_ hd hR
 rw [results_cell_tmp hres, hp, hu]
 simp [asAddr, load_rat hc]
theorem Box3.set0 {w : World} {b : Nat} {x y z : Value} (h : Box3 w b x y z) (u : Value) : Box3 (w.setCell ⟨b, 0, none⟩ u) b u y z := by
 have e0 := h.c0
 have e1 := h.c1
 have e2 := h.c2
 have g0 := h.f0
 have g1 := h.f1
 have g2 := h.f2
 exact ⟨by go_simp, by go_simp, by go_simp, by go_simp, by go_simp, by go_simp⟩
theorem Box3.set1 {w : World} {b : Nat} {x y z : Value} (h : Box3 w b x y z) (u : Value) : Box3 (w.setCell ⟨b, 1, none⟩ u) b x u z := by
 have e0 := h.c0
 have e1 := h.c1
 have e2 := h.c2
 have g0 := h.f0
 have g1 := h.f1
 have g2 := h.f2
 exact ⟨by go_simp, by go_simp, by go_simp, by go_simp, by go_simp, by go_simp⟩
theorem Box3.set2 {w : World} {b : Nat} {x y z : Value} (h : Box3 w b x y z) (u : Value) : Box3 (w.setCell ⟨b, 2, none⟩ u) b x y u := by
 have e0 := h.c0
 have e1 := h.c1
 have e2 := h.c2
 have g0 := h.f0
 have g1 := h.f1
 have g2 := h.f2
 exact ⟨by go_simp, by go_simp, by go_simp, by go_simp, by go_simp, by go_simp⟩
theorem Box3.setOther {w : World} {b g : Nat} {x y z : Value} (h : Box3 w b x y z) (hne : b ≠ g) (j : Nat) (u : Value) : Box3 (w.setCell ⟨g, j, none⟩ u) b x y z := by
 have hg : (w.setCell ⟨g, j, none⟩ u).heap[b]? = w.heap[b]? := (grownBy_set (grownBy_refl w (some g)) j u).block b h.lt (by simpa using hne)
 exact ⟨(World.cell?_of_block (w := w) (a := ⟨b, 0, none⟩) hg).trans h.c0, (World.cell?_of_block (w := w) (a := ⟨b, 1, none⟩) hg).trans h.c1, (World.cell?_of_block (w := w) (a := ⟨b, 2, none⟩) hg).trans h.c2,
  (World.frozen?_of_block (w := w) (a := ⟨b, 0, none⟩) hg).trans h.f0, (World.frozen?_of_block (w := w) (a := ⟨b, 1, none⟩) hg).trans h.f1, (World.frozen?_of_block (w := w) (a := ⟨b, 2, none⟩) hg).trans h.f2⟩
theorem NatIs.form {w : World} {v : Value} {n : Nat} (h : NatIs w v n) : ∃ o l c, v = .agg #[.slice o l c] := by
 obtain ⟨ao, ca, rfl, _⟩ := h.open
 exact ⟨_, _, _, rfl⟩
theorem RIs.form {w : World} {v : Value} {n : Nat} (h : RIs w v n) : ∃ o l c, v = .slice o l c := by
 obtain ⟨ao, ca, rfl, _⟩ := h.open
 exact ⟨_, _, _, rfl⟩
theorem NatIs.setS {w : World} {v u : Value} {n p l c : Nat} {o : Option Addr} (h : NatIs w v n) (hb : Box w p (.slice o l c)) : NatIs (w.setCell ⟨p, 0, none⟩ u) v n := h.set _ _ (fun n e => by rw [hb.cell] at e; cases e)
theorem QIs.form {w : World} {v : Value} {q : Rat} (h : QIs w v q) : ∃ s xo xl xc yo yl yc, v = .agg #[.bool s, .slice xo xl xc, .slice yo yl yc] ∧ s = decide (q < 0) ∧ NatIs w (.agg #[.slice xo xl xc]) q.num.natAbs ∧ NatIs w (.agg #[.slice yo yl yc]) (den0 q) := by
 obtain ⟨xo, xl, xc, yo, yl, yc, h1, h2, h3⟩ := h
 exact ⟨_, xo, xl, xc, yo, yl, yc, h1, rfl, h2, h3⟩
theorem RQIs.form {w : World} {v : Value} {q : Rat} (h : RQIs w v q) : ∃ s xo xl xc yo yl yc, v = .agg #[.bool s, .slice xo xl xc, .slice yo yl yc] ∧ s = decide (q < 0) ∧ RIs w (.slice xo xl xc) q.num.natAbs ∧ RIs w (.slice yo yl yc) q.den := by
 obtain ⟨xo, xl, xc, yo, yl, yc, h1, h2, h3⟩ := h
 exact ⟨_, xo, xl, xc, yo, yl, yc, h1, rfl, h2, h3⟩
theorem RQIs.mk {w : World} {x y : Value} {q : Rat} {s : Bool} (hs : s = decide (q < 0)) (h2 : RIs w x q.num.natAbs) (h3 : RIs w y q.den) : RQIs w (.agg #[.bool s, x, y]) q := by
 obtain ⟨ao, ca, rfl, _⟩ := h2.open
 obtain ⟨bo, cb, rfl, _⟩ := h3.open
 subst hs
 exact ⟨_, _, _, _, _, _, rfl, h2, h3⟩
theorem RIs.set {w : World} {v : Value} {n : Nat} (h : RIs w v n) (p : Addr) (u : Value) (hp : ∀ n, w.cell? p ≠ some (.int .i64 n)) : RIs (w.setCell p u) v n := Ints.set h p u hp
theorem RIs.setS {w : World} {v u : Value} {n p l c : Nat} {o : Option Addr} (h : RIs w v n) (hb : Box w p (.slice o l c)) : RIs (w.setCell ⟨p, 0, none⟩ u) v n := h.set _ _ (fun n e => by rw [hb.cell] at e; cases e)
section
variable {w : World} {b : Nat} {s0 : Bool} {o1 o2 : Option Addr} {l1 l2 c1 c2 : Nat} {u0 u1 u2 : Value}
theorem NatIs.set3 {v : Value} {n : Nat} (h : NatIs w v n) (hb : Box3 w b (.bool s0) (.slice o1 l1 c1) (.slice o2 l2 c2)) : NatIs (((w.setCell ⟨b, 0, none⟩ u0).setCell ⟨b, 1, none⟩ u1).setCell ⟨b, 2, none⟩ u2) v n := by
 have e1 := (hb.set0 u0).c1
 have e2 := ((hb.set0 u0).set1 u1).c2
 exact ((h.set _ _ (fun n e => by rw [hb.c0] at e; cases e)).set _ _ (fun n e => by rw [e1] at e; cases e)).set _ _ (fun n e => by rw [e2] at e; cases e)
theorem RIs.set3 {v : Value} {n : Nat} (h : RIs w v n) (hb : Box3 w b (.bool s0) (.slice o1 l1 c1) (.slice o2 l2 c2)) : RIs (((w.setCell ⟨b, 0, none⟩ u0).setCell ⟨b, 1, none⟩ u1).setCell ⟨b, 2, none⟩ u2) v n := by
 have e1 := (hb.set0 u0).c1
 have e2 := ((hb.set0 u0).set1 u1).c2
 exact ((h.set _ _ (fun n e => by rw [hb.c0] at e; cases e)).set _ _ (fun n e => by rw [e1] at e; cases e)).set _ _ (fun n e => by rw [e2] at e; cases e)
theorem QIs.set3 {v : Value} {q : Rat} (h : QIs w v q) (hb : Box3 w b (.bool s0) (.slice o1 l1 c1) (.slice o2 l2 c2)) : QIs (((w.setCell ⟨b, 0, none⟩ u0).setCell ⟨b, 1, none⟩ u1).setCell ⟨b, 2, none⟩ u2) v q := by
 obtain ⟨s, xo, xl, xc, yo, yl, yc, rfl, h1, h2, h3⟩ := h.form
 exact QIs.mk h1 (h2.set3 hb) (h3.set3 hb)
theorem RQIs.set3 {v : Value} {q : Rat} (h : RQIs w v q) (hb : Box3 w b (.bool s0) (.slice o1 l1 c1) (.slice o2 l2 c2)) : RQIs (((w.setCell ⟨b, 0, none⟩ u0).setCell ⟨b, 1, none⟩ u1).setCell ⟨b, 2, none⟩ u2) v q := by
 obtain ⟨s, xo, xl, xc, yo, yl, yc, rfl, h1, h2, h3⟩ := h.form
 exact RQIs.mk h1 (h2.set3 hb) (h3.set3 hb)
theorem QIs.setS {v u : Value} {q : Rat} {p l c : Nat} {o : Option Addr} (h : QIs w v q) (hb : Box w p (.slice o l c)) : QIs (w.setCell ⟨p, 0, none⟩ u) v q := by
 obtain ⟨s, xo, xl, xc, yo, yl, yc, rfl, h1, h2, h3⟩ := h.form
 exact QIs.mk h1 (h2.setS hb) (h3.setS hb)
theorem RQIs.setS {v u : Value} {q : Rat} {p l c : Nat} {o : Option Addr} (h : RQIs w v q) (hb : Box w p (.slice o l c)) : RQIs (w.setCell ⟨p, 0, none⟩ u) v q := by
 obtain ⟨s, xo, xl, xc, yo, yl, yc, rfl, h1, h2, h3⟩ := h.form
 exact RQIs.mk h1 (h2.setS hb) (h3.setS hb)
theorem Box.set3 {g : Nat} {v : Value} (h : Box w g v) (hne : g ≠ b) : Box (((w.setCell ⟨b, 0, none⟩ u0).setCell ⟨b, 1, none⟩ u1).setCell ⟨b, 2, none⟩ u2) g v := ((h.setOther hne 0 u0).setOther hne 1 u1).setOther hne 2 u2
theorem Box3.set3o {g : Nat} {x y z : Value} (h : Box3 w g x y z) (hne : g ≠ b) : Box3 (((w.setCell ⟨b, 0, none⟩ u0).setCell ⟨b, 1, none⟩ u1).setCell ⟨b, 2, none⟩ u2) g x y z := ((h.setOther hne 0 u0).setOther hne 1 u1).setOther hne 2 u2
theorem Box3.set3 {x y z : Value} (h : Box3 w b x y z) : Box3 (((w.setCell ⟨b, 0, none⟩ u0).setCell ⟨b, 1, none⟩ u1).setCell ⟨b, 2, none⟩ u2) b u0 u1 u2 := ((h.set0 u0).set1 u1).set2 u2
theorem below_set3 {B : Nat} {w0 : World} (h : Below B w0 w) (hb : B ≤ b) : Below B w0 (((w.setCell ⟨b, 0, none⟩ u0).setCell ⟨b, 1, none⟩ u1).setCell ⟨b, 2, none⟩ u2) :=
 ((h.setCell (p := ⟨b, 0, none⟩) hb _).setCell (p := ⟨b, 1, none⟩) hb _).setCell (p := ⟨b, 2, none⟩) hb _
end
theorem Box3.drew {w : World} {b : Nat} {x y z : Value} (h : Box3 w b x y z) : Box3 w.drew b x y z := ⟨h.c0, h.c1, h.c2, h.f0, h.f1, h.f2⟩
def QPost (w : World) (q : Rat) (e : Ending) (w' : World) : Prop := ∃ r, e = .returned r ∧ QIs w' r q ∧ Below w.heap.size w w'
def QPostC (w : World) (q : Rat) (c : Int) (e : Ending) (w' : World) : Prop := ∃ r, e = .returned (.tuple #[r, .int .i64 c]) ∧ QIs w' r q ∧ Below w.heap.size w w'
def RQPost (w : World) (q : Rat) (e : Ending) (w' : World) : Prop := ∃ r, e = .returned r ∧ RQIs w' r q ∧ Below w.heap.size w w'
theorem QPost.out {w w' : World} {q : Rat} {e : Ending} (h : QPost w q e w') : ∃ s xo xl xc yo yl yc, e = .returned (.agg #[.bool s, .slice xo xl xc, .slice yo yl yc]) ∧ s = decide (q < 0) ∧ NatIs w' (.agg #[.slice xo xl xc]) q.num.natAbs ∧ NatIs w' (.agg #[.slice yo yl yc]) (den0 q) ∧ QIs w' (.agg #[.bool s, .slice xo xl xc, .slice yo yl yc]) q ∧ Below w.heap.size w w' := by
 obtain ⟨r, rfl, hq, hb⟩ := h
 obtain ⟨s, xo, xl, xc, yo, yl, yc, rfl, h1, h2, h3⟩ := hq.form
 exact ⟨_, _, _, _, _, _, _, rfl, h1, h2, h3, hq, hb⟩
theorem RQPost.out {w w' : World} {q : Rat} {e : Ending} (h : RQPost w q e w') : ∃ s xo xl xc yo yl yc, e = .returned (.agg #[.bool s, .slice xo xl xc, .slice yo yl yc]) ∧ s = decide (q < 0) ∧ RIs w' (.slice xo xl xc) q.num.natAbs ∧ RIs w' (.slice yo yl yc) q.den ∧ RQIs w' (.agg #[.bool s, .slice xo xl xc, .slice yo yl yc]) q ∧ Below w.heap.size w w' := by
 obtain ⟨r, rfl, hq, hb⟩ := h
 obtain ⟨s, xo, xl, xc, yo, yl, yc, rfl, h1, h2, h3⟩ := hq.form
 exact ⟨_, _, _, _, _, _, _, rfl, h1, h2, h3, hq, hb⟩
section
variable {fn : Func} {s : Nat} {act : Act} {w w9 : World} {b : Nat} {s0 : Bool} {o1 o2 : Option Addr} {l1 l2 c1 c2 : Nat} {u0 u1 u2 : Value} {q : Rat}
theorem end_q (hres : fn.results = #[.cell s 113]) (hp : act.tmps.getD s undef = .pointer (some ⟨b, 0, none⟩)) (hd : act.defers = []) (hb : Box3 w9 b (.bool s0) (.slice o1 l1 c1) (.slice o2 l2 c2)) (hge : w.heap.size ≤ b) (hq : QIs w9 (.agg #[u0, u1, u2]) q) (hB : Below w.heap.size w w9) :
  bodyPost Tryz.prog fn (QPost w q) .ret act (((w9.setCell ⟨b, 0, none⟩ u0).setCell ⟨b, 1, none⟩ u1).setCell ⟨b, 2, none⟩ u2) :=
 ret_rat hres hp hb.set3 hd ⟨_, rfl, hq.set3 hb, below_set3 hB hge⟩
theorem end_qc {t : Nat} {c : Int} (hres : fn.results = #[.cell s 113, .tmp t]) (hp : act.tmps.getD s undef = .pointer (some ⟨b, 0, none⟩)) (hu : act.tmps.getD t undef = .int .i64 c) (hd : act.defers = []) (hb : Box3 w9 b (.bool s0) (.slice o1 l1 c1) (.slice o2 l2 c2)) (hge : w.heap.size ≤ b) (hq : QIs w9 (.agg #[u0, u1, u2]) q) (hB : Below w.heap.size w w9) :
  bodyPost Tryz.prog fn (QPostC w q c) .ret act (((w9.setCell ⟨b, 0, none⟩ u0).setCell ⟨b, 1, none⟩ u1).setCell ⟨b, 2, none⟩ u2) :=
 ret_rat_tmp hres hp hu hb.set3 hd ⟨_, rfl, hq.set3 hb, below_set3 hB hge⟩
end
theorem QIs.made {w : World} {x y : Value} {n d : Nat} {neg : Bool} (hn : 0 < n) (hd : 0 < d) (hx : NatIs w (.agg #[x]) (n / Nat.gcd n d)) (hy : NatIs w (.agg #[y]) (d / Nat.gcd n d)) : QIs w (.agg #[.bool neg, x, y]) (qOf neg n d) :=
 QIs.mk (qOf_neg hn hd).symm (by rw [qOf_num hd, sg_natAbs]; exact hx) (by unfold den0; rw [if_neg (qOf_eq_zero hn hd), qOf_den hd]; exact hy)
theorem load_rrat {w : World} {b : Nat} {x y z : Value} (h : Box3 w b x y z) : (loadVar 98 ⟨b, 0, none⟩).run Tryz.prog w = .ok (.agg #[x, y, z]) w := by
 have h0 := h.c0
 have h1 := h.c1
 have h2 := h.c2
 simp [go_sem, h0, h1, h2]
theorem ret_rrat {fn : Func} {s : Nat} {R : Ending → World → Prop} {a : Act} {w : World} {b : Nat} {x y z : Value} (hres : fn.results = #[.cell s 98]) (hp : a.tmps.getD s undef = .pointer (some ⟨b, 0, none⟩)) (hc : Box3 w b x y z) (hd : a.defers = []) (hR : R (.returned (.agg #[x, y, z])) w) : bodyPost Tryz.prog fn R .ret a w := by
 refine bodyPost_ret (v := .agg #[x, y, z]) ?_ hd hR
 have hp' : a.tmps[s]?.getD undef = .pointer (some ⟨b, 0, none⟩) := by simpa using hp
 simp only [results, hres]
 simp [Sem.run_bind, Sem.run_pure, Result.andThen, hp', asAddr, load_rrat hc]
theorem ret_rrat_tmp {fn : Func} {s t : Nat} {R : Ending → World → Prop} {a : Act} {w : World} {b : Nat} {x y z u : Value} (hres : fn.results = #[.cell s 98, .tmp t]) (hp : a.tmps.getD s undef = .pointer (some ⟨b, 0, none⟩)) (hu : a.tmps.getD t undef = u) (hc : Box3 w b x y z) (hd : a.defers = []) (hR : R (.returned (.tuple #[.agg #[x, y, z], u])) w) : bodyPost Tryz.prog fn R .ret a w := by
 refine bodyPost_ret (v := .tuple #[.agg #[x, y, z], u]) ?_ hd hR
 rw [results_cell_tmp hres, hp, hu]
 simp [asAddr, load_rrat hc]
def RQPostC (w : World) (q : Rat) (c : Int) (e : Ending) (w' : World) : Prop := ∃ r, e = .returned (.tuple #[r, .int .i64 c]) ∧ RQIs w' r q ∧ Below w.heap.size w w'
section
variable {fn : Func} {s : Nat} {act : Act} {w w9 : World} {b : Nat} {s0 : Bool} {o1 o2 : Option Addr} {l1 l2 c1 c2 : Nat} {u0 u1 u2 : Value} {q : Rat}
theorem end_r (hres : fn.results = #[.cell s 98]) (hp : act.tmps.getD s undef = .pointer (some ⟨b, 0, none⟩)) (hd : act.defers = []) (hb : Box3 w9 b (.bool s0) (.slice o1 l1 c1) (.slice o2 l2 c2)) (hge : w.heap.size ≤ b) (hq : RQIs w9 (.agg #[u0, u1, u2]) q) (hB : Below w.heap.size w w9) :
  bodyPost Tryz.prog fn (RQPost w q) .ret act (((w9.setCell ⟨b, 0, none⟩ u0).setCell ⟨b, 1, none⟩ u1).setCell ⟨b, 2, none⟩ u2) :=
 ret_rrat hres hp hb.set3 hd ⟨_, rfl, hq.set3 hb, below_set3 hB hge⟩
theorem end_rc {t : Nat} {c : Int} (hres : fn.results = #[.cell s 98, .tmp t]) (hp : act.tmps.getD s undef = .pointer (some ⟨b, 0, none⟩)) (hu : act.tmps.getD t undef = .int .i64 c) (hd : act.defers = []) (hb : Box3 w9 b (.bool s0) (.slice o1 l1 c1) (.slice o2 l2 c2)) (hge : w.heap.size ≤ b) (hq : RQIs w9 (.agg #[u0, u1, u2]) q) (hB : Below w.heap.size w w9) :
  bodyPost Tryz.prog fn (RQPostC w q c) .ret act (((w9.setCell ⟨b, 0, none⟩ u0).setCell ⟨b, 1, none⟩ u1).setCell ⟨b, 2, none⟩ u2) :=
 ret_rrat_tmp hres hp hu hb.set3 hd ⟨_, rfl, hq.set3 hb, below_set3 hB hge⟩
end
theorem RQIs.made {w : World} {x y : Value} {n d : Nat} {neg s : Bool} (hd : 0 < d) (hs : s = (neg && decide (0 < n))) (hx : RIs w x (n / Nat.gcd n d)) (hy : RIs w y (d / Nat.gcd n d)) : RQIs w (.agg #[.bool s, x, y]) (qOf neg n d) := by
 refine RQIs.mk ?_ (by rw [qOf_num hd, sg_natAbs]; exact hx) (by rw [qOf_den hd]; exact hy)
 rw [hs]
 rcases Nat.eq_zero_or_pos n with h | h
 ·subst h
  rw [qOf_zero]
  cases neg <;> decide
 ·rw [qOf_neg h hd, decide_eq_true h]; simp
theorem RQIs.zero {w : World} {y : Value} (hy : RIs w y 1) : RQIs w (.agg #[.bool false, .slice none 0 0, y]) 0 := RQIs.mk (by decide) (RIs.nil w) hy
theorem QPostC.out {w w' : World} {q : Rat} {c : Int} {e : Ending} (h : QPostC w q c e w') : ∃ s xo xl xc yo yl yc, e = .returned (.tuple #[.agg #[.bool s, .slice xo xl xc, .slice yo yl yc], .int .i64 c]) ∧ s = decide (q < 0) ∧ NatIs w' (.agg #[.slice xo xl xc]) q.num.natAbs ∧ NatIs w' (.agg #[.slice yo yl yc]) (den0 q) ∧ QIs w' (.agg #[.bool s, .slice xo xl xc, .slice yo yl yc]) q ∧ Below w.heap.size w w' := by
 obtain ⟨r, rfl, hq, hb⟩ := h
 obtain ⟨s, xo, xl, xc, yo, yl, yc, rfl, h1, h2, h3⟩ := hq.form
 exact ⟨_, _, _, _, _, _, _, rfl, h1, h2, h3, hq, hb⟩
theorem RQPostC.out {w w' : World} {q : Rat} {c : Int} {e : Ending} (h : RQPostC w q c e w') : ∃ s xo xl xc yo yl yc, e = .returned (.tuple #[.agg #[.bool s, .slice xo xl xc, .slice yo yl yc], .int .i64 c]) ∧ s = decide (q < 0) ∧ RIs w' (.slice xo xl xc) q.num.natAbs ∧ RIs w' (.slice yo yl yc) q.den ∧ RQIs w' (.agg #[.bool s, .slice xo xl xc, .slice yo yl yc]) q ∧ Below w.heap.size w w' := by
 obtain ⟨r, rfl, hq, hb⟩ := h
 obtain ⟨s, xo, xl, xc, yo, yl, yc, rfl, h1, h2, h3⟩ := hq.form
 exact ⟨_, _, _, _, _, _, _, rfl, h1, h2, h3, hq, hb⟩
end Go.Proofs.YtcpfanpcdkoiaaaGreatDoor

namespace Go.Proofs.YtcpfanpcdkoiaaaGreatDoor
open Go.RowKit

structure Fl where
 i : Nat
 d : Nat
 z : Obj
structure Same (D : List Nat) (a a' : Act) : Prop where
 defers : a'.defers = a.defers
 size : a'.tmps.size = a.tmps.size
 slot : ∀ s, s ∉ D → a'.tmps[s]? = a.tmps[s]?
theorem Same.refl (D : List Nat) (a : Act) : Same D a a := ⟨rfl, rfl, fun _ _ => rfl⟩
theorem Same.put {D : List Nat} {a a' : Act} (h : Same D a a') (d : Option Tmp) (v : Value) : Same D (a.put d v) (a'.put d v) := by
 cases d with
 | none => exact h
 | some d =>
  refine ⟨h.defers, by simp [Act.put, h.size], fun s hs => ?_⟩
  simp only [Act.put, Array.getElem?_setIfInBounds, h.size]
  split
  ·rfl
  ·exact h.slot s hs
theorem Act.ext' {a b : Act} (h : a.tmps = b.tmps) (hd : a.defers = b.defers) : a = b := by
 cases a; cases b; cases h; cases hd; rfl
theorem Same.one {d : Nat} {a a' : Act} (h : Same [d] a a') : a' = a.put (some d) (a'.tmps.getD d undef) := by
 refine Act.ext' (Array.ext_getElem? fun i => ?_) h.defers
 simp only [Act.put, Array.getElem?_setIfInBounds]
 split
 ·rename_i e
  subst e
  rw [← h.size]
  split
  ·rename_i h1; simp [h1]
  ·rename_i h1; simp [h1]
 ·rename_i e
  exact h.slot i (by simpa using fun e2 => e e2.symm)
theorem Same.two {d e : Nat} {a a' : Act} (h : Same [d, e] a a') : a' = (a.put (some d) (a'.tmps.getD d undef)).put (some e) (a'.tmps.getD e undef) := by
 refine Act.ext' (Array.ext_getElem? fun i => ?_) h.defers
 simp only [Act.put, Array.getElem?_setIfInBounds, Array.size_setIfInBounds]
 split
 ·rename_i e
  subst e
  rw [← h.size]
  split
  ·rename_i h1; simp [h1]
  ·rename_i h1; simp [h1]
 ·split
  ·rename_i e
   subst e
   rw [← h.size]
   split
   ·rename_i h1; simp [h1]
   ·rename_i h1; simp [h1]
  ·rename_i e2 e1
   exact h.slot i (by simp only [List.mem_cons, List.not_mem_nil, or_false, not_or]; exact ⟨fun e3 => e1 e3.symm, fun e3 => e2 e3.symm⟩)
def At (base : Nat) (a : Act) (w : World) (f : Fl) : Prop := ∃ g, a.tmps.getD f.d undef = .pointer (some ⟨g, 0, none⟩) ∧ base ≤ g ∧ w.heap[g]? = some f.z
section
variable {P : Program} {ops : Array Oper} {Q : Exit → Act → World → Prop} {S : World → Prop}
def wpSeqF (P : Program) (ops : Array Oper) (Q : Exit → Act → World → Prop) (S : World → Prop) (base : Nat) (fs : List Fl) (l2 : List (Bool × Nat)) : List (Bool × Oper) → Act → World → Prop
 | [], a, w => ∀ a' w', Same (fs.map (·.d)) a a' → Below w.heap.size w w' → S w' → (∀ f ∈ fs, At base a' w' f) → (∀ f ∈ fs, ∀ f' ∈ fs, f.i ≠ f'.i → a'.tmps.getD f.d undef ≠ a'.tmps.getD f'.d undef) → wpSeqH P ops Q S (pickOps ops l2) a' w'
 | (true, o) :: rest, a, w => ∃ v, (∀ a', Same (fs.map (·.d)) a a' → YieldsIf P ops S o v a') ∧ wpSeqF P ops Q S base fs l2 rest (a.put o.dst v) w
 | (false, o) :: rest, a, w => ∀ a' w', Same (fs.map (·.d)) a a' → Below w.heap.size w w' → S w' → ∀ K : Act → World → Prop, Shut (∀ v w'', S w'' → Below w'.heap.size w' w'' → wpSeqF P ops Q S base fs l2 rest (a'.put o.dst v) w'' → K (a'.put o.dst v) w'') →
   Region.wanted o (yielded ops a'.tmps) = true ∧ Oper.wp P o a' w' K Q
theorem Same.trans {D : List Nat} {a b c : Act} (h : Same D a b) (h' : Same D b c) : Same D a c :=
 ⟨h'.defers.trans h.defers, h'.size.trans h.size, fun s hs => (h'.slot s hs).trans (h.slot s hs)⟩
theorem Same.symm {D : List Nat} {a b : Act} (h : Same D a b) : Same D b a :=
 ⟨h.defers.symm, h.size.symm, fun s hs => (h.slot s hs).symm⟩
theorem wpSeqF.same {base : Nat} {fs : List Fl} {l2 : List (Bool × Nat)} : ∀ (l : List (Bool × Oper)) {a b : Act} {w w' : World}, Same (fs.map (·.d)) a b → Below w.heap.size w w' → wpSeqF P ops Q S base fs l2 l a w → wpSeqF P ops Q S base fs l2 l b w'
 | [], a, b, w, w', hs, hb, h => fun a' w'' h1 h2 h3 h4 h5 => h a' w'' (hs.trans h1) (hb.trans (h2.mono hb.size)) h3 h4 h5
 | (true, o) :: rest, a, b, w, w', hs, hb, h => by
  obtain ⟨v, hy, h⟩ := h
  exact ⟨v, fun a' h1 => hy a' (hs.trans h1), wpSeqF.same rest (hs.put _ _) hb h⟩
 | (false, o) :: rest, a, b, w, w', hs, hb, h => fun a' w'' h1 h2 h3 => h a' w'' (hs.trans h1) (hb.trans (h2.mono hb.size)) h3
def FlOk (P : Program) (ops : Array Oper) (Q : Exit → Act → World → Prop) (f : Fl) : Prop := ∃ o, ops[f.i]? = some o ∧ o.dst = some f.d ∧ (∀ t, Region.wanted o t = true) ∧
 ∀ (a : Act) (w : World) (K : Act → World → Prop), K (a.put (some f.d) (.pointer (some ⟨w.heap.size, 0, none⟩))) (w.alloc f.z) → Oper.wp P o a w K Q
theorem FlOk.alloc {i d : Nat} {z : Obj} {o : Oper} (ho : ops[i]? = some o) (hd : o.dst = some d) (hg : o.guard = none) (hr : ∀ (f : Operand → Value) (w : World), (execOp f o).run P w = .ok (.value (.pointer (some ⟨w.heap.size, 0, none⟩))) (w.alloc z)) : FlOk P ops Q ⟨i, d, z⟩ := by
 refine ⟨o, ho, hd, fun t => ?_, fun a w K hK => ?_⟩
 ·simp [Region.wanted, hg]
 ·unfold Oper.wp
  rw [hr, Oper.upon_value, hd]
  exact hK
theorem At.slot {base i d : Nat} {z : Obj} {t : Array Value} {ds : List Deferred} {w : World} {x : Value} (h : At base ⟨t, ds⟩ w ⟨i, d, z⟩) (hx : t.getD d undef = x) : ∃ g, x = .pointer (some ⟨g, 0, none⟩) ∧ base ≤ g ∧ w.heap[g]? = some z := by
 obtain ⟨g, h1, h2, h3⟩ := h
 exact ⟨g, by rw [← hx]; exact h1, h2, h3⟩
end
end Go.Proofs.YtcpfanpcdkoiaaaGreatDoor

namespace Go.Proofs.YtcpfanpcdkoiaaaGreatDoor
open Go.RowKit


attribute [local go_sem] field_nat
set_option maxHeartbeats 1000000 in
theorem lowest_any (neg : Bool) (vn vd : Value) (n d : Nat) (w : World) (hn : NatIs w vn n) (hd : NatIs w vd d) (hln : (limbs n).length ≤ 1000000) (hld : (limbs d).length ≤ 1000000) (hd0 : 0 < d) :
  Calls Tryz.prog 152 #[.bool neg, vn, vd] w (QPost w (qOf neg n d)) := by
 obtain ⟨nO, nL, nC, rfl⟩ := hn.form
 obtain ⟨dO, dL, dC, rfl⟩ := hd.form
 obtain ⟨w0, hw0⟩ : ∃ w0, w0 = (((w.alloc (.cells #[.slice nO nL nC] 111)).alloc (.cells #[.slice dO dL dC] 111)).alloc (.cells #[.bool false, .slice none 0 0, .slice none 0 0] 113)) := ⟨_, rfl⟩
 have hbf : Below w.heap.size w w0 := by rw [hw0]; exact ((((Below.refl _ w).alloc (Nat.le_refl _) _).alloc (by simp <;> omega) _).alloc (by simp <;> omega) _)
 obtain ⟨pn, hpn⟩ : ∃ p, p = w.heap.size := ⟨_, rfl⟩
 have hbn : Box w0 pn (Value.slice nO nL nC) := by rw [hw0, hpn]; exact ⟨by go_simp, by go_simp, by simp <;> omega⟩
 obtain ⟨pd, hpd⟩ : ∃ p, p = w.heap.size + 1 := ⟨_, rfl⟩
 have hbd : Box w0 pd (Value.slice dO dL dC) := by rw [hw0, hpd]; exact ⟨by go_simp, by go_simp, by simp <;> omega⟩
 obtain ⟨pr, hpr⟩ : ∃ p, p = w.heap.size + 1 + 1 := ⟨_, rfl⟩
 have hbr : Box3 w0 pr (Value.bool false) (Value.slice none 0 0) (Value.slice none 0 0) := by rw [hw0, hpr]; exact ⟨by go_simp, by go_simp, by go_simp, by go_simp, by go_simp, by go_simp⟩
 have HP : Hid (w.heap.size ≤ pn ∧ pn < pd ∧ pd < pr) := Lib.hid (by omega)
 replace hn := hn.below hbf
 replace hd := hd.below hbf
 have HW := Lib.hid hw0; clear hw0
 go_enter Tryz.func152, Tryz.ntmps152
 go_upto_region 1 with fail
 rw [← HW.out, ← hpr, ← hpd, ← hpn]
 clear hpn hpd hpr HW
 have en := hbn.cell
 go_wp2_with fail
 refine (zero_any _ n _ hn).mono ?_
 rintro e w1 ⟨rfl, hb⟩
 clear en
 replace hbn := hbn.kept hb
 replace hbd := hbd.kept hb
 replace hbr := hbr.kept hb
 replace hn := hn.below hb
 replace hd := hd.below hb
 replace hbf := hbf.trans (hb.mono hbf.size)
 clear hb
 by_cases h0 : n = 0
 case pos =>
  subst h0
  rw [decide_eq_true rfl]
  have er0 := hbr.c0
  have fr0 := hbr.f0
  have er1 := hbr.c1
  have fr1 := hbr.f1
  have er2 := hbr.c2
  have fr2 := hbr.f2
  go_wp2_with fail
  rw [qOf_zero]
  exact end_q rfl rfl rfl hbr (show w.heap.size ≤ pr by have := HP.out; omega) (QIs.zero _) hbf
 rw [decide_eq_false h0]
 have H0 : Hid (0 < n) := Lib.hid (by omega)
 have HD : Hid (0 < d) := Lib.hid hd0
 clear h0 hd0
 have en := hbn.cell
 have ed := hbd.cell
 go_wp2_with fail
 refine (gcd_any _ _ n d _ hn hd hln hld).mono ?_
 rintro e w2 ⟨r9, rfl, hg, hb⟩
 clear en ed
 replace hbn := hbn.kept hb
 replace hbd := hbd.kept hb
 replace hbr := hbr.kept hb
 replace hn := hn.below hb
 replace hd := hd.below hb
 replace hbf := hbf.trans (hb.mono hbf.size)
 clear hb
 obtain ⟨gO, gL, gC, rfl⟩ := hg.form
 obtain ⟨w3, hwE⟩ : ∃ W, W = (w2.alloc (.cells #[.slice gO gL gC] 111)) := ⟨_, rfl⟩
 have hb : Below w2.heap.size w2 w3 := by rw [hwE]; exact ((Below.refl _ w2).alloc (Nat.le_refl _) _)
 obtain ⟨pg, hpg⟩ : ∃ p, p = w2.heap.size := ⟨_, rfl⟩
 have hbg : Box w3 pg (Value.slice gO gL gC) := by rw [hwE, hpg]; exact ⟨by go_simp, by go_simp, by simp <;> omega⟩
 replace HP : Hid (w.heap.size ≤ pn ∧ pn < pd ∧ pd < pr ∧ pr < pg) := Lib.hid (by have h1 := HP.out; have h9 := hbf.size; have h2r := hbr.lt; omega)
 have HW := Lib.hid hwE; clear hwE
 go_upto_region 4 with fail
 rw [← HW.out, ← hpg]
 clear hpg HW
 replace hbn := hbn.kept hb
 replace hbd := hbd.kept hb
 replace hbr := hbr.kept hb
 replace hn := hn.below hb
 replace hd := hd.below hb
 replace hg := hg.below hb
 replace hbf := hbf.trans (hb.mono hbf.size)
 clear hb
 have hlg : (limbs (Nat.gcd n d)).length ≤ 1000000 := Nat.le_trans (limbs_length_mono (Nat.gcd_le_left _ H0.out)) hln
 have en := hbn.cell
 have eg := hbg.cell
 go_wp2_with fail
 refine (divmod_any _ _ n (Nat.gcd n d) _ hn hg hln hlg).mono ?_
 rintro e w4 ⟨r9, s9, rfl, hx, hs, hb⟩
 clear en eg
 replace hbn := hbn.kept hb
 replace hbd := hbd.kept hb
 replace hbr := hbr.kept hb
 replace hbg := hbg.kept hb
 replace hn := hn.below hb
 replace hd := hd.below hb
 replace hg := hg.below hb
 replace hbf := hbf.trans (hb.mono hbf.size)
 clear hb
 obtain ⟨xO, xL, xC, rfl⟩ := hx.form
 obtain ⟨sO, sL, sC, rfl⟩ := hs.form
 clear hs
 have en := hbn.cell
 have fn := hbn.free
 go_upto_region 5 with fail
 clear en fn
 obtain ⟨w5, hwE⟩ : ∃ W, W = w4.setCell ⟨pn, 0, none⟩ (Value.slice xO xL xC) := ⟨_, rfl⟩
 rw [← hwE]
 replace hn := hn.setS (u := (Value.slice xO xL xC)) hbn; rw [← hwE] at hn
 replace hd := hd.setS (u := (Value.slice xO xL xC)) hbn; rw [← hwE] at hd
 replace hg := hg.setS (u := (Value.slice xO xL xC)) hbn; rw [← hwE] at hg
 replace hx := hx.setS (u := (Value.slice xO xL xC)) hbn; rw [← hwE] at hx
 replace hbd := hbd.setOther (show pd ≠ pn by have := HP.out; omega) 0 (Value.slice xO xL xC); rw [← hwE] at hbd
 replace hbr := hbr.setOther (show pr ≠ pn by have := HP.out; omega) 0 (Value.slice xO xL xC); rw [← hwE] at hbr
 replace hbg := hbg.setOther (show pg ≠ pn by have := HP.out; omega) 0 (Value.slice xO xL xC); rw [← hwE] at hbg
 replace hbf := hbf.setCell (p := ⟨pn, 0, none⟩) (show w.heap.size ≤ pn by have := HP.out; omega) (Value.slice xO xL xC); rw [← hwE] at hbf
 replace hbn := hbn.set (Value.slice xO xL xC); rw [← hwE] at hbn; clear hwE
 have ed := hbd.cell
 have eg := hbg.cell
 go_wp2_with fail
 refine (divmod_any _ _ d (Nat.gcd n d) _ hd hg hld hlg).mono ?_
 rintro e w6 ⟨r9, s9, rfl, hy, hs, hb⟩
 clear ed eg
 replace hbn := hbn.kept hb
 replace hbd := hbd.kept hb
 replace hbr := hbr.kept hb
 replace hbg := hbg.kept hb
 replace hn := hn.below hb
 replace hd := hd.below hb
 replace hg := hg.below hb
 replace hx := hx.below hb
 replace hbf := hbf.trans (hb.mono hbf.size)
 clear hb
 obtain ⟨yO, yL, yC, rfl⟩ := hy.form
 obtain ⟨s2O, s2L, s2C, rfl⟩ := hs.form
 clear hs
 have ed := hbd.cell
 have fd := hbd.free
 go_upto_region 6 with fail
 clear ed fd
 obtain ⟨w7, hwE⟩ : ∃ W, W = w6.setCell ⟨pd, 0, none⟩ (Value.slice yO yL yC) := ⟨_, rfl⟩
 rw [← hwE]
 replace hn := hn.setS (u := (Value.slice yO yL yC)) hbd; rw [← hwE] at hn
 replace hd := hd.setS (u := (Value.slice yO yL yC)) hbd; rw [← hwE] at hd
 replace hg := hg.setS (u := (Value.slice yO yL yC)) hbd; rw [← hwE] at hg
 replace hx := hx.setS (u := (Value.slice yO yL yC)) hbd; rw [← hwE] at hx
 replace hy := hy.setS (u := (Value.slice yO yL yC)) hbd; rw [← hwE] at hy
 replace hbn := hbn.setOther (show pn ≠ pd by have := HP.out; omega) 0 (Value.slice yO yL yC); rw [← hwE] at hbn
 replace hbr := hbr.setOther (show pr ≠ pd by have := HP.out; omega) 0 (Value.slice yO yL yC); rw [← hwE] at hbr
 replace hbg := hbg.setOther (show pg ≠ pd by have := HP.out; omega) 0 (Value.slice yO yL yC); rw [← hwE] at hbg
 replace hbf := hbf.setCell (p := ⟨pd, 0, none⟩) (show w.heap.size ≤ pd by have := HP.out; omega) (Value.slice yO yL yC); rw [← hwE] at hbf
 replace hbd := hbd.set (Value.slice yO yL yC); rw [← hwE] at hbd; clear hwE
 have en := hbn.cell
 have ed := hbd.cell
 have er0 := hbr.c0
 have fr0 := hbr.f0
 have er1 := hbr.c1
 have fr1 := hbr.f1
 have er2 := hbr.c2
 have fr2 := hbr.f2
 go_wp2_with fail
 exact end_q rfl rfl rfl hbr (show w.heap.size ≤ pr by have := HP.out; omega) (QIs.made H0.out HD.out hx hy) hbf
set_option maxHeartbeats 1000000 in
theorem den_any (v : Value) (q : Rat) (w : World) (h : QIs w v q) :
  Calls Tryz.prog 151 #[v] w fun e w' => ∃ r, e = .returned r ∧ NatIs w' r q.den ∧ Below w.heap.size w w' := by
 obtain ⟨qB, qxO, qxL, qxC, qyO, qyL, qyC, rfl, hS, hqx, hqy⟩ := h.form
 have HqS := Lib.hid hS; clear hS
 obtain ⟨w0, hw0⟩ : ∃ w0, w0 = ((w.alloc (.cells #[.bool qB, .slice qxO qxL qxC, .slice qyO qyL qyC] 113)).alloc (.cells #[.slice none 0 0] 111)) := ⟨_, rfl⟩
 have hbf : Below w.heap.size w w0 := by rw [hw0]; exact (((Below.refl _ w).alloc (Nat.le_refl _) _).alloc (by simp <;> omega) _)
 obtain ⟨pq, hpq⟩ : ∃ p, p = w.heap.size := ⟨_, rfl⟩
 have hbq : Box3 w0 pq (Value.bool qB) (Value.slice qxO qxL qxC) (Value.slice qyO qyL qyC) := by rw [hw0, hpq]; exact ⟨by go_simp, by go_simp, by go_simp, by go_simp, by go_simp, by go_simp⟩
 obtain ⟨pr, hpr⟩ : ∃ p, p = w.heap.size + 1 := ⟨_, rfl⟩
 have hbr : Box w0 pr (Value.slice none 0 0) := by rw [hw0, hpr]; exact ⟨by go_simp, by go_simp, by simp <;> omega⟩
 have HP : Hid (w.heap.size ≤ pq ∧ pq < pr) := Lib.hid (by omega)
 replace h := h.below hbf
 replace hqx := hqx.below hbf
 replace hqy := hqy.below hbf
 have HW := Lib.hid hw0; clear hw0
 go_enter Tryz.func151, Tryz.ntmps151
 go_upto_region 1 with fail
 rw [← HW.out, ← hpr, ← hpq]
 clear hpq hpr HW
 have eq0 := hbq.c0
 have eq1 := hbq.c1
 have eq2 := hbq.c2
 go_wp2_with fail
 refine (zero_any _ (den0 q) _ hqy).mono ?_
 rintro e w1 ⟨rfl, hb⟩
 clear eq0 eq1 eq2
 replace hbq := hbq.kept hb
 replace hbr := hbr.kept hb
 replace h := h.below hb
 replace hqx := hqx.below hb
 replace hqy := hqy.below hb
 replace hbf := hbf.trans (hb.mono hbf.size)
 clear hb
 by_cases h0 : den0 q = 0
 case pos =>
  rw [decide_eq_true h0]
  go_wp2_with fail
  refine (of_any 1 _ (by decide)).mono ?_
  rintro e w2 ⟨r9, rfl, ho, hb⟩
  replace hbq := hbq.kept hb
  replace hbr := hbr.kept hb
  replace h := h.below hb
  replace hqx := hqx.below hb
  replace hqy := hqy.below hb
  replace hbf := hbf.trans (hb.mono hbf.size)
  clear hb
  obtain ⟨oO, oL, oC, rfl⟩ := ho.form
  have hq1 : q.den = 1 := by unfold den0 at h0; split at h0 <;> first | (rename_i h9; rw [h9]; rfl) | (have := q.den_pos; omega)
  have er := hbr.cell
  have fr := hbr.free
  go_wp2_with fail
  exact ret_nat rfl rfl (cell_set er) rfl ⟨_, rfl, by rw [hq1]; exact ho.setS hbr, hbf.setCell (p := ⟨pr, 0, none⟩) (show w.heap.size ≤ pr by have := HP.out; omega) _⟩
 rw [decide_eq_false h0]
 have hq1 : den0 q = q.den := by unfold den0 at h0 ⊢; split at h0 <;> first | exact (h0 rfl).elim | (rename_i h9; rw [if_neg h9])
 rw [hq1] at hqy
 clear h0 hq1
 have eq0 := hbq.c0
 have eq1 := hbq.c1
 have eq2 := hbq.c2
 have er := hbr.cell
 have fr := hbr.free
 go_wp2_with fail
 exact ret_nat rfl rfl (cell_set er) rfl ⟨_, rfl, hqy.setS hbr, hbf.setCell (p := ⟨pr, 0, none⟩) (show w.heap.size ≤ pr by have := HP.out; omega) _⟩
set_option maxHeartbeats 1000000 in
theorem whole_any (v : Value) (q : Rat) (w : World) (h : QIs w v q) :
  Calls Tryz.prog 156 #[v] w fun e w' => e = .returned (.bool (decide (q.den = 1))) ∧ Below w.heap.size w w' := by
 obtain ⟨qB, qxO, qxL, qxC, qyO, qyL, qyC, rfl, hS, hqx, hqy⟩ := h.form
 have HqS := Lib.hid hS; clear hS
 obtain ⟨w0, hw0⟩ : ∃ w0, w0 = (w.alloc (.cells #[.bool qB, .slice qxO qxL qxC, .slice qyO qyL qyC] 113)) := ⟨_, rfl⟩
 have hbf : Below w.heap.size w w0 := by rw [hw0]; exact ((Below.refl _ w).alloc (Nat.le_refl _) _)
 obtain ⟨pq, hpq⟩ : ∃ p, p = w.heap.size := ⟨_, rfl⟩
 have hbq : Box3 w0 pq (Value.bool qB) (Value.slice qxO qxL qxC) (Value.slice qyO qyL qyC) := by rw [hw0, hpq]; exact ⟨by go_simp, by go_simp, by go_simp, by go_simp, by go_simp, by go_simp⟩
 have HP : Hid (w.heap.size ≤ pq) := Lib.hid (by omega)
 replace h := h.below hbf
 replace hqx := hqx.below hbf
 replace hqy := hqy.below hbf
 have HW := Lib.hid hw0; clear hw0
 go_enter Tryz.func156, Tryz.ntmps156
 go_upto_region 1 with fail
 rw [← HW.out, ← hpq]
 clear hpq HW
 have eq0 := hbq.c0
 have eq1 := hbq.c1
 have eq2 := hbq.c2
 go_wp2_with fail
 refine (den_any _ q _ h).mono ?_
 rintro e w1 ⟨r9, rfl, hd, hb⟩
 clear eq0 eq1 eq2
 replace hbq := hbq.kept hb
 replace h := h.below hb
 replace hqx := hqx.below hb
 replace hqy := hqy.below hb
 replace hbf := hbf.trans (hb.mono hbf.size)
 clear hb
 go_wp2_with fail
 refine (of_any 1 _ (by decide)).mono ?_
 rintro e w2 ⟨o9, rfl, ho, hb⟩
 replace hbq := hbq.kept hb
 replace h := h.below hb
 replace hqx := hqx.below hb
 replace hqy := hqy.below hb
 replace hd := hd.below hb
 replace hbf := hbf.trans (hb.mono hbf.size)
 clear hb
 go_wp2_with fail
 refine (cmp_any _ _ q.den 1 _ hd ho).mono ?_
 rintro e w3 ⟨rfl, hb⟩
 replace hbq := hbq.kept hb
 replace h := h.below hb
 replace hqx := hqx.below hb
 replace hqy := hqy.below hb
 replace hd := hd.below hb
 replace ho := ho.below hb
 replace hbf := hbf.trans (hb.mono hbf.size)
 clear hb
 have hc : (cmpI q.den 1 == 0) = decide (q.den = 1) := by unfold cmpI; by_cases h1 : q.den < 1 <;> by_cases h2 : 1 < q.den <;> simp [h1, h2] <;> omega
 go_wp2_with fail
 go_ret
 exact ⟨ret_one (by rw [← hc]; rfl), hbf⟩
set_option maxHeartbeats 1000000 in
theorem make_main (neg : Bool) (vn vd : Value) (n d : Nat) (w : World) (q : Rat) (c : Int) (hq0 : Hid (d = 0 → q = 0 ∧ c = 4)) (hq1 : Hid (0 < d → q = qOf neg n d ∧ c = 0)) (hn : NatIs w vn n) (hd : NatIs w vd d) (hln : (limbs n).length ≤ 1000000) (hld : (limbs d).length ≤ 1000000) :
  Calls Tryz.prog 160 #[.bool neg, vn, vd] w (QPostC w q c) := by
 obtain ⟨nO, nL, nC, rfl⟩ := hn.form
 obtain ⟨dO, dL, dC, rfl⟩ := hd.form
 obtain ⟨w0, hw0⟩ : ∃ w0, w0 = (((w.alloc (.cells #[.slice nO nL nC] 111)).alloc (.cells #[.slice dO dL dC] 111)).alloc (.cells #[.bool false, .slice none 0 0, .slice none 0 0] 113)) := ⟨_, rfl⟩
 have hbf : Below w.heap.size w w0 := by rw [hw0]; exact ((((Below.refl _ w).alloc (Nat.le_refl _) _).alloc (by simp <;> omega) _).alloc (by simp <;> omega) _)
 obtain ⟨pn, hpn⟩ : ∃ p, p = w.heap.size := ⟨_, rfl⟩
 have hbn : Box w0 pn (Value.slice nO nL nC) := by rw [hw0, hpn]; exact ⟨by go_simp, by go_simp, by simp <;> omega⟩
 obtain ⟨pd, hpd⟩ : ∃ p, p = w.heap.size + 1 := ⟨_, rfl⟩
 have hbd : Box w0 pd (Value.slice dO dL dC) := by rw [hw0, hpd]; exact ⟨by go_simp, by go_simp, by simp <;> omega⟩
 obtain ⟨pr, hpr⟩ : ∃ p, p = w.heap.size + 1 + 1 := ⟨_, rfl⟩
 have hbr : Box3 w0 pr (Value.bool false) (Value.slice none 0 0) (Value.slice none 0 0) := by rw [hw0, hpr]; exact ⟨by go_simp, by go_simp, by go_simp, by go_simp, by go_simp, by go_simp⟩
 have HP : Hid (w.heap.size ≤ pn ∧ pn < pd ∧ pd < pr) := Lib.hid (by omega)
 replace hn := hn.below hbf
 replace hd := hd.below hbf
 have HW := Lib.hid hw0; clear hw0
 go_enter Tryz.func160, Tryz.ntmps160
 go_upto_region 1 with fail
 rw [← HW.out, ← hpr, ← hpd, ← hpn]
 clear hpn hpd hpr HW
 have ed := hbd.cell
 go_wp2_with fail
 refine (zero_any _ d _ hd).mono ?_
 rintro e w1 ⟨rfl, hb⟩
 clear ed
 replace hbn := hbn.kept hb
 replace hbd := hbd.kept hb
 replace hbr := hbr.kept hb
 replace hn := hn.below hb
 replace hd := hd.below hb
 replace hbf := hbf.trans (hb.mono hbf.size)
 clear hb
 by_cases h0 : d = 0
 case pos =>
  rw [decide_eq_true h0]
  obtain ⟨rfl, rfl⟩ := hq0.out h0
  have er0 := hbr.c0
  have fr0 := hbr.f0
  have er1 := hbr.c1
  have fr1 := hbr.f1
  have er2 := hbr.c2
  have fr2 := hbr.f2
  go_wp2_with fail
  exact end_qc rfl rfl rfl rfl hbr (show w.heap.size ≤ pr by have := HP.out; omega) (QIs.zero _) hbf
 rw [decide_eq_false h0]
 have HD : Hid (0 < d) := Lib.hid (by omega)
 obtain ⟨rfl, rfl⟩ := hq1.out HD.out
 clear h0
 have en := hbn.cell
 have ed := hbd.cell
 go_wp2_with fail
 refine (lowest_any neg _ _ n d _ hn hd hln hld HD.out).mono ?_
 rintro e w2 hq9
 obtain ⟨xB, xxO, xxL, xxC, xyO, xyL, xyC, rfl, hS, hxx, hxy, hx, hb⟩ := hq9.out
 have HxS := Lib.hid hS; clear hS
 clear en ed
 replace hbn := hbn.kept hb
 replace hbd := hbd.kept hb
 replace hbr := hbr.kept hb
 replace hn := hn.below hb
 replace hd := hd.below hb
 replace hbf := hbf.trans (hb.mono hbf.size)
 clear hb
 have er0 := hbr.c0
 have fr0 := hbr.f0
 have er1 := hbr.c1
 have fr1 := hbr.f1
 have er2 := hbr.c2
 have fr2 := hbr.f2
 go_wp2_with fail
 exact end_qc rfl rfl rfl rfl hbr (show w.heap.size ≤ pr by have := HP.out; omega) hx hbf
theorem make_ok (neg : Bool) (vn vd : Value) (n d : Nat) (w : World) (hn : NatIs w vn n) (hd : NatIs w vd d) (hln : (limbs n).length ≤ 1000000) (hld : (limbs d).length ≤ 1000000) (h0 : 0 < d) :
  Calls Tryz.prog 160 #[.bool neg, vn, vd] w (QPostC w (qOf neg n d) 0) :=
 make_main neg vn vd n d w _ _ (Lib.hid (fun h => by omega)) (Lib.hid (fun _ => ⟨rfl, rfl⟩)) hn hd hln hld
theorem make_zero (neg : Bool) (vn vd : Value) (n : Nat) (w : World) (hn : NatIs w vn n) (hd : NatIs w vd 0) (hln : (limbs n).length ≤ 1000000) :
  Calls Tryz.prog 160 #[.bool neg, vn, vd] w (QPostC w 0 4) :=
 make_main neg vn vd n 0 w _ _ (Lib.hid (fun h => ⟨rfl, rfl⟩)) (Lib.hid (fun h => by omega)) hn hd hln (by rw [limbs_zero]; simp)
end Go.Proofs.YtcpfanpcdkoiaaaGreatDoor
