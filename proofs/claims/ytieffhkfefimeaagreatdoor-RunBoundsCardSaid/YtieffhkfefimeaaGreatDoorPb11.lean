/-
  Pb11: HeapQ HeapF (what is needed of them).
-/
import Derived.Test.YtieffhkfefimeaaGreatDoorPb07
import Derived.Laws.Bits64b

namespace Go.Proofs.YtieffhkfefimeaaGreatDoor
open Go.RowKit
set_option linter.unusedVariables false
set_option linter.unusedSimpArgs false
/-- A block of three cells, a variable of the call's own. -/
structure Box3 (w : World) (b : Nat) (x y z : Value) : Prop where
  c0 : w.cell? ⟨b, 0, none⟩ = some x
  c1 : w.cell? ⟨b, 1, none⟩ = some y
  c2 : w.cell? ⟨b, 2, none⟩ = some z
  f0 : w.frozen? ⟨b, 0, none⟩ = false
  f1 : w.frozen? ⟨b, 1, none⟩ = false
  f2 : w.frozen? ⟨b, 2, none⟩ = false
theorem Box3.lt {w : World} {b : Nat} {x y z : Value} (h : Box3 w b x y z) : b < w.heap.size := World.block_lt_of_cell? w ⟨b, 0, none⟩ h.c0
theorem Box3.below {w w' : World} {b B : Nat} {x y z : Value} (h : Box3 w b x y z) (hb : Below B w w') (hlt : b < B) : Box3 w' b x y z :=
  ⟨(hb.cell (p := ⟨b, 0, none⟩) hlt).trans h.c0, (hb.cell (p := ⟨b, 1, none⟩) hlt).trans h.c1, (hb.cell (p := ⟨b, 2, none⟩) hlt).trans h.c2,
    (hb.frozen (p := ⟨b, 0, none⟩) hlt).trans h.f0, (hb.frozen (p := ⟨b, 1, none⟩) hlt).trans h.f1, (hb.frozen (p := ⟨b, 2, none⟩) hlt).trans h.f2⟩
theorem Box3.kept {w w' : World} {b : Nat} {x y z : Value} (h : Box3 w b x y z) (hb : Below w.heap.size w w') : Box3 w' b x y z := h.below hb h.lt
/-- A fraction of the program's in memory: of its sign, and of the numbers in lowest terms (no denominator where it is 0). -/
def den0 (q : Rat) : Nat := if q = 0 then 0 else q.den
def QIs (w : World) (v : Value) (q : Rat) : Prop := ∃ xo xl xc yo yl yc, v = .agg #[.bool (decide (q < 0)), .slice xo xl xc, .slice yo yl yc] ∧ NatIs w (.agg #[.slice xo xl xc]) q.num.natAbs ∧ NatIs w (.agg #[.slice yo yl yc]) (den0 q)
theorem QIs.below {w w' : World} {v : Value} {q : Rat} (h : QIs w v q) (hb : Below w.heap.size w w') : QIs w' v q := by
  obtain ⟨xo, xl, xc, yo, yl, yc, h1, h2, h3⟩ := h
  exact ⟨xo, xl, xc, yo, yl, yc, h1, h2.below hb, h3.below hb⟩
theorem QIs.mk {w : World} {x y : Value} {q : Rat} {s : Bool} (hs : s = decide (q < 0)) (h2 : NatIs w (.agg #[x]) q.num.natAbs) (h3 : NatIs w (.agg #[y]) (den0 q)) : QIs w (.agg #[.bool s, x, y]) q := by
  obtain ⟨ao, ca, h8, _⟩ := h2.open
  obtain ⟨bo, cb, h9, _⟩ := h3.open
  cases h8
  cases h9
  subst hs
  exact ⟨_, _, _, _, _, _, rfl, h2, h3⟩
theorem QIs.zero (w : World) : QIs w (.agg #[.bool false, .slice none 0 0, .slice none 0 0]) 0 := QIs.mk (by decide) (NatIs.zero w) (NatIs.zero w)
/-- A fraction of the document's in memory. -/
def RQIs (w : World) (v : Value) (q : Rat) : Prop := ∃ xo xl xc yo yl yc, v = .agg #[.bool (decide (q < 0)), .slice xo xl xc, .slice yo yl yc] ∧ RIs w (.slice xo xl xc) q.num.natAbs ∧ RIs w (.slice yo yl yc) q.den
theorem RQIs.below {w w' : World} {v : Value} {q : Rat} (h : RQIs w v q) (hb : Below w.heap.size w w') : RQIs w' v q := by
  obtain ⟨xo, xl, xc, yo, yl, yc, h1, h2, h3⟩ := h
  exact ⟨xo, xl, xc, yo, yl, yc, h1, h2.below hb, h3.below hb⟩
theorem load_rat {w : World} {b : Nat} {x y z : Value} (h : Box3 w b x y z) : (loadVar 81 ⟨b, 0, none⟩).run Tryz.prog w = .ok (.agg #[x, y, z]) w := by
  have h0 := h.c0
  have h1 := h.c1
  have h2 := h.c2
  simp [go_sem, h0, h1, h2]
/-- The end of a function whose one result is a fraction. -/
theorem ret_rat {fn : Func} {s : Nat} {R : Ending → World → Prop} {a : Act} {w : World} {b : Nat} {x y z : Value} (hres : fn.results = #[.cell s 81]) (hp : a.tmps.getD s undef = .pointer (some ⟨b, 0, none⟩)) (hc : Box3 w b x y z) (hd : a.defers = []) (hR : R (.returned (.agg #[x, y, z])) w) : bodyPost Tryz.prog fn R .ret a w := by
  refine bodyPost_ret (v := .agg #[x, y, z]) ?_ hd hR
  have hp' : a.tmps[s]?.getD undef = .pointer (some ⟨b, 0, none⟩) := by simpa using hp
  simp only [results, hres]
  simp [Sem.run_bind, Sem.run_pure, Result.andThen, hp', asAddr, load_rat hc]
/-- The end of a function whose results are a fraction and a plain value. -/
theorem ret_rat_tmp {fn : Func} {s t : Nat} {R : Ending → World → Prop} {a : Act} {w : World} {b : Nat} {x y z u : Value} (hres : fn.results = #[.cell s 81, .tmp t]) (hp : a.tmps.getD s undef = .pointer (some ⟨b, 0, none⟩)) (hu : a.tmps.getD t undef = u) (hc : Box3 w b x y z) (hd : a.defers = []) (hR : R (.returned (.tuple #[.agg #[x, y, z], u])) w) : bodyPost Tryz.prog fn R .ret a w := by
  refine bodyPost_ret (v := .tuple #[.agg #[x, y, z], u]) ?_ hd hR
  rw [results_cell_tmp hres, hp, hu]
  simp [asAddr, load_rat hc]
/-- Stores into a box of three cells. -/
theorem Box3.set0 {w : World} {b : Nat} {x y z : Value} (h : Box3 w b x y z) (u : Value) : Box3 (w.setCell ⟨b, 0, none⟩ u) b u y z := by
  have e0 := h.c0
  have e1 := h.c1
  have e2 := h.c2
  have g0 := h.f0
  have g1 := h.f1
  have g2 := h.f2
  exact ⟨by go_simp, by go_simp, by go_simp, by go_simp, by go_simp, by go_simp⟩
theorem Box3.set1 {w : World} {b : Nat} {x y z : Value} (h : Box3 w b x y z) (u : Value) : Box3 (w.setCell ⟨b, 1, none⟩ u) b x u z := by
  have e0 := h.c0
  have e1 := h.c1
  have e2 := h.c2
  have g0 := h.f0
  have g1 := h.f1
  have g2 := h.f2
  exact ⟨by go_simp, by go_simp, by go_simp, by go_simp, by go_simp, by go_simp⟩
theorem Box3.set2 {w : World} {b : Nat} {x y z : Value} (h : Box3 w b x y z) (u : Value) : Box3 (w.setCell ⟨b, 2, none⟩ u) b x y u := by
  have e0 := h.c0
  have e1 := h.c1
  have e2 := h.c2
  have g0 := h.f0
  have g1 := h.f1
  have g2 := h.f2
  exact ⟨by go_simp, by go_simp, by go_simp, by go_simp, by go_simp, by go_simp⟩
theorem Box3.setOther {w : World} {b g : Nat} {x y z : Value} (h : Box3 w b x y z) (hne : b ≠ g) (j : Nat) (u : Value) : Box3 (w.setCell ⟨g, j, none⟩ u) b x y z := by
  have hg : (w.setCell ⟨g, j, none⟩ u).heap[b]? = w.heap[b]? := (grownBy_set (grownBy_refl w (some g)) j u).block b h.lt (by simpa using hne)
  exact ⟨(World.cell?_of_block (w := w) (a := ⟨b, 0, none⟩) hg).trans h.c0, (World.cell?_of_block (w := w) (a := ⟨b, 1, none⟩) hg).trans h.c1, (World.cell?_of_block (w := w) (a := ⟨b, 2, none⟩) hg).trans h.c2,
    (World.frozen?_of_block (w := w) (a := ⟨b, 0, none⟩) hg).trans h.f0, (World.frozen?_of_block (w := w) (a := ⟨b, 1, none⟩) hg).trans h.f1, (World.frozen?_of_block (w := w) (a := ⟨b, 2, none⟩) hg).trans h.f2⟩
theorem NatIs.form {w : World} {v : Value} {n : Nat} (h : NatIs w v n) : ∃ o l c, v = .agg #[.slice o l c] := by
  obtain ⟨ao, ca, rfl, _⟩ := h.open
  exact ⟨_, _, _, rfl⟩
theorem RIs.form {w : World} {v : Value} {n : Nat} (h : RIs w v n) : ∃ o l c, v = .slice o l c := by
  obtain ⟨ao, ca, rfl, _⟩ := h.open
  exact ⟨_, _, _, rfl⟩
theorem NatIs.setS {w : World} {v u : Value} {n p l c : Nat} {o : Option Addr} (h : NatIs w v n) (hb : Box w p (.slice o l c)) : NatIs (w.setCell ⟨p, 0, none⟩ u) v n := h.set _ _ (fun n e => by rw [hb.cell] at e; cases e)
theorem QIs.form {w : World} {v : Value} {q : Rat} (h : QIs w v q) : ∃ s xo xl xc yo yl yc, v = .agg #[.bool s, .slice xo xl xc, .slice yo yl yc] ∧ s = decide (q < 0) ∧ NatIs w (.agg #[.slice xo xl xc]) q.num.natAbs ∧ NatIs w (.agg #[.slice yo yl yc]) (den0 q) := by
  obtain ⟨xo, xl, xc, yo, yl, yc, h1, h2, h3⟩ := h
  exact ⟨_, xo, xl, xc, yo, yl, yc, h1, rfl, h2, h3⟩
theorem RQIs.form {w : World} {v : Value} {q : Rat} (h : RQIs w v q) : ∃ s xo xl xc yo yl yc, v = .agg #[.bool s, .slice xo xl xc, .slice yo yl yc] ∧ s = decide (q < 0) ∧ RIs w (.slice xo xl xc) q.num.natAbs ∧ RIs w (.slice yo yl yc) q.den := by
  obtain ⟨xo, xl, xc, yo, yl, yc, h1, h2, h3⟩ := h
  exact ⟨_, xo, xl, xc, yo, yl, yc, h1, rfl, h2, h3⟩
theorem RQIs.mk {w : World} {x y : Value} {q : Rat} {s : Bool} (hs : s = decide (q < 0)) (h2 : RIs w x q.num.natAbs) (h3 : RIs w y q.den) : RQIs w (.agg #[.bool s, x, y]) q := by
  obtain ⟨ao, ca, rfl, _⟩ := h2.open
  obtain ⟨bo, cb, rfl, _⟩ := h3.open
  subst hs
  exact ⟨_, _, _, _, _, _, rfl, h2, h3⟩
/-- A cell that holds no number. -/
theorem RIs.set {w : World} {v : Value} {n : Nat} (h : RIs w v n) (p : Addr) (u : Value) (hp : ∀ n, w.cell? p ≠ some (.int .i64 n)) : RIs (w.setCell p u) v n := Ints.set h p u hp
theorem RIs.setS {w : World} {v u : Value} {n p l c : Nat} {o : Option Addr} (h : RIs w v n) (hb : Box w p (.slice o l c)) : RIs (w.setCell ⟨p, 0, none⟩ u) v n := h.set _ _ (fun n e => by rw [hb.cell] at e; cases e)
section
variable {w : World} {b : Nat} {s0 : Bool} {o1 o2 : Option Addr} {l1 l2 c1 c2 : Nat} {u0 u1 u2 : Value}
theorem NatIs.set3 {v : Value} {n : Nat} (h : NatIs w v n) (hb : Box3 w b (.bool s0) (.slice o1 l1 c1) (.slice o2 l2 c2)) : NatIs (((w.setCell ⟨b, 0, none⟩ u0).setCell ⟨b, 1, none⟩ u1).setCell ⟨b, 2, none⟩ u2) v n := by
  have e1 := (hb.set0 u0).c1
  have e2 := ((hb.set0 u0).set1 u1).c2
  exact ((h.set _ _ (fun n e => by rw [hb.c0] at e; cases e)).set _ _ (fun n e => by rw [e1] at e; cases e)).set _ _ (fun n e => by rw [e2] at e; cases e)
theorem RIs.set3 {v : Value} {n : Nat} (h : RIs w v n) (hb : Box3 w b (.bool s0) (.slice o1 l1 c1) (.slice o2 l2 c2)) : RIs (((w.setCell ⟨b, 0, none⟩ u0).setCell ⟨b, 1, none⟩ u1).setCell ⟨b, 2, none⟩ u2) v n := by
  have e1 := (hb.set0 u0).c1
  have e2 := ((hb.set0 u0).set1 u1).c2
  exact ((h.set _ _ (fun n e => by rw [hb.c0] at e; cases e)).set _ _ (fun n e => by rw [e1] at e; cases e)).set _ _ (fun n e => by rw [e2] at e; cases e)
theorem QIs.set3 {v : Value} {q : Rat} (h : QIs w v q) (hb : Box3 w b (.bool s0) (.slice o1 l1 c1) (.slice o2 l2 c2)) : QIs (((w.setCell ⟨b, 0, none⟩ u0).setCell ⟨b, 1, none⟩ u1).setCell ⟨b, 2, none⟩ u2) v q := by
  obtain ⟨s, xo, xl, xc, yo, yl, yc, rfl, h1, h2, h3⟩ := h.form
  exact QIs.mk h1 (h2.set3 hb) (h3.set3 hb)
theorem RQIs.set3 {v : Value} {q : Rat} (h : RQIs w v q) (hb : Box3 w b (.bool s0) (.slice o1 l1 c1) (.slice o2 l2 c2)) : RQIs (((w.setCell ⟨b, 0, none⟩ u0).setCell ⟨b, 1, none⟩ u1).setCell ⟨b, 2, none⟩ u2) v q := by
  obtain ⟨s, xo, xl, xc, yo, yl, yc, rfl, h1, h2, h3⟩ := h.form
  exact RQIs.mk h1 (h2.set3 hb) (h3.set3 hb)
theorem QIs.setS {v u : Value} {q : Rat} {p l c : Nat} {o : Option Addr} (h : QIs w v q) (hb : Box w p (.slice o l c)) : QIs (w.setCell ⟨p, 0, none⟩ u) v q := by
  obtain ⟨s, xo, xl, xc, yo, yl, yc, rfl, h1, h2, h3⟩ := h.form
  exact QIs.mk h1 (h2.setS hb) (h3.setS hb)
theorem RQIs.setS {v u : Value} {q : Rat} {p l c : Nat} {o : Option Addr} (h : RQIs w v q) (hb : Box w p (.slice o l c)) : RQIs (w.setCell ⟨p, 0, none⟩ u) v q := by
  obtain ⟨s, xo, xl, xc, yo, yl, yc, rfl, h1, h2, h3⟩ := h.form
  exact RQIs.mk h1 (h2.setS hb) (h3.setS hb)
theorem Box.set3 {g : Nat} {v : Value} (h : Box w g v) (hne : g ≠ b) : Box (((w.setCell ⟨b, 0, none⟩ u0).setCell ⟨b, 1, none⟩ u1).setCell ⟨b, 2, none⟩ u2) g v := ((h.setOther hne 0 u0).setOther hne 1 u1).setOther hne 2 u2
theorem Box3.set3o {g : Nat} {x y z : Value} (h : Box3 w g x y z) (hne : g ≠ b) : Box3 (((w.setCell ⟨b, 0, none⟩ u0).setCell ⟨b, 1, none⟩ u1).setCell ⟨b, 2, none⟩ u2) g x y z := ((h.setOther hne 0 u0).setOther hne 1 u1).setOther hne 2 u2
theorem Box3.set3 {x y z : Value} (h : Box3 w b x y z) : Box3 (((w.setCell ⟨b, 0, none⟩ u0).setCell ⟨b, 1, none⟩ u1).setCell ⟨b, 2, none⟩ u2) b u0 u1 u2 := ((h.set0 u0).set1 u1).set2 u2
theorem below_set3 {B : Nat} {w0 : World} (h : Below B w0 w) (hb : B ≤ b) : Below B w0 (((w.setCell ⟨b, 0, none⟩ u0).setCell ⟨b, 1, none⟩ u1).setCell ⟨b, 2, none⟩ u2) :=
  ((h.setCell (p := ⟨b, 0, none⟩) hb _).setCell (p := ⟨b, 1, none⟩) hb _).setCell (p := ⟨b, 2, none⟩) hb _
end
theorem Box3.drew {w : World} {b : Nat} {x y z : Value} (h : Box3 w b x y z) : Box3 w.drew b x y z := ⟨h.c0, h.c1, h.c2, h.f0, h.f1, h.f2⟩
/-- What a function that makes a fraction answers. -/
def QPost (w : World) (q : Rat) (e : Ending) (w' : World) : Prop := ∃ r, e = .returned r ∧ QIs w' r q ∧ Below w.heap.size w w'
def QPostC (w : World) (q : Rat) (c : Int) (e : Ending) (w' : World) : Prop := ∃ r, e = .returned (.tuple #[r, .int .i64 c]) ∧ QIs w' r q ∧ Below w.heap.size w w'
def RQPost (w : World) (q : Rat) (e : Ending) (w' : World) : Prop := ∃ r, e = .returned r ∧ RQIs w' r q ∧ Below w.heap.size w w'
theorem QPost.out {w w' : World} {q : Rat} {e : Ending} (h : QPost w q e w') : ∃ s xo xl xc yo yl yc, e = .returned (.agg #[.bool s, .slice xo xl xc, .slice yo yl yc]) ∧ s = decide (q < 0) ∧ NatIs w' (.agg #[.slice xo xl xc]) q.num.natAbs ∧ NatIs w' (.agg #[.slice yo yl yc]) (den0 q) ∧ QIs w' (.agg #[.bool s, .slice xo xl xc, .slice yo yl yc]) q ∧ Below w.heap.size w w' := by
  obtain ⟨r, rfl, hq, hb⟩ := h
  obtain ⟨s, xo, xl, xc, yo, yl, yc, rfl, h1, h2, h3⟩ := hq.form
  exact ⟨_, _, _, _, _, _, _, rfl, h1, h2, h3, hq, hb⟩
theorem RQPost.out {w w' : World} {q : Rat} {e : Ending} (h : RQPost w q e w') : ∃ s xo xl xc yo yl yc, e = .returned (.agg #[.bool s, .slice xo xl xc, .slice yo yl yc]) ∧ s = decide (q < 0) ∧ RIs w' (.slice xo xl xc) q.num.natAbs ∧ RIs w' (.slice yo yl yc) q.den ∧ RQIs w' (.agg #[.bool s, .slice xo xl xc, .slice yo yl yc]) q ∧ Below w.heap.size w w' := by
  obtain ⟨r, rfl, hq, hb⟩ := h
  obtain ⟨s, xo, xl, xc, yo, yl, yc, rfl, h1, h2, h3⟩ := hq.form
  exact ⟨_, _, _, _, _, _, _, rfl, h1, h2, h3, hq, hb⟩
section
variable {fn : Func} {s : Nat} {act : Act} {w w9 : World} {b : Nat} {s0 : Bool} {o1 o2 : Option Addr} {l1 l2 c1 c2 : Nat} {u0 u1 u2 : Value} {q : Rat}
/-- A fraction is stored into the result's box, and that's the end. -/
theorem end_q (hres : fn.results = #[.cell s 81]) (hp : act.tmps.getD s undef = .pointer (some ⟨b, 0, none⟩)) (hd : act.defers = []) (hb : Box3 w9 b (.bool s0) (.slice o1 l1 c1) (.slice o2 l2 c2)) (hge : w.heap.size ≤ b) (hq : QIs w9 (.agg #[u0, u1, u2]) q) (hB : Below w.heap.size w w9) :
    bodyPost Tryz.prog fn (QPost w q) .ret act (((w9.setCell ⟨b, 0, none⟩ u0).setCell ⟨b, 1, none⟩ u1).setCell ⟨b, 2, none⟩ u2) :=
  ret_rat hres hp hb.set3 hd ⟨_, rfl, hq.set3 hb, below_set3 hB hge⟩
theorem end_qc {t : Nat} {c : Int} (hres : fn.results = #[.cell s 81, .tmp t]) (hp : act.tmps.getD s undef = .pointer (some ⟨b, 0, none⟩)) (hu : act.tmps.getD t undef = .int .i64 c) (hd : act.defers = []) (hb : Box3 w9 b (.bool s0) (.slice o1 l1 c1) (.slice o2 l2 c2)) (hge : w.heap.size ≤ b) (hq : QIs w9 (.agg #[u0, u1, u2]) q) (hB : Below w.heap.size w w9) :
    bodyPost Tryz.prog fn (QPostC w q c) .ret act (((w9.setCell ⟨b, 0, none⟩ u0).setCell ⟨b, 1, none⟩ u1).setCell ⟨b, 2, none⟩ u2) :=
  ret_rat_tmp hres hp hu hb.set3 hd ⟨_, rfl, hq.set3 hb, below_set3 hB hge⟩
end
/-- The numbers of a made fraction. -/
theorem QIs.made {w : World} {x y : Value} {n d : Nat} {neg : Bool} (hn : 0 < n) (hd : 0 < d) (hx : NatIs w (.agg #[x]) (n / Nat.gcd n d)) (hy : NatIs w (.agg #[y]) (d / Nat.gcd n d)) : QIs w (.agg #[.bool neg, x, y]) (qOf neg n d) :=
  QIs.mk (qOf_neg hn hd).symm (by rw [qOf_num hd, sg_natAbs]; exact hx) (by unfold den0; rw [if_neg (qOf_eq_zero hn hd), qOf_den hd]; exact hy)
theorem box_heap {w : World} {g : Nat} {v : Value} {t : TypeId} (h : w.heap[g]? = some (.cells #[v] t)) : Box w g v := by
  have hg : g < w.heap.size := by
    rcases Nat.lt_or_ge g w.heap.size with h4 | h4
    · exact h4
    · rw [Array.getElem?_eq_none h4] at h; cases h
  exact ⟨by simp [World.cell?, h], by simp [World.frozen?, h], hg⟩
theorem load_rrat {w : World} {b : Nat} {x y z : Value} (h : Box3 w b x y z) : (loadVar 44 ⟨b, 0, none⟩).run Tryz.prog w = .ok (.agg #[x, y, z]) w := by
  have h0 := h.c0
  have h1 := h.c1
  have h2 := h.c2
  simp [go_sem, h0, h1, h2]
theorem ret_rrat {fn : Func} {s : Nat} {R : Ending → World → Prop} {a : Act} {w : World} {b : Nat} {x y z : Value} (hres : fn.results = #[.cell s 44]) (hp : a.tmps.getD s undef = .pointer (some ⟨b, 0, none⟩)) (hc : Box3 w b x y z) (hd : a.defers = []) (hR : R (.returned (.agg #[x, y, z])) w) : bodyPost Tryz.prog fn R .ret a w := by
  refine bodyPost_ret (v := .agg #[x, y, z]) ?_ hd hR
  have hp' : a.tmps[s]?.getD undef = .pointer (some ⟨b, 0, none⟩) := by simpa using hp
  simp only [results, hres]
  simp [Sem.run_bind, Sem.run_pure, Result.andThen, hp', asAddr, load_rrat hc]
theorem ret_rrat_tmp {fn : Func} {s t : Nat} {R : Ending → World → Prop} {a : Act} {w : World} {b : Nat} {x y z u : Value} (hres : fn.results = #[.cell s 44, .tmp t]) (hp : a.tmps.getD s undef = .pointer (some ⟨b, 0, none⟩)) (hu : a.tmps.getD t undef = u) (hc : Box3 w b x y z) (hd : a.defers = []) (hR : R (.returned (.tuple #[.agg #[x, y, z], u])) w) : bodyPost Tryz.prog fn R .ret a w := by
  refine bodyPost_ret (v := .tuple #[.agg #[x, y, z], u]) ?_ hd hR
  rw [results_cell_tmp hres, hp, hu]
  simp [asAddr, load_rrat hc]
def RQPostC (w : World) (q : Rat) (c : Int) (e : Ending) (w' : World) : Prop := ∃ r, e = .returned (.tuple #[r, .int .i64 c]) ∧ RQIs w' r q ∧ Below w.heap.size w w'
section
variable {fn : Func} {s : Nat} {act : Act} {w w9 : World} {b : Nat} {s0 : Bool} {o1 o2 : Option Addr} {l1 l2 c1 c2 : Nat} {u0 u1 u2 : Value} {q : Rat}
theorem end_r (hres : fn.results = #[.cell s 44]) (hp : act.tmps.getD s undef = .pointer (some ⟨b, 0, none⟩)) (hd : act.defers = []) (hb : Box3 w9 b (.bool s0) (.slice o1 l1 c1) (.slice o2 l2 c2)) (hge : w.heap.size ≤ b) (hq : RQIs w9 (.agg #[u0, u1, u2]) q) (hB : Below w.heap.size w w9) :
    bodyPost Tryz.prog fn (RQPost w q) .ret act (((w9.setCell ⟨b, 0, none⟩ u0).setCell ⟨b, 1, none⟩ u1).setCell ⟨b, 2, none⟩ u2) :=
  ret_rrat hres hp hb.set3 hd ⟨_, rfl, hq.set3 hb, below_set3 hB hge⟩
theorem end_rc {t : Nat} {c : Int} (hres : fn.results = #[.cell s 44, .tmp t]) (hp : act.tmps.getD s undef = .pointer (some ⟨b, 0, none⟩)) (hu : act.tmps.getD t undef = .int .i64 c) (hd : act.defers = []) (hb : Box3 w9 b (.bool s0) (.slice o1 l1 c1) (.slice o2 l2 c2)) (hge : w.heap.size ≤ b) (hq : RQIs w9 (.agg #[u0, u1, u2]) q) (hB : Below w.heap.size w w9) :
    bodyPost Tryz.prog fn (RQPostC w q c) .ret act (((w9.setCell ⟨b, 0, none⟩ u0).setCell ⟨b, 1, none⟩ u1).setCell ⟨b, 2, none⟩ u2) :=
  ret_rrat_tmp hres hp hu hb.set3 hd ⟨_, rfl, hq.set3 hb, below_set3 hB hge⟩
end
theorem RQIs.made {w : World} {x y : Value} {n d : Nat} {neg s : Bool} (hd : 0 < d) (hs : s = (neg && decide (0 < n))) (hx : RIs w x (n / Nat.gcd n d)) (hy : RIs w y (d / Nat.gcd n d)) : RQIs w (.agg #[.bool s, x, y]) (qOf neg n d) := by
  refine RQIs.mk ?_ (by rw [qOf_num hd, sg_natAbs]; exact hx) (by rw [qOf_den hd]; exact hy)
  rw [hs]
  rcases Nat.eq_zero_or_pos n with h | h
  · subst h
    rw [qOf_zero]
    cases neg <;> decide
  · rw [qOf_neg h hd, decide_eq_true h]; simp
theorem RQIs.zero {w : World} {y : Value} (hy : RIs w y 1) : RQIs w (.agg #[.bool false, .slice none 0 0, y]) 0 := RQIs.mk (by decide) (RIs.nil w) hy
theorem QPostC.out {w w' : World} {q : Rat} {c : Int} {e : Ending} (h : QPostC w q c e w') : ∃ s xo xl xc yo yl yc, e = .returned (.tuple #[.agg #[.bool s, .slice xo xl xc, .slice yo yl yc], .int .i64 c]) ∧ s = decide (q < 0) ∧ NatIs w' (.agg #[.slice xo xl xc]) q.num.natAbs ∧ NatIs w' (.agg #[.slice yo yl yc]) (den0 q) ∧ QIs w' (.agg #[.bool s, .slice xo xl xc, .slice yo yl yc]) q ∧ Below w.heap.size w w' := by
  obtain ⟨r, rfl, hq, hb⟩ := h
  obtain ⟨s, xo, xl, xc, yo, yl, yc, rfl, h1, h2, h3⟩ := hq.form
  exact ⟨_, _, _, _, _, _, _, rfl, h1, h2, h3, hq, hb⟩
theorem RQPostC.out {w w' : World} {q : Rat} {c : Int} {e : Ending} (h : RQPostC w q c e w') : ∃ s xo xl xc yo yl yc, e = .returned (.tuple #[.agg #[.bool s, .slice xo xl xc, .slice yo yl yc], .int .i64 c]) ∧ s = decide (q < 0) ∧ RIs w' (.slice xo xl xc) q.num.natAbs ∧ RIs w' (.slice yo yl yc) q.den ∧ RQIs w' (.agg #[.bool s, .slice xo xl xc, .slice yo yl yc]) q ∧ Below w.heap.size w w' := by
  obtain ⟨r, rfl, hq, hb⟩ := h
  obtain ⟨s, xo, xl, xc, yo, yl, yc, rfl, h1, h2, h3⟩ := hq.form
  exact ⟨_, _, _, _, _, _, _, rfl, h1, h2, h3, hq, hb⟩
end Go.Proofs.YtieffhkfefimeaaGreatDoor

namespace Go.Proofs.YtieffhkfefimeaaGreatDoor
open Go.RowKit
set_option linter.unusedVariables false
set_option linter.unusedSimpArgs false
/-- A block of two cells, a variable of the call's own. -/
structure Box2 (w : World) (b : Nat) (x y : Value) : Prop where
  c0 : w.cell? ⟨b, 0, none⟩ = some x
  c1 : w.cell? ⟨b, 1, none⟩ = some y
  f0 : w.frozen? ⟨b, 0, none⟩ = false
  f1 : w.frozen? ⟨b, 1, none⟩ = false
theorem Box2.lt {w : World} {b : Nat} {x y : Value} (h : Box2 w b x y) : b < w.heap.size := World.block_lt_of_cell? w ⟨b, 0, none⟩ h.c0
theorem Box2.below {w w' : World} {b B : Nat} {x y : Value} (h : Box2 w b x y) (hb : Below B w w') (hlt : b < B) : Box2 w' b x y :=
  ⟨(hb.cell (p := ⟨b, 0, none⟩) hlt).trans h.c0, (hb.cell (p := ⟨b, 1, none⟩) hlt).trans h.c1, (hb.frozen (p := ⟨b, 0, none⟩) hlt).trans h.f0, (hb.frozen (p := ⟨b, 1, none⟩) hlt).trans h.f1⟩
theorem Box2.kept {w w' : World} {b : Nat} {x y : Value} (h : Box2 w b x y) (hb : Below w.heap.size w w') : Box2 w' b x y := h.below hb h.lt
theorem Box2.drew {w : World} {b : Nat} {x y : Value} (h : Box2 w b x y) : Box2 w.drew b x y := ⟨h.c0, h.c1, h.f0, h.f1⟩
theorem Box2.setOther {w : World} {b g : Nat} {x y : Value} (h : Box2 w b x y) (hne : b ≠ g) (j : Nat) (u : Value) : Box2 (w.setCell ⟨g, j, none⟩ u) b x y := by
  have hg : (w.setCell ⟨g, j, none⟩ u).heap[b]? = w.heap[b]? := (grownBy_set (grownBy_refl w (some g)) j u).block b h.lt (by simpa using hne)
  exact ⟨(World.cell?_of_block (w := w) (a := ⟨b, 0, none⟩) hg).trans h.c0, (World.cell?_of_block (w := w) (a := ⟨b, 1, none⟩) hg).trans h.c1, (World.frozen?_of_block (w := w) (a := ⟨b, 0, none⟩) hg).trans h.f0, (World.frozen?_of_block (w := w) (a := ⟨b, 1, none⟩) hg).trans h.f1⟩
theorem Box2.set2 {w : World} {b : Nat} {x y u0 u1 : Value} (h : Box2 w b x y) : Box2 ((w.setCell ⟨b, 0, none⟩ u0).setCell ⟨b, 1, none⟩ u1) b u0 u1 := by
  have e0 := h.c0
  have e1 := h.c1
  have g0 := h.f0
  have g1 := h.f1
  exact ⟨by go_simp, by go_simp, by go_simp, by go_simp⟩
theorem load_form {w : World} {b : Nat} {x y : Value} (h : Box2 w b x y) : (loadVar 84 ⟨b, 0, none⟩).run Tryz.prog w = .ok (.agg #[x, y]) w := by
  have h0 := h.c0
  have h1 := h.c1
  simp [go_sem, h0, h1]
theorem ret_form {fn : Func} {s : Nat} {R : Ending → World → Prop} {a : Act} {w : World} {b : Nat} {x y : Value} (hres : fn.results = #[.cell s 84]) (hp : a.tmps.getD s undef = .pointer (some ⟨b, 0, none⟩)) (hc : Box2 w b x y) (hd : a.defers = []) (hR : R (.returned (.agg #[x, y])) w) : bodyPost Tryz.prog fn R .ret a w := by
  refine bodyPost_ret (v := .agg #[x, y]) ?_ hd hR
  have hp' : a.tmps[s]?.getD undef = .pointer (some ⟨b, 0, none⟩) := by simpa using hp
  simp only [results, hres]
  simp [Sem.run_bind, Sem.run_pure, Result.andThen, hp', asAddr, load_form hc]
/-- A form as a value. -/
abbrev formV (e f : Int) : Value := .agg #[.int .i64 e, .int .i64 f]
/-! Bits of patterns. -/
theorem and_mask {x k : Nat} (hx : x < 18446744073709551616) (hk : k < 64) : bits .and .u64 (x : Int) ((2 ^ k - 1 : Nat) : Int) = ((x % 2 ^ k : Nat) : Int) := by
  have h2 : 2 ^ k - 1 < 18446744073709551616 := by
    have : 2 ^ k ≤ 2 ^ 63 := Nat.pow_le_pow_right (by decide) (by omega)
    omega
  rw [bits_and_u64_nat _ _ hx h2, Nat.and_two_pow_sub_one_eq_mod]
theorem and_bit {x k : Nat} (hx : x < 18446744073709551616) (hk : k < 64) : bits .and .u64 (x : Int) ((2 ^ k : Nat) : Int) = (((x.testBit k).toNat * 2 ^ k : Nat) : Int) := by
  have h2 : 2 ^ k < 18446744073709551616 := by
    have : 2 ^ k ≤ 2 ^ 63 := Nat.pow_le_pow_right (by decide) (by omega)
    omega
  rw [bits_and_u64_nat _ _ hx h2]
  congr 1
  apply Nat.eq_of_testBit_eq
  intro i
  rw [Nat.testBit_and, Nat.testBit_two_pow]
  by_cases hi : k = i
  · subst hi
    cases x.testBit k <;> simp [Nat.testBit_two_pow]
  · rw [decide_eq_false hi, Bool.and_false]
    cases x.testBit k <;> simp [Nat.testBit_two_pow, hi]
theorem or_top {n k : Nat} (hn : n < 2 ^ k) (hk : k < 64) : bits .or .u64 (n : Int) ((2 ^ k : Nat) : Int) = ((n + 2 ^ k : Nat) : Int) := by
  have h2 : 2 ^ k < 18446744073709551616 := by
    have : 2 ^ k ≤ 2 ^ 63 := Nat.pow_le_pow_right (by decide) (by omega)
    omega
  rw [bits_or_u64_nat _ _ (by omega) h2, Nat.or_comm]
  have := Nat.two_pow_add_eq_or_of_lt hn 1
  rw [Nat.mul_one] at this
  rw [← this, Nat.add_comm]
end Go.Proofs.YtieffhkfefimeaaGreatDoor
