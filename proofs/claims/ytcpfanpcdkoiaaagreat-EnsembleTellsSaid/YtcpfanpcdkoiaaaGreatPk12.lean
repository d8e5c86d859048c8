/-
  Pk12: HeapQ HeapF SeqF (what is needed of them).
-/
import Derived.Test.YtcpfanpcdkoiaaaGreatPk07
import Derived.Test.YtcpfanpcdkoiaaaGreatPk10
import Derived.Laws.Bits64b
import Derived.OwnWalkIn
set_option maxRecDepth 100000
set_option linter.unusedVariables false
set_option linter.unusedSimpArgs false

namespace Go.Proofs.YtcpfanpcdkoiaaaGreat
open Go.RowKit


structure Box3 (w : World) (b : Nat) (x y z : Value) : Prop where
 c0 : w.cell? ⟨b, 0, none⟩ = some x
 c1 : w.cell? ⟨b, 1, none⟩ = some y
 c2 : w.cell? ⟨b, 2, none⟩ = some z
 f0 : w.frozen? ⟨b, 0, none⟩ = false
 f1 : w.frozen? ⟨b, 1, none⟩ = false
 f2 : w.frozen? ⟨b, 2, none⟩ = false
theorem Box3.lt {w : World} {b : Nat} {x y z : Value} (h : Box3 w b x y z) : b < w.heap.size := World.block_lt_of_cell? w ⟨b, 0, none⟩ h.c0
theorem Box3.below {w w' : World} {b B : Nat} {x y z : Value} (h : Box3 w b x y z) (hb : Below B w w') (hlt : b < B) : Box3 w' b x y z :=
 ⟨(hb.cell (p := ⟨b, 0, none⟩) hlt).trans h.c0, (hb.cell (p := ⟨b, 1, none⟩) hlt).trans h.c1, (hb.cell (p := ⟨b, 2, none⟩) hlt).trans h.c2,
  (hb.frozen (p := ⟨b, 0, none⟩) hlt).trans h.f0, (hb.frozen (p := ⟨b, 1, none⟩) hlt).trans h.f1, (hb.frozen (p := ⟨b, 2, none⟩) hlt).trans h.f2⟩
theorem Box3.kept {w w' : World} {b : Nat} {x y z : Value} (h : Box3 w b x y z) (hb : Below w.heap.size w w') : Box3 w' b x y z := h.below hb h.lt
def den0 (q : Rat) : Nat := if q = 0 then 0 else q.den
def QIs (w : World) (v : Value) (q : Rat) : Prop := ∃ xo xl xc yo yl yc, v = .agg #[.bool (decide (q < 0)), .slice xo xl xc, .slice yo yl yc] ∧ NatIs w (.agg #[.slice xo xl xc]) q.num.natAbs ∧ NatIs w (.agg #[.slice yo yl yc]) (den0 q)
theorem QIs.below {w w' : World} {v : Value} {q : Rat} (h : QIs w v q) (hb : Below w.heap.size w w') : QIs w' v q := by
 obtain ⟨xo, xl, xc, yo, yl, yc, h1, h2, h3⟩ := h
 exact ⟨xo, xl, xc, yo, yl, yc, h1, h2.below hb, h3.below hb⟩
theorem QIs.mk {w : World} {x y : Value} {q : Rat} {s : Bool} (hs : s = decide (q < 0)) (h2 : NatIs w (.agg #[x]) q.num.natAbs) (h3 : NatIs w (.agg #[y]) (den0 q)) : QIs w (.agg #[.bool s, x, y]) q := by
 obtain ⟨ao, ca, h8, _⟩ := h2.open
 obtain ⟨bo, cb, h9, _⟩ := h3.open
 cases h8
 cases h9
 subst hs
 exact ⟨_, _, _, _, _, _, rfl, h2, h3⟩
theorem QIs.zero (w : World) : QIs w (.agg #[.bool false, .slice none 0 0, .slice none 0 0]) 0 := QIs.mk (by decide) (NatIs.zero w) (NatIs.zero w)
def RQIs (w : World) (v : Value) (q : Rat) : Prop := ∃ xo xl xc yo yl yc, v = .agg #[.bool (decide (q < 0)), .slice xo xl xc, .slice yo yl yc] ∧ RIs w (.slice xo xl xc) q.num.natAbs ∧ RIs w (.slice yo yl yc) q.den
theorem RQIs.below {w w' : World} {v : Value} {q : Rat} (h : RQIs w v q) (hb : Below w.heap.size w w') : RQIs w' v q := by
 obtain ⟨xo, xl, xc, yo, yl, yc, h1, h2, h3⟩ := h
 exact ⟨xo, xl, xc, yo, yl, yc, h1, h2.below hb, h3.below hb⟩
theorem load_rat {w : World} {b : Nat} {x y z : Value} (h : Box3 w b x y z) : (loadVar 182 ⟨b, 0, none⟩).run Tryz.prog w = .ok (.agg #[x, y, z]) w := by
 have h0 := h.c0
 have h1 := h.c1
 have h2 := h.c2
 simp [go_sem, h0, h1, h2]
theorem ret_rat {fn : Func} {s : Nat} {R : Ending → World → Prop} {a : Act} {w : World} {b : Nat} {x y z : Value} (hres : fn.results = #[.cell s 182]) (hp : a.tmps.getD s undef = .pointer (some ⟨b, 0, none⟩)) (hc : Box3 w b x y z) (hd : a.defers = []) (hR : R (.returned (.agg #[x, y, z])) w) : bodyPost Tryz.prog fn R .ret a w := by
 refine bodyPost_ret (v := .agg #[x, y, z]) ?_ hd hR
 have hp' : a.tmps[s]?.getD undef = .pointer (some ⟨b, 0, none⟩) := by simpa using hp
 simp only [results, hres]
 simp [Sem.run_bind, Sem.run_pure, Result.andThen, hp', asAddr, load_rat hc]
theorem ret_rat_tmp {fn : Func} {s t : Nat} {R : Ending → World → Prop} {a : Act} {w : World} {b : Nat} {x y z u : Value} (hres : fn.results = #[.cell s 182, .tmp t]) (hp : a.tmps.getD s undef = .pointer (some ⟨b, 0, none⟩)) (hu : a.tmps.getD t undef = u) (hc : Box3 w b x y z) (hd : a.defers = []) (hR : R (.returned (.tuple #[.agg #[x, y, z], u])) w) : bodyPost Tryz.prog fn R .ret a w := by
 refine bodyPost_ret (v := .tuple #[.agg #[x, y, z], u]) ?_ hd hR
 rw [results_cell_tmp hres, hp, hu]
 simp [asAddr, load_rat hc]
theorem Box3.set0 {w : World} {b : Nat} {x y z : Value} (h : Box3 w b x y z) (u : Value) : Box3 (w.setCell ⟨b, 0, none⟩ u) b u y z := by
 have e0 := h.c0
 have e1 := h.c1
 have e2 := h.c2
 have g0 := h.f0
 have g1 := h.f1
 have g2 := h.f2
 exact ⟨by go_simp, by go_simp, by go_simp, by go_simp, by go_simp, by go_simp⟩
theorem Box3.set1 {w : World} {b : Nat} {x y z : Value} (h : Box3 w b x y z) (u : Value) : Box3 (w.setCell ⟨b, 1, none⟩ u) b x u z := by
 have e0 := h.c0
 have e1 := h.c1
 have e2 := h.c2
 have g0 := h.f0
 have g1 := h.f1
 have g2 := h.f2
 exact ⟨by go_simp, by go_simp, by go_simp, by go_simp, by go_simp, by go_simp⟩
theorem Box3.set2 {w : World} {b : Nat} {x y z : Value} (h : Box3 w b x y z) (u : Value) : Box3 (w.setCell ⟨b, 2, none⟩ u) b x y u := by
 have e0 := h.c0
 have e1 := h.c1
 have e2 := h.c2
 have g0 := h.f0
 have g1 := h.f1
 have g2 := h.f2
 exact ⟨by go_simp, by go_simp, by go_simp, by go_simp, by go_simp, by go_simp⟩
theorem Box3.setOther {w : World} {b g : Nat} {x y z : Value} (h : Box3 w b x y z) (hne : b ≠ g) (j : Nat) (u : Value) : Box3 (w.setCell ⟨g, j, none⟩ u) b x y z := by
 have hg : (w.setCell ⟨g, j, none⟩ u).heap[b]? = w.heap[b]? := (grownBy_set (grownBy_refl w (some g)) j u).block b h.lt (by simpa using hne)
 exact ⟨(World.cell?_of_block (w := w) (a := ⟨b, 0, none⟩) hg).trans h.c0, (World.cell?_of_block (w := w) (a := ⟨b, 1, none⟩) hg).trans h.c1, (World.cell?_of_block (w := w) (a := ⟨b, 2, none⟩) hg).trans h.c2,
  (World.frozen?_of_block (w := w) (a := ⟨b, 0, none⟩) hg).trans h.f0, (World.frozen?_of_block (w := w) (a := ⟨b, 1, none⟩) hg).trans h.f1, (World.frozen?_of_block (w := w) (a := ⟨b, 2, none⟩) hg).trans h.f2⟩
theorem NatIs.form {w : World} {v : Value} {n : Nat} (h : NatIs w v n) : ∃ o l c, v = .agg #[.slice o l c] := by
 obtain ⟨ao, ca, rfl, _⟩ := h.open
 exact ⟨_, _, _, rfl⟩
theorem RIs.form {w : World} {v : Value} {n : Nat} (h : RIs w v n) : ∃ o l c, v = .slice o l c := by
 obtain ⟨ao, ca, rfl, _⟩ := h.open
 exact ⟨_, _, _, rfl⟩
theorem NatIs.setS {w : World} {v u : Value} {n p l c : Nat} {o : Option Addr} (h : NatIs w v n) (hb : Box w p (.slice o l c)) : NatIs (w.setCell ⟨p, 0, none⟩ u) v n := h.set _ _ (fun n e => by rw [hb.cell] at e; cases e)
theorem QIs.form {w : World} {v : Value} {q : Rat} (h : QIs w v q) : ∃ s xo xl xc yo yl yc, v = .agg #[.bool s, .slice xo xl xc, .slice yo yl yc] ∧ s = decide (q < 0) ∧ NatIs w (.agg #[.slice xo xl xc]) q.num.natAbs ∧ NatIs w (.agg #[.slice yo yl yc]) (den0 q) := by
 obtain ⟨xo, xl, xc, yo, yl, yc, h1, h2, h3⟩ := h
 exact ⟨_, xo, xl, xc, yo, yl, yc, h1, rfl, h2, h3⟩
theorem RQIs.form {w : World} {v : Value} {q : Rat} (h : RQIs w v q) : ∃ s xo xl xc yo yl yc, v = .agg #[.bool s, .slice xo xl xc, .slice yo yl yc] ∧ s = decide (q < 0) ∧ RIs w (.slice xo xl xc) q.num.natAbs ∧ RIs w (.slice yo yl yc) q.den := by
 obtain ⟨xo, xl, xc, yo, yl, yc, h1, h2, h3⟩ := h
 exact ⟨_, xo, xl, xc, yo, yl, yc, h1, rfl, h2, h3⟩
theorem RQIs.mk {w : World} {x y : Value} {q : Rat} {s : Bool} (hs : s = decide (q < 0)) (h2 : RIs w x q.num.natAbs) (h3 : RIs w y q.den) : RQIs w (.agg #[.bool s, x, y]) q := by
 obtain ⟨ao, ca, rfl, _⟩ := h2.open
 obtain ⟨bo, cb, rfl, _⟩ := h3.open
 subst hs
 exact ⟨_, _, _, _, _, _, rfl, h2, h3⟩
theorem RIs.set {w : World} {v : Value} {n : Nat} (h : RIs w v n) (p : Addr) (u : Value) (hp : ∀ n, w.cell? p ≠ some (.int .i64 n)) : RIs (w.setCell p u) v n := Ints.set h p u hp
theorem RIs.setS {w : World} {v u : Value} {n p l c : Nat} {o : Option Addr} (h : RIs w v n) (hb : Box w p (.slice o l c)) : RIs (w.setCell ⟨p, 0, none⟩ u) v n := h.set _ _ (fun n e => by rw [hb.cell] at e; cases e)
section
variable {w : World} {b : Nat} {s0 : Bool} {o1 o2 : Option Addr} {l1 l2 c1 c2 : Nat} {u0 u1 u2 : Value}
theorem NatIs.set3 {v : Value} {n : Nat} (h : NatIs w v n) (hb : Box3 w b (.bool s0) (.slice o1 l1 c1) (.slice o2 l2 c2)) : NatIs (((w.setCell ⟨b, 0, none⟩ u0).setCell ⟨b, 1, none⟩ u1).setCell ⟨b, 2, none⟩ u2) v n := by
 have e1 := (hb.set0 u0).c1
 have e2 := ((hb.set0 u0).set1 u1).c2
 exact ((h.set _ _ (fun n e => by rw [hb.c0] at e; cases e)).set _ _ (fun n e => by rw [e1] at e; cases e)).set _ _ (fun n e => by rw [e2] at e; cases e)
theorem RIs.set3 {v : Value} {n : Nat} (h : RIs w v n) (hb : Box3 w b (.bool s0) (.slice o1 l1 c1) (.slice o2 l2 c2)) : RIs (((w.setCell ⟨b, 0, none⟩ u0).setCell ⟨b, 1, none⟩ u1).setCell ⟨b, 2, none⟩ u2) v n := by
 have e1 := (hb.set0 u0).c1
 have e2 := ((hb.set0 u0).set1 u1).c2
 exact ((h.set _ _ (fun n e => by rw [hb.c0] at e; cases e)).set _ _ (fun n e => by rw [e1] at e; cases e)).set _ _ (fun n e => by rw [e2] at e; cases e)
theorem QIs.set3 {v : Value} {q : Rat} (h : QIs w v q) (hb : Box3 w b (.bool s0) (.slice o1 l1 c1) (.slice o2 l2 c2)) : QIs (((w.setCell ⟨b, 0, none⟩ u0).setCell ⟨b, 1, none⟩ u1).setCell ⟨b, 2, none⟩ u2) v q := by
 obtain ⟨s, xo, xl, xc, yo, yl, yc, rfl, h1, h2, h3⟩ := h.form
 exact QIs.mk h1 (h2.set3 hb) (h3.set3 hb)
theorem RQIs.set3 {v : Value} {q : Rat} (h : RQIs w v q) (hb : Box3 w b (.bool s0) (.slice o1 l1 c1) (.slice o2 l2 c2)) : RQIs (((w.setCell ⟨b, 0, none⟩ u0).setCell ⟨b, 1, none⟩ u1).setCell ⟨b, 2, none⟩ u2) v q := by
 obtain ⟨s, xo, xl, xc, yo, yl, yc, rfl, h1, h2, h3⟩ := h.form
 exact RQIs.mk h1 (h2.set3 hb) (h3.set3 hb)
theorem QIs.setS {v u : Value} {q : Rat} {p l c : Nat} {o : Option Addr} (h : QIs w v q) (hb : Box w p (.slice o l c)) : QIs (w.setCell ⟨p, 0, none⟩ u) v q := by
 obtain ⟨s, xo, xl, xc, yo, yl, yc, rfl, h1, h2, h3⟩ := h.form
 exact QIs.mk h1 (h2.setS hb) (h3.setS hb)
theorem RQIs.setS {v u : Value} {q : Rat} {p l c : Nat} {o : Option Addr} (h : RQIs w v q) (hb : Box w p (.slice o l c)) : RQIs (w.setCell ⟨p, 0, none⟩ u) v q := by
 obtain ⟨s, xo, xl, xc, yo, yl, yc, rfl, h1, h2, h3⟩ := h.form
 exact RQIs.mk h1 (h2.setS hb) (h3.setS hb)
theorem Box.set3 {g : Nat} {v : Value} (h : Box w g v) (hne : g ≠ b) : Box (((w.setCell ⟨b, 0, none⟩ u0).setCell ⟨b, 1, none⟩ u1).setCell ⟨b, 2, none⟩ u2) g v := ((h.setOther hne 0 u0).setOther hne 1 u1).setOther hne 2 u2
theorem Box3.set3o {g : Nat} {x y z : Value} (h : Box3 w g x y z) (hne : g ≠ b) : Box3 (((w.setCell ⟨b, 0, none⟩ u0).setCell ⟨b, 1, none⟩ u1).setCell ⟨b, 2, none⟩ u2) g x y z := ((h.setOther hne 0 u0).setOther hne 1 u1).setOther hne 2 u2
theorem Box3.set3 {x y z : Value} (h : Box3 w b x y z) : Box3 (((w.setCell ⟨b, 0, none⟩ u0).setCell ⟨b, 1, none⟩ u1).setCell ⟨b, 2, none⟩ u2) b u0 u1 u2 := ((h.set0 u0).set1 u1).set2 u2
theorem below_set3 {B : Nat} {w0 : World} (h : Below B w0 w) (hb : B ≤ b) : Below B w0 (((w.setCell ⟨b, 0, none⟩ u0).setCell ⟨b, 1, none⟩ u1).setCell ⟨b, 2, none⟩ u2) :=
 ((h.setCell (p := ⟨b, 0, none⟩) hb _).setCell (p := ⟨b, 1, none⟩) hb _).setCell (p := ⟨b, 2, none⟩) hb _
end
theorem Box3.drew {w : World} {b : Nat} {x y z : Value} (h : Box3 w b x y z) : Box3 w.drew b x y z := ⟨h.c0, h.c1, h.c2, h.f0, h.f1, h.f2⟩
def QPost (w : World) (q : Rat) (e : Ending) (w' : World) : Prop := ∃ r, e = .returned r ∧ QIs w' r q ∧ Below w.heap.size w w'
def QPostC (w : World) (q : Rat) (c : Int) (e : Ending) (w' : World) : Prop := ∃ r, e = .returned (.tuple #[r, .int .i64 c]) ∧ QIs w' r q ∧ Below w.heap.size w w'
def RQPost (w : World) (q : Rat) (e : Ending) (w' : World) : Prop := ∃ r, e = .returned r ∧ RQIs w' r q ∧ Below w.heap.size w w'
theorem QPost.out {w w' : World} {q : Rat} {e : Ending} (h : QPost w q e w') : ∃ s xo xl xc yo yl yc, e = .returned (.agg #[.bool s, .slice xo xl xc, .slice yo yl yc]) ∧ s = decide (q < 0) ∧ NatIs w' (.agg #[.slice xo xl xc]) q.num.natAbs ∧ NatIs w' (.agg #[.slice yo yl yc]) (den0 q) ∧ QIs w' (.agg #[.bool s, .slice xo xl xc, .slice yo yl yc]) q ∧ Below w.heap.size w w' := by
 obtain ⟨r, rfl, hq, hb⟩ := h
 obtain ⟨s, xo, xl, xc, yo, yl, yc, rfl, h1, h2, h3⟩ := hq.form
 exact ⟨_, _, _, _, _, _, _, rfl, h1, h2, h3, hq, hb⟩
theorem RQPost.out {w w' : World} {q : Rat} {e : Ending} (h : RQPost w q e w') : ∃ s xo xl xc yo yl yc, e = .returned (.agg #[.bool s, .slice xo xl xc, .slice yo yl yc]) ∧ s = decide (q < 0) ∧ RIs w' (.slice xo xl xc) q.num.natAbs ∧ RIs w' (.slice yo yl yc) q.den ∧ RQIs w' (.agg #[.bool s, .slice xo xl xc, .slice yo yl yc]) q ∧ Below w.heap.size w w' := by
 obtain ⟨r, rfl, hq, hb⟩ := h
 obtain ⟨s, xo, xl, xc, yo, yl, yc, rfl, h1, h2, h3⟩ := hq.form
 exact ⟨_, _, _, _, _, _, _, rfl, h1, h2, h3, hq, hb⟩
section
variable {fn : Func} {s : Nat} {act : Act} {w w9 : World} {b : Nat} {s0 : Bool} {o1 o2 : Option Addr} {l1 l2 c1 c2 : Nat} {u0 u1 u2 : Value} {q : Rat}
theorem end_q (hres : fn.results = #[.cell s 182]) (hp : act.tmps.getD s undef = .pointer (some ⟨b, 0, none⟩)) (hd : act.defers = []) (hb : Box3 w9 b (.bool s0) (.slice o1 l1 c1) (.slice o2 l2 c2)) (hge : w.heap.size ≤ b) (hq : QIs w9 (.agg #[u0, u1, u2]) q) (hB : Below w.heap.size w w9) :
  bodyPost Tryz.prog fn (QPost w q) .ret act (((w9.setCell ⟨b, 0, none⟩ u0).setCell ⟨b, 1, none⟩ u1).setCell ⟨b, 2, none⟩ u2) :=
 ret_rat hres hp hb.set3 hd ⟨_, rfl, hq.set3 hb, below_set3 hB hge⟩
theorem end_qc {t : Nat} {c : Int} (hres : fn.results = #[.cell s 182, .tmp t]) (hp : act.tmps.getD s undef = .pointer (some ⟨b, 0, none⟩)) (hu : act.tmps.getD t undef = .int .i64 c) (hd : act.defers = []) (hb : Box3 w9 b (.bool s0) (.slice o1 l1 c1) (.slice o2 l2 c2)) (hge : w.heap.size ≤ b) (hq : QIs w9 (.agg #[u0, u1, u2]) q) (hB : Below w.heap.size w w9) :
  bodyPost Tryz.prog fn (QPostC w q c) .ret act (((w9.setCell ⟨b, 0, none⟩ u0).setCell ⟨b, 1, none⟩ u1).setCell ⟨b, 2, none⟩ u2) :=
 ret_rat_tmp hres hp hu hb.set3 hd ⟨_, rfl, hq.set3 hb, below_set3 hB hge⟩
end
theorem QIs.made {w : World} {x y : Value} {n d : Nat} {neg : Bool} (hn : 0 < n) (hd : 0 < d) (hx : NatIs w (.agg #[x]) (n / Nat.gcd n d)) (hy : NatIs w (.agg #[y]) (d / Nat.gcd n d)) : QIs w (.agg #[.bool neg, x, y]) (qOf neg n d) :=
 QIs.mk (qOf_neg hn hd).symm (by rw [qOf_num hd, sg_natAbs]; exact hx) (by unfold den0; rw [if_neg (qOf_eq_zero hn hd), qOf_den hd]; exact hy)
theorem box_heap {w : World} {g : Nat} {v : Value} {t : TypeId} (h : w.heap[g]? = some (.cells #[v] t)) : Box w g v := by
 have hg : g < w.heap.size := by
  rcases Nat.lt_or_ge g w.heap.size with h4 | h4
  ·exact h4
  ·rw [Array.getElem?_eq_none h4] at h; cases h
 exact ⟨by simp [World.cell?, h], by simp [World.frozen?, h], hg⟩
theorem load_rrat {w : World} {b : Nat} {x y z : Value} (h : Box3 w b x y z) : (loadVar 193 ⟨b, 0, none⟩).run Tryz.prog w = .ok (.agg #[x, y, z]) w := by
 have h0 := h.c0
 have h1 := h.c1
 have h2 := h.c2
 simp [go_sem, h0, h1, h2]
theorem ret_rrat {fn : Func} {s : Nat} {R : Ending → World → Prop} {a : Act} {w : World} {b : Nat} {x y z : Value} (hres : fn.results = #[.cell s 193]) (hp : a.tmps.getD s undef = .pointer (some ⟨b, 0, none⟩)) (hc : Box3 w b x y z) (hd : a.defers = []) (hR : R (.returned (.agg #[x, y, z])) w) : bodyPost Tryz.prog fn R .ret a w := by
 refine bodyPost_ret (v := .agg #[x, y, z]) ?_ hd hR
 have hp' : a.tmps[s]?.getD undef = .pointer (some ⟨b, 0, none⟩) := by simpa using hp
 simp only [results, hres]
 simp [Sem.run_bind, Sem.run_pure, Result.andThen, hp', asAddr, load_rrat hc]
theorem ret_rrat_tmp {fn : Func} {s t : Nat} {R : Ending → World → Prop} {a : Act} {w : World} {b : Nat} {x y z u : Value} (hres : fn.results = #[.cell s 193, .tmp t]) (hp : a.tmps.getD s undef = .pointer (some ⟨b, 0, none⟩)) (hu : a.tmps.getD t undef = u) (hc : Box3 w b x y z) (hd : a.defers = []) (hR : R (.returned (.tuple #[.agg #[x, y, z], u])) w) : bodyPost Tryz.prog fn R .ret a w := by
 refine bodyPost_ret (v := .tuple #[.agg #[x, y, z], u]) ?_ hd hR
 rw [results_cell_tmp hres, hp, hu]
 simp [asAddr, load_rrat hc]
def RQPostC (w : World) (q : Rat) (c : Int) (e : Ending) (w' : World) : Prop := ∃ r, e = .returned (.tuple #[r, .int .i64 c]) ∧ RQIs w' r q ∧ Below w.heap.size w w'
section
variable {fn : Func} {s : Nat} {act : Act} {w w9 : World} {b : Nat} {s0 : Bool} {o1 o2 : Option Addr} {l1 l2 c1 c2 : Nat} {u0 u1 u2 : Value} {q : Rat}
theorem end_r (hres : fn.results = #[.cell s 193]) (hp : act.tmps.getD s undef = .pointer (some ⟨b, 0, none⟩)) (hd : act.defers = []) (hb : Box3 w9 b (.bool s0) (.slice o1 l1 c1) (.slice o2 l2 c2)) (hge : w.heap.size ≤ b) (hq : RQIs w9 (.agg #[u0, u1, u2]) q) (hB : Below w.heap.size w w9) :
  bodyPost Tryz.prog fn (RQPost w q) .ret act (((w9.setCell ⟨b, 0, none⟩ u0).setCell ⟨b, 1, none⟩ u1).setCell ⟨b, 2, none⟩ u2) :=
 ret_rrat hres hp hb.set3 hd ⟨_, rfl, hq.set3 hb, below_set3 hB hge⟩
theorem end_rc {t : Nat} {c : Int} (hres : fn.results = #[.cell s 193, .tmp t]) (hp : act.tmps.getD s undef = .pointer (some ⟨b, 0, none⟩)) (hu : act.tmps.getD t undef = .int .i64 c) (hd : act.defers = []) (hb : Box3 w9 b (.bool s0) (.slice o1 l1 c1) (.slice o2 l2 c2)) (hge : w.heap.size ≤ b) (hq : RQIs w9 (.agg #[u0, u1, u2]) q) (hB : Below w.heap.size w w9) :
  bodyPost Tryz.prog fn (RQPostC w q c) .ret act (((w9.setCell ⟨b, 0, none⟩ u0).setCell ⟨b, 1, none⟩ u1).setCell ⟨b, 2, none⟩ u2) :=
 ret_rrat_tmp hres hp hu hb.set3 hd ⟨_, rfl, hq.set3 hb, below_set3 hB hge⟩
end
theorem RQIs.made {w : World} {x y : Value} {n d : Nat} {neg s : Bool} (hd : 0 < d) (hs : s = (neg && decide (0 < n))) (hx : RIs w x (n / Nat.gcd n d)) (hy : RIs w y (d / Nat.gcd n d)) : RQIs w (.agg #[.bool s, x, y]) (qOf neg n d) := by
 refine RQIs.mk ?_ (by rw [qOf_num hd, sg_natAbs]; exact hx) (by rw [qOf_den hd]; exact hy)
 rw [hs]
 rcases Nat.eq_zero_or_pos n with h | h
 ·subst h
  rw [qOf_zero]
  cases neg <;> decide
 ·rw [qOf_neg h hd, decide_eq_true h]; simp
theorem RQIs.zero {w : World} {y : Value} (hy : RIs w y 1) : RQIs w (.agg #[.bool false, .slice none 0 0, y]) 0 := RQIs.mk (by decide) (RIs.nil w) hy
theorem QPostC.out {w w' : World} {q : Rat} {c : Int} {e : Ending} (h : QPostC w q c e w') : ∃ s xo xl xc yo yl yc, e = .returned (.tuple #[.agg #[.bool s, .slice xo xl xc, .slice yo yl yc], .int .i64 c]) ∧ s = decide (q < 0) ∧ NatIs w' (.agg #[.slice xo xl xc]) q.num.natAbs ∧ NatIs w' (.agg #[.slice yo yl yc]) (den0 q) ∧ QIs w' (.agg #[.bool s, .slice xo xl xc, .slice yo yl yc]) q ∧ Below w.heap.size w w' := by
 obtain ⟨r, rfl, hq, hb⟩ := h
 obtain ⟨s, xo, xl, xc, yo, yl, yc, rfl, h1, h2, h3⟩ := hq.form
 exact ⟨_, _, _, _, _, _, _, rfl, h1, h2, h3, hq, hb⟩
theorem RQPostC.out {w w' : World} {q : Rat} {c : Int} {e : Ending} (h : RQPostC w q c e w') : ∃ s xo xl xc yo yl yc, e = .returned (.tuple #[.agg #[.bool s, .slice xo xl xc, .slice yo yl yc], .int .i64 c]) ∧ s = decide (q < 0) ∧ RIs w' (.slice xo xl xc) q.num.natAbs ∧ RIs w' (.slice yo yl yc) q.den ∧ RQIs w' (.agg #[.bool s, .slice xo xl xc, .slice yo yl yc]) q ∧ Below w.heap.size w w' := by
 obtain ⟨r, rfl, hq, hb⟩ := h
 obtain ⟨s, xo, xl, xc, yo, yl, yc, rfl, h1, h2, h3⟩ := hq.form
 exact ⟨_, _, _, _, _, _, _, rfl, h1, h2, h3, hq, hb⟩
end Go.Proofs.YtcpfanpcdkoiaaaGreat

namespace Go.Proofs.YtcpfanpcdkoiaaaGreat
open Go.RowKit


structure Box2 (w : World) (b : Nat) (x y : Value) : Prop where
 c0 : w.cell? ⟨b, 0, none⟩ = some x
 c1 : w.cell? ⟨b, 1, none⟩ = some y
 f0 : w.frozen? ⟨b, 0, none⟩ = false
 f1 : w.frozen? ⟨b, 1, none⟩ = false
theorem Box2.lt {w : World} {b : Nat} {x y : Value} (h : Box2 w b x y) : b < w.heap.size := World.block_lt_of_cell? w ⟨b, 0, none⟩ h.c0
theorem Box2.below {w w' : World} {b B : Nat} {x y : Value} (h : Box2 w b x y) (hb : Below B w w') (hlt : b < B) : Box2 w' b x y :=
 ⟨(hb.cell (p := ⟨b, 0, none⟩) hlt).trans h.c0, (hb.cell (p := ⟨b, 1, none⟩) hlt).trans h.c1, (hb.frozen (p := ⟨b, 0, none⟩) hlt).trans h.f0, (hb.frozen (p := ⟨b, 1, none⟩) hlt).trans h.f1⟩
theorem Box2.kept {w w' : World} {b : Nat} {x y : Value} (h : Box2 w b x y) (hb : Below w.heap.size w w') : Box2 w' b x y := h.below hb h.lt
theorem Box2.drew {w : World} {b : Nat} {x y : Value} (h : Box2 w b x y) : Box2 w.drew b x y := ⟨h.c0, h.c1, h.f0, h.f1⟩
theorem Box2.setOther {w : World} {b g : Nat} {x y : Value} (h : Box2 w b x y) (hne : b ≠ g) (j : Nat) (u : Value) : Box2 (w.setCell ⟨g, j, none⟩ u) b x y := by
 have hg : (w.setCell ⟨g, j, none⟩ u).heap[b]? = w.heap[b]? := (grownBy_set (grownBy_refl w (some g)) j u).block b h.lt (by simpa using hne)
 exact ⟨(World.cell?_of_block (w := w) (a := ⟨b, 0, none⟩) hg).trans h.c0, (World.cell?_of_block (w := w) (a := ⟨b, 1, none⟩) hg).trans h.c1, (World.frozen?_of_block (w := w) (a := ⟨b, 0, none⟩) hg).trans h.f0, (World.frozen?_of_block (w := w) (a := ⟨b, 1, none⟩) hg).trans h.f1⟩
theorem Box2.set2 {w : World} {b : Nat} {x y u0 u1 : Value} (h : Box2 w b x y) : Box2 ((w.setCell ⟨b, 0, none⟩ u0).setCell ⟨b, 1, none⟩ u1) b u0 u1 := by
 have e0 := h.c0
 have e1 := h.c1
 have g0 := h.f0
 have g1 := h.f1
 exact ⟨by go_simp, by go_simp, by go_simp, by go_simp⟩
theorem load_form {w : World} {b : Nat} {x y : Value} (h : Box2 w b x y) : (loadVar 185 ⟨b, 0, none⟩).run Tryz.prog w = .ok (.agg #[x, y]) w := by
 have h0 := h.c0
 have h1 := h.c1
 simp [go_sem, h0, h1]
theorem ret_form {fn : Func} {s : Nat} {R : Ending → World → Prop} {a : Act} {w : World} {b : Nat} {x y : Value} (hres : fn.results = #[.cell s 185]) (hp : a.tmps.getD s undef = .pointer (some ⟨b, 0, none⟩)) (hc : Box2 w b x y) (hd : a.defers = []) (hR : R (.returned (.agg #[x, y])) w) : bodyPost Tryz.prog fn R .ret a w := by
 refine bodyPost_ret (v := .agg #[x, y]) ?_ hd hR
 have hp' : a.tmps[s]?.getD undef = .pointer (some ⟨b, 0, none⟩) := by simpa using hp
 simp only [results, hres]
 simp [Sem.run_bind, Sem.run_pure, Result.andThen, hp', asAddr, load_form hc]
abbrev formV (e f : Int) : Value := .agg #[.int .i64 e, .int .i64 f]
/-! Bits of patterns. -/
theorem and_mask {x k : Nat} (hx : x < 18446744073709551616) (hk : k < 64) : bits .and .u64 (x : Int) ((2 ^ k - 1 : Nat) : Int) = ((x % 2 ^ k : Nat) : Int) := by
 have h2 : 2 ^ k - 1 < 18446744073709551616 := by
  have : 2 ^ k ≤ 2 ^ 63 := Nat.pow_le_pow_right (by decide) (by omega)
  omega
 rw [bits_and_u64_nat _ _ hx h2, Nat.and_two_pow_sub_one_eq_mod]
theorem and_bit {x k : Nat} (hx : x < 18446744073709551616) (hk : k < 64) : bits .and .u64 (x : Int) ((2 ^ k : Nat) : Int) = (((x.testBit k).toNat * 2 ^ k : Nat) : Int) := by
 have h2 : 2 ^ k < 18446744073709551616 := by
  have : 2 ^ k ≤ 2 ^ 63 := Nat.pow_le_pow_right (by decide) (by omega)
  omega
 rw [bits_and_u64_nat _ _ hx h2]
 congr 1
 apply Nat.eq_of_testBit_eq
 intro i
 rw [Nat.testBit_and, Nat.testBit_two_pow]
 by_cases hi : k = i
 ·subst hi
  cases x.testBit k <;> simp [Nat.testBit_two_pow]
 ·rw [decide_eq_false hi, Bool.and_false]
  cases x.testBit k <;> simp [Nat.testBit_two_pow, hi]
theorem or_top {n k : Nat} (hn : n < 2 ^ k) (hk : k < 64) : bits .or .u64 (n : Int) ((2 ^ k : Nat) : Int) = ((n + 2 ^ k : Nat) : Int) := by
 have h2 : 2 ^ k < 18446744073709551616 := by
  have : 2 ^ k ≤ 2 ^ 63 := Nat.pow_le_pow_right (by decide) (by omega)
  omega
 rw [bits_or_u64_nat _ _ (by omega) h2, Nat.or_comm]
 have := Nat.two_pow_add_eq_or_of_lt hn 1
 rw [Nat.mul_one] at this
 rw [← this, Nat.add_comm]
end Go.Proofs.YtcpfanpcdkoiaaaGreat

namespace Go.Proofs.YtcpfanpcdkoiaaaGreat
open Go.RowKit

structure Fl where
 i : Nat
 d : Nat
 z : Obj
structure Same (D : List Nat) (a a' : Act) : Prop where
 defers : a'.defers = a.defers
 size : a'.tmps.size = a.tmps.size
 slot : ∀ s, s ∉ D → a'.tmps[s]? = a.tmps[s]?
theorem Same.refl (D : List Nat) (a : Act) : Same D a a := ⟨rfl, rfl, fun _ _ => rfl⟩
theorem Same.put {D : List Nat} {a a' : Act} (h : Same D a a') (d : Option Tmp) (v : Value) : Same D (a.put d v) (a'.put d v) := by
 cases d with
 | none => exact h
 | some d =>
  refine ⟨h.defers, by simp [Act.put, h.size], fun s hs => ?_⟩
  simp only [Act.put, Array.getElem?_setIfInBounds, h.size]
  split
  ·rfl
  ·exact h.slot s hs
theorem Same.putIn {D : List Nat} {a a' : Act} (h : Same D a a') {d : Nat} (hd : d ∈ D) (v : Value) : Same D a (a'.put (some d) v) := by
 refine ⟨h.defers, by simp [Act.put, h.size], fun s hs => ?_⟩
 simp only [Act.put, Array.getElem?_setIfInBounds]
 rw [if_neg (fun e => by subst e; exact hs hd)]
 exact h.slot s hs
theorem Act.ext' {a b : Act} (h : a.tmps = b.tmps) (hd : a.defers = b.defers) : a = b := by
 cases a; cases b; cases h; cases hd; rfl
theorem Same.one {d : Nat} {a a' : Act} (h : Same [d] a a') : a' = a.put (some d) (a'.tmps.getD d undef) := by
 refine Act.ext' (Array.ext_getElem? fun i => ?_) h.defers
 simp only [Act.put, Array.getElem?_setIfInBounds]
 split
 ·rename_i e
  subst e
  rw [← h.size]
  split
  ·rename_i h1; simp [h1]
  ·rename_i h1; simp [h1]
 ·rename_i e
  exact h.slot i (by simpa using fun e2 => e e2.symm)
theorem Same.two {d e : Nat} {a a' : Act} (h : Same [d, e] a a') : a' = (a.put (some d) (a'.tmps.getD d undef)).put (some e) (a'.tmps.getD e undef) := by
 refine Act.ext' (Array.ext_getElem? fun i => ?_) h.defers
 simp only [Act.put, Array.getElem?_setIfInBounds, Array.size_setIfInBounds]
 split
 ·rename_i e
  subst e
  rw [← h.size]
  split
  ·rename_i h1; simp [h1]
  ·rename_i h1; simp [h1]
 ·split
  ·rename_i e
   subst e
   rw [← h.size]
   split
   ·rename_i h1; simp [h1]
   ·rename_i h1; simp [h1]
  ·rename_i e2 e1
   exact h.slot i (by simp only [List.mem_cons, List.not_mem_nil, or_false, not_or]; exact ⟨fun e3 => e1 e3.symm, fun e3 => e2 e3.symm⟩)
def At (base : Nat) (a : Act) (w : World) (f : Fl) : Prop := ∃ g, a.tmps.getD f.d undef = .pointer (some ⟨g, 0, none⟩) ∧ base ≤ g ∧ w.heap[g]? = some f.z
section
variable {P : Program} {ops : Array Oper} {Q : Exit → Act → World → Prop} {S : World → Prop}
def wpSeqF (P : Program) (ops : Array Oper) (Q : Exit → Act → World → Prop) (S : World → Prop) (base : Nat) (fs : List Fl) (l2 : List (Bool × Nat)) : List (Bool × Oper) → Act → World → Prop
 | [], a, w => ∀ a' w', Same (fs.map (·.d)) a a' → Below w.heap.size w w' → S w' → (∀ f ∈ fs, At base a' w' f) → (∀ f ∈ fs, ∀ f' ∈ fs, f.i ≠ f'.i → a'.tmps.getD f.d undef ≠ a'.tmps.getD f'.d undef) → wpSeqH P ops Q S (pickOps ops l2) a' w'
 | (true, o) :: rest, a, w => ∃ v, (∀ a', Same (fs.map (·.d)) a a' → YieldsIf P ops S o v a') ∧ wpSeqF P ops Q S base fs l2 rest (a.put o.dst v) w
 | (false, o) :: rest, a, w => ∀ a' w', Same (fs.map (·.d)) a a' → Below w.heap.size w w' → S w' → ∀ K : Act → World → Prop, Shut (∀ v w'', S w'' → Below w'.heap.size w' w'' → wpSeqF P ops Q S base fs l2 rest (a'.put o.dst v) w'' → K (a'.put o.dst v) w'') →
   Region.wanted o (yielded ops a'.tmps) = true ∧ Oper.wp P o a' w' K Q
theorem Same.trans {D : List Nat} {a b c : Act} (h : Same D a b) (h' : Same D b c) : Same D a c :=
 ⟨h'.defers.trans h.defers, h'.size.trans h.size, fun s hs => (h'.slot s hs).trans (h.slot s hs)⟩
theorem Same.symm {D : List Nat} {a b : Act} (h : Same D a b) : Same D b a :=
 ⟨h.defers.symm, h.size.symm, fun s hs => (h.slot s hs).symm⟩
theorem wpSeqF.same {base : Nat} {fs : List Fl} {l2 : List (Bool × Nat)} : ∀ (l : List (Bool × Oper)) {a b : Act} {w w' : World}, Same (fs.map (·.d)) a b → Below w.heap.size w w' → wpSeqF P ops Q S base fs l2 l a w → wpSeqF P ops Q S base fs l2 l b w'
 | [], a, b, w, w', hs, hb, h => fun a' w'' h1 h2 h3 h4 h5 => h a' w'' (hs.trans h1) (hb.trans (h2.mono hb.size)) h3 h4 h5
 | (true, o) :: rest, a, b, w, w', hs, hb, h => by
  obtain ⟨v, hy, h⟩ := h
  exact ⟨v, fun a' h1 => hy a' (hs.trans h1), wpSeqF.same rest (hs.put _ _) hb h⟩
 | (false, o) :: rest, a, b, w, w', hs, hb, h => fun a' w'' h1 h2 h3 => h a' w'' (hs.trans h1) (hb.trans (h2.mono hb.size)) h3
def okF (ops : Array Oper) (l2 : List (Bool × Nat)) : Nat → List (Bool × Nat) → List Nat → Array Bool → Bool
 | 0, _, _, _ => false
 | n + 1, (true, i) :: r, us, listed => Region.free .any ops listed i && (Region.ready .any ops listed).contains i && okF ops l2 n r us (listed.setIfInBounds i true)
 | n + 1, (false, i) :: r, us, listed => ((Region.ready .any ops listed).all fun j => j == i || us.contains j) && !(Region.ready .any ops listed).isEmpty && (!(Region.ready .any ops listed).contains i || okF ops l2 n r us (listed.setIfInBounds i true)) &&
   us.all fun j => okF ops l2 n ((false, i) :: r) (us.erase j) (listed.setIfInBounds j true)
 | n + 1, [], [], listed => seqOk ops l2 listed
 | n + 1, [], us, listed => ((Region.ready .any ops listed).all fun j => us.contains j) && !(Region.ready .any ops listed).isEmpty && us.all fun j => okF ops l2 n [] (us.erase j) (listed.setIfInBounds j true)
def FlOk (P : Program) (ops : Array Oper) (Q : Exit → Act → World → Prop) (f : Fl) : Prop := ∃ o, ops[f.i]? = some o ∧ o.dst = some f.d ∧ (∀ t, Region.wanted o t = true) ∧
 ∀ (a : Act) (w : World) (K : Act → World → Prop), K (a.put (some f.d) (.pointer (some ⟨w.heap.size, 0, none⟩))) (w.alloc f.z) → Oper.wp P o a w K Q
theorem wpAnyH_of_seqF (hs : Region.noSelect ops = true) (hQ : ∀ d v c a w, Q (.panic c) (a.put d v) w → Q (.panic c) a w) (base : Nat) (fs : List Fl) (l2 : List (Bool × Nat))
  (hl2 : (l2.all fun x => decide (x.2 < ops.size)) = true) (hF : ∀ f ∈ fs, FlOk P ops Q f) (hSa : ∀ w o, S w → S (w.alloc o)) :
  ∀ (n : Nat) (l : List (Bool × Nat)) (us : List Nat) (listed : Array Bool) (a a' : Act) (w w' : World), okF ops l2 n l us listed = true → (l.all fun x => decide (x.2 < ops.size)) = true →
   (∀ j ∈ us, ∃ f ∈ fs, f.i = j) → us.Nodup → Same (fs.map (·.d)) a a' → Below w.heap.size w w' → base ≤ w.heap.size → S w' →
   (∀ f ∈ fs, f.i ∉ us → At base a' w' f) → (∀ f ∈ fs, ∀ f' ∈ fs, f.i ≠ f'.i → f.i ∉ us → f'.i ∉ us → a'.tmps.getD f.d undef ≠ a'.tmps.getD f'.d undef) →
   (∀ f ∈ fs, ∀ f' ∈ fs, f.i = f'.i → f = f') → (∀ f ∈ fs, ∀ f' ∈ fs, f.i ≠ f'.i → f.d ≠ f'.d) → (∀ x ∈ pickOps ops l, ∀ d, x.2.dst = some d → d ∉ fs.map (·.d)) → (∀ f ∈ fs, f.d < a.tmps.size) →
   wpSeqF P ops Q S base fs l2 (pickOps ops l) a w → wpAnyH P .any ops Q S (l.length + us.length + l2.length) listed a' w'
 | 0, _, _, _, _, _, _, _, hk => by simp [okF] at hk
 | n + 1, l, us, listed, a, a', w, w', hk => by
  intro hlt hus hnd hsa hb hbase hS hAt hne hii hdd hdst hsz h
  have float : ∀ j ∈ us, j ∈ Region.ready .any ops listed → okF ops l2 n l (us.erase j) (listed.setIfInBounds j true) = true →
    wpOp P ops Q j (fun a2 w2 => S w2 ∧ wpAnyH P .any ops Q S (l.length + (us.erase j).length + l2.length) (listed.setIfInBounds j true) a2 w2) a' w' := by
   intro j hj hr hk2
   obtain ⟨f, hf, rfl⟩ := hus j hj
   obtain ⟨o, ho, hd, hw, hstep⟩ := hF f hf
   unfold wpOp
   rw [ho]
   simp only [hw, if_true]
   refine .inl (hstep _ _ _ ⟨hSa _ _ hS, ?_⟩)
   have hfd : f.d ∈ fs.map (·.d) := List.mem_map_of_mem hf
   have hall : Below w'.heap.size w' (w'.alloc f.z) := (Below.refl _ _).alloc (Nat.le_refl _) _
   have hszf : f.d < a'.tmps.size := by rw [hsa.size]; exact hsz f hf
   have hget : (a'.put (some f.d) (.pointer (some ⟨w'.heap.size, 0, none⟩))).tmps.getD f.d undef = .pointer (some ⟨w'.heap.size, 0, none⟩) := by
    simp [Act.put, Array.getD, hszf]
   have hget2 : ∀ e, e ≠ f.d → (a'.put (some f.d) (.pointer (some ⟨w'.heap.size, 0, none⟩))).tmps.getD e undef = a'.tmps.getD e undef := by
    intro e he
    simp only [Array.getD_eq_getD_getElem?, Act.put, Array.getElem?_setIfInBounds]
    rw [if_neg (fun h2 => he h2.symm)]
   have hold : ∀ f' ∈ fs, f'.i ≠ f.i → f'.i ∉ us → At base (a'.put (some f.d) (.pointer (some ⟨w'.heap.size, 0, none⟩))) (w'.alloc f.z) f' := by
    intro f' hf' hne2 hnu
    obtain ⟨g, h1, h2, h3⟩ := hAt f' hf' hnu
    refine ⟨g, by rw [hget2 _ (hdd f' hf' f hf hne2), h1], h2, ?_⟩
    have hg : g < w'.heap.size := by
     rcases Nat.lt_or_ge g w'.heap.size with h4 | h4
     ·exact h4
     ·rw [Array.getElem?_eq_none h4] at h3; cases h3
    rw [← h3]
    exact hall.block g hg
   have hmem : ∀ x, x ∉ us.erase f.i → x = f.i ∨ x ∉ us := by
    intro x hx
    by_cases hxf : x = f.i
    ·exact .inl hxf
    ·exact .inr (fun h2 => hx ((List.mem_erase_of_ne hxf).2 h2))
   have hnew : At base (a'.put (some f.d) (.pointer (some ⟨w'.heap.size, 0, none⟩))) (w'.alloc f.z) f :=
    ⟨w'.heap.size, hget, Nat.le_trans hbase hb.size, by show (w'.heap.push f.z)[w'.heap.size]? = _; simp⟩
   have hptr : ∀ f' ∈ fs, f'.i ≠ f.i → f'.i ∉ us → a'.tmps.getD f'.d undef ≠ .pointer (some ⟨w'.heap.size, 0, none⟩) := by
    intro f' hf' hne2 hnu h4
    obtain ⟨g, h1, h2, h3⟩ := hAt f' hf' hnu
    rw [h1] at h4
    injection h4 with h4
    injection h4 with h4
    injection h4 with h4
    subst h4
    rw [Array.getElem?_eq_none (Nat.le_refl _)] at h3
    cases h3
   refine wpAnyH_of_seqF hs hQ base fs l2 hl2 hF hSa n l (us.erase f.i) _ a _ w _ hk2 hlt (fun j hj => hus j (List.mem_of_mem_erase hj)) (hnd.erase _) (hsa.putIn hfd _) (hb.trans (hall.mono hb.size)) hbase (hSa _ _ hS) ?_ ?_ hii hdd hdst hsz h
   ·intro f' hf' hnu
    by_cases hi : f'.i = f.i
    ·rw [hii f' hf' f hf hi]; exact hnew
    ·rcases hmem _ hnu with h4 | h4
     ·exact (hi h4).elim
     ·exact hold f' hf' hi h4
   ·intro f1 hf1 f2 hf2 h12 hn1 hn2
    by_cases hi1 : f1.i = f.i
    ·have hi2 : f2.i ≠ f.i := fun h4 => h12 (hi1.trans h4.symm)
     have e1 := hii f1 hf1 f hf hi1
     rw [e1, hget, hget2 _ (hdd f2 hf2 f hf hi2)]
     rcases hmem _ hn2 with h4 | h4
     ·exact (hi2 h4).elim
     ·exact fun h5 => hptr f2 hf2 hi2 h4 h5.symm
    ·rcases hmem _ hn1 with h3 | h3
     ·exact (hi1 h3).elim
     by_cases hi2 : f2.i = f.i
     ·have e2 := hii f2 hf2 f hf hi2
      rw [e2, hget, hget2 _ (hdd f1 hf1 f hf hi1)]
      exact hptr f1 hf1 hi1 h3
     ·rcases hmem _ hn2 with h4 | h4
      ·exact (hi2 h4).elim
      rw [hget2 _ (hdd f1 hf1 f hf hi1), hget2 _ (hdd f2 hf2 f hf hi2)]
      exact hne f1 hf1 f2 hf2 h12 h3 h4
  have keepAt : ∀ (d : Option Tmp) (v : Value) (w'' : World), (∀ e, d = some e → e ∉ fs.map (·.d)) → Below w'.heap.size w' w'' → (∀ f ∈ fs, f.i ∉ us → At base (a'.put d v) w'' f) ∧ (∀ f ∈ fs, (a'.put d v).tmps.getD f.d undef = a'.tmps.getD f.d undef) := by
   intro d v w'' hd hw
   have h1 : ∀ f ∈ fs, (a'.put d v).tmps.getD f.d undef = a'.tmps.getD f.d undef := by
    intro f hf
    cases d with
    | none => rfl
    | some e =>
     simp only [Array.getD_eq_getD_getElem?, Act.put, Array.getElem?_setIfInBounds]
     rw [if_neg (fun h2 => hd e rfl (by rw [h2]; exact List.mem_map_of_mem hf))]
   refine ⟨fun f hf hnu => ?_, h1⟩
   obtain ⟨g, g1, g2, g3⟩ := hAt f hf hnu
   have hg : g < w'.heap.size := by
    rcases Nat.lt_or_ge g w'.heap.size with h4 | h4
    ·exact h4
    ·rw [Array.getElem?_eq_none h4] at g3; cases g3
   exact ⟨g, by rw [h1 f hf, g1], g2, by rw [hw.block g hg, g3]⟩
  have hpk : ∀ (b : Bool) (i : Nat) (r : List (Bool × Nat)) (o : Oper), ops[i]? = some o → pickOps ops ((b, i) :: r) = (b, o) :: pickOps ops r := by
   intro b i r o ho; simp only [pickOps, ho]
  match l with
  | (true, i) :: r =>
   simp only [List.all_cons, Bool.and_eq_true, decide_eq_true_eq] at hlt
   have ho : ops[i]? = some ops[i] := Array.getElem?_eq_getElem hlt.1
   rw [hpk _ _ _ _ ho] at h hdst
   simp only [okF, Bool.and_eq_true] at hk
   obtain ⟨v, hy, h⟩ := h
   have hfu : ((true, i) :: r).length + us.length + l2.length = r.length + us.length + l2.length + 1 := by simp only [List.length_cons]; omega
   rw [hfu]
   have hd : ∀ e, ops[i].dst = some e → e ∉ fs.map (·.d) := hdst _ (List.mem_cons_self ..)
   obtain ⟨k1, k2⟩ := keepAt ops[i].dst v w' hd (Below.refl _ _)
   refine wpAnyH_take ho hs hk.1.1 hk.1.2 (fun c a w => hQ _ _ c a w) (hy a' hsa) hS (wpAnyH_of_seqF hs hQ base fs l2 hl2 hF hSa n r us _ (a.put ops[i].dst v) _ w w' hk.2 hlt.2 hus hnd (hsa.put _ _) hb hbase hS k1 ?_ hii hdd (fun x hx => hdst x (List.mem_cons_of_mem _ hx)) ?_ h)
   ·intro f1 hf1 f2 hf2 h12 hn1 hn2
    rw [k2 f1 hf1, k2 f2 hf2]
    exact hne f1 hf1 f2 hf2 h12 hn1 hn2
   ·intro f hf
    have := hsz f hf
    cases ops[i].dst <;> simpa [Act.put] using this
  | (false, i) :: r =>
   have hlt2 := hlt
   simp only [List.all_cons, Bool.and_eq_true, decide_eq_true_eq] at hlt2
   have ho : ops[i]? = some ops[i] := Array.getElem?_eq_getElem hlt2.1
   have h0 := h
   have hdst0 := hdst
   rw [hpk _ _ _ _ ho] at h hdst
   simp only [okF, Bool.and_eq_true, Bool.or_eq_true, Bool.not_eq_true', List.all_eq_true, List.contains_eq_mem, decide_eq_true_eq, beq_iff_eq] at hk
   obtain ⟨⟨⟨hk1, hk2⟩, hk3⟩, hk4⟩ := hk
   have hfu : ((false, i) :: r).length + us.length + l2.length = r.length + us.length + l2.length + 1 := by simp only [List.length_cons]; omega
   rw [hfu]
   refine wpAnyH_all rfl (fun e => by rw [e] at hk2; simp at hk2) fun j hj => ?_
   by_cases hju : j ∈ us
   ·have := float j hju hj (hk4 j hju)
    have hle : ((false, i) :: r).length + (us.erase j).length + l2.length = r.length + us.length + l2.length := by
     have h7 := List.length_erase_of_mem hju
     have h8 : 0 < us.length := List.length_pos_of_mem hju
     simp only [List.length_cons]; omega
    rwa [hle] at this
   ·have hji : j = i := (hk1 j hj).resolve_right hju
    subst hji
    have hk5 := hk3.resolve_left (by rw [decide_eq_false_iff_not]; exact fun h9 => h9 hj)
    have hd : ∀ e, ops[j].dst = some e → e ∉ fs.map (·.d) := hdst _ (List.mem_cons_self ..)
    have hstep := h a' w' hsa hb hS (fun a2 w2 => S w2 ∧ wpAnyH P .any ops Q S (r.length + us.length + l2.length) (listed.setIfInBounds j true) a2 w2) (fun v w'' hS'' hb'' hw => by
     obtain ⟨k1, k2⟩ := keepAt ops[j].dst v w'' hd hb''
     refine ⟨hS'', wpAnyH_of_seqF hs hQ base fs l2 hl2 hF hSa n r us _ (a'.put ops[j].dst v) _ w'' w'' hk5 hlt2.2 hus hnd (Same.refl _ _) (Below.refl _ _) (Nat.le_trans hbase (Nat.le_trans hb.size hb''.size)) hS'' k1 ?_ hii hdd (fun x hx => hdst x (List.mem_cons_of_mem _ hx)) ?_ hw⟩
     ·intro f1 hf1 f2 hf2 h12 hn1 hn2
      rw [k2 f1 hf1, k2 f2 hf2]
      exact hne f1 hf1 f2 hf2 h12 hn1 hn2
     ·intro f hf
      have h7 := hsz f hf
      rw [← hsa.size] at h7
      cases ops[j].dst <;> simpa [Act.put] using h7)
    unfold wpOp
    rw [ho]
    simp only [hstep.1, if_true]
    exact .inl hstep.2
  | [] =>
   rcases us with _ | ⟨u, vs⟩
   ·have hk : seqOk ops l2 listed = true := hk
    have := h a' w' hsa hb hS (fun f hf => hAt f hf (by simp)) (fun f1 hf1 f2 hf2 h12 => hne f1 hf1 f2 hf2 h12 (by simp) (by simp))
    have h9 := wpAnyH_of_seq (P := P) (Q := Q) (S := S) hs hQ l2 listed a' w' hk hl2 hS this
    simpa using h9
   ·have hk : (((Region.ready .any ops listed).all fun j => (u :: vs).contains j) && !(Region.ready .any ops listed).isEmpty && (u :: vs).all fun j => okF ops l2 n [] ((u :: vs).erase j) (listed.setIfInBounds j true)) = true := hk
    simp only [Bool.and_eq_true, Bool.not_eq_true', List.all_eq_true, List.contains_eq_mem, decide_eq_true_eq] at hk
    obtain ⟨⟨hk1, hk2⟩, hk4⟩ := hk
    have hfu : ([] : List (Bool × Nat)).length + (u :: vs).length + l2.length = vs.length + l2.length + 1 := by simp only [List.length_cons, List.length_nil]; omega
    rw [hfu]
    refine wpAnyH_all rfl (fun e => by rw [e] at hk2; simp at hk2) fun j hj => ?_
    have hju := hk1 j hj
    have := float j hju hj (hk4 j hju)
    have hle : ([] : List (Bool × Nat)).length + ((u :: vs).erase j).length + l2.length = vs.length + l2.length := by
     have h7 := List.length_erase_of_mem hju
     simp only [List.length_nil]; simp only [List.length_cons] at h7; omega
    rwa [hle] at this
theorem wp_region_seqF {id : Nat} {a : Act} {w : World} (fs : List Fl) (l l2 : List (Bool × Nat)) (hm : P.follows .mixedOrders = true) (hs : Region.noSelect ops = true) (hl : l.length + (fs.map (·.i)).length + l2.length = ops.size)
  (hlt : (l.all fun x => decide (x.2 < ops.size)) = true) (hlt2 : (l2.all fun x => decide (x.2 < ops.size)) = true) (hk : okF ops l2 (l.length + fs.length + 1) l (fs.map (·.i)) (Array.replicate ops.size false) = true)
  (hn : (fs.map (·.i)).Nodup) (hd : (fs.map (·.d)).Nodup) (hp : ((pickOps ops l).all fun x => match x.2.dst with | some d => !(fs.map (·.d)).contains d | none => true) = true) (hz : (fs.all fun f => decide (f.d < a.tmps.size)) = true)
  (hF : ∀ f ∈ fs, FlOk P ops Q f) (hSa : ∀ w o, S w → S (w.alloc o)) (hQ : ∀ d v c a w, Q (.panic c) (a.put d v) w → Q (.panic c) a w) (hS : S w.drew)
  (h : wpSeqF P ops Q S w.heap.size fs l2 (pickOps ops l) a w.drew) : (Code.region id ops true).wp P Q a w := by
 refine wp_region_held_drew hm hS fun hS' => ?_
 have inj : ∀ (g : Fl → Nat), (fs.map g).Nodup → ∀ f ∈ fs, ∀ f' ∈ fs, g f = g f' → f = f' := by
  intro g hg
  clear hl hk hn hd hp hz hF h
  induction fs with
  | nil => intro f hf; cases hf
  | cons x xs ih =>
   simp only [List.map_cons, List.nodup_cons] at hg
   intro f hf f' hf' e
   rcases List.mem_cons.1 hf with rfl | h1
   ·rcases List.mem_cons.1 hf' with rfl | h2
    ·rfl
    ·exact (hg.1 (e ▸ List.mem_map_of_mem h2)).elim
   ·rcases List.mem_cons.1 hf' with rfl | h2
    ·exact (hg.1 (e ▸ List.mem_map_of_mem h1)).elim
    ·exact ih hg.2 f h1 f' h2 e
 have := wpAnyH_of_seqF (P := P) (Q := Q) (S := S) hs hQ w.heap.size fs l2 hlt2 hF hSa _ l (fs.map (·.i)) _ a a w.drew w.drew hk hlt (fun j hj => by obtain ⟨f, hf, e⟩ := List.mem_map.1 hj; exact ⟨f, hf, e⟩) hn (Same.refl _ _) (Below.refl _ _) (Nat.le_refl _) hS'
  (fun f hf hx => (hx (List.mem_map_of_mem hf)).elim) (fun f hf f' hf' _ hx => (hx (List.mem_map_of_mem hf)).elim) (inj _ hn) (fun f hf f' hf' hne e => hne (congrArg (·.i) (inj _ hd f hf f' hf' e)))
  (fun x hx d hxd => by
   have h1 := List.all_eq_true.1 hp x hx
   rw [hxd] at h1
   simpa using h1) (fun f hf => by simpa using List.all_eq_true.1 hz f hf) h
 rwa [hl] at this
theorem FlOk.alloc {i d : Nat} {z : Obj} {o : Oper} (ho : ops[i]? = some o) (hd : o.dst = some d) (hg : o.guard = none) (hr : ∀ (f : Operand → Value) (w : World), (execOp f o).run P w = .ok (.value (.pointer (some ⟨w.heap.size, 0, none⟩))) (w.alloc z)) : FlOk P ops Q ⟨i, d, z⟩ := by
 refine ⟨o, ho, hd, fun t => ?_, fun a w K hK => ?_⟩
 ·simp [Region.wanted, hg]
 ·unfold Oper.wp
  rw [hr, Oper.upon_value, hd]
  exact hK
theorem seqF_take {base : Nat} {fs : List Fl} {l2 : List (Bool × Nat)} {o : Oper} {rest : List (Bool × Oper)} {a : Act} {w : World} {v : Value} (hw : ∀ t, Region.wanted o t = true) (hy : ∀ a', Same (fs.map (·.d)) a a' → ∀ w, S w → (execOp a'.eval o).run P w = .ok (.value v) w)
  (h : wpSeqF P ops Q S base fs l2 rest (a.put o.dst v) w) : wpSeqF P ops Q S base fs l2 ((true, o) :: rest) a w := ⟨v, fun a' ha => .inl ⟨hw _, hy a' ha⟩, h⟩
theorem seqF_step {base : Nat} {fs : List Fl} {l2 : List (Bool × Nat)} {o : Oper} {rest : List (Bool × Oper)} {a : Act} {w : World} (hw : ∀ t, Region.wanted o t = true)
  (h : ∀ a' w', Same (fs.map (·.d)) a a' → Below w.heap.size w w' → S w' → ∀ K : Act → World → Prop, Shut (∀ v w'', S w'' → Below w'.heap.size w' w'' → wpSeqF P ops Q S base fs l2 rest (a'.put o.dst v) w'' → K (a'.put o.dst v) w'') → Oper.wp P o a' w' K Q) :
  wpSeqF P ops Q S base fs l2 ((false, o) :: rest) a w := fun a' w' h1 h2 h3 K hK => ⟨hw _, h a' w' h1 h2 h3 K hK⟩
theorem seqF_end {base : Nat} {fs : List Fl} {l2 : List (Bool × Nat)} {a : Act} {w : World}
  (h : ∀ a' w', Same (fs.map (·.d)) a a' → Below w.heap.size w w' → S w' → (∀ f ∈ fs, At base a' w' f) → (∀ f ∈ fs, ∀ f' ∈ fs, f.i ≠ f'.i → a'.tmps.getD f.d undef ≠ a'.tmps.getD f'.d undef) → wpSeqH P ops Q S (pickOps ops l2) a' w') :
  wpSeqF P ops Q S base fs l2 [] a w := h
theorem At.slot {base i d : Nat} {z : Obj} {t : Array Value} {ds : List Deferred} {w : World} {x : Value} (h : At base ⟨t, ds⟩ w ⟨i, d, z⟩) (hx : t.getD d undef = x) : ∃ g, x = .pointer (some ⟨g, 0, none⟩) ∧ base ≤ g ∧ w.heap[g]? = some z := by
 obtain ⟨g, h1, h2, h3⟩ := h
 exact ⟨g, by rw [← hx]; exact h1, h2, h3⟩
end
end Go.Proofs.YtcpfanpcdkoiaaaGreat
