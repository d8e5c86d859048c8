/-
  rat: Sum over an iterator that counts in an old cell; the laws' each.
-/
import Derived.Test.YtieffhkfefimeaaGreatDoorRangeX
import Derived.Test.YtieffhkfefimeaaGreatDoorRatB
import Derived.Test.YtieffhkfefimeaaGreatDoorComN
import Derived.Deep.LoopGhost
import Derived.Sort.LoopGhostIn
namespace Go.Proofs.YtieffhkfefimeaaGreatDoor
open Go.RowKit Go.Shelf
set_option linter.unusedVariables false
set_option linter.unusedSimpArgs false
attribute [local go_sem] Oper.semAt_some field_nat

theorem QIs.keep {W W' : World} {v : Value} {q : Rat} (h : QIs W v q) (hk : KeepNat W W') : QIs W' v q := by
  obtain ⟨a, b, c, d, e, f, rfl, h1, h2⟩ := h
  exact ⟨a, b, c, d, e, f, rfl, hk _ _ h1, hk _ _ h2⟩
theorem ExtX.block {pn B : Nat} {A C : World} (h : ExtX pn B A C) {p : Addr} {v : Value} (hp : A.cell? p = some v) (hne : p.block ≠ pn) : C.heap[p.block]? = A.heap[p.block]? := by
  unfold World.cell? at hp
  split at hp
  · rename_i hb
    rw [hb]; exact h.cells _ _ hne hb rfl
  · cases hp
theorem ExtX.cell {pn B : Nat} {A C : World} (h : ExtX pn B A C) {p : Addr} {v : Value} (hp : A.cell? p = some v) (hne : p.block ≠ pn) : C.cell? p = some v :=
  (World.cell?_of_block (h.block hp hne)).trans hp
theorem Box3.extX {pn B : Nat} {A C : World} {b : Nat} {x y z : Value} (hx : Box3 A b x y z) (h : ExtX pn B A C) (hne : b ≠ pn) : Box3 C b x y z := by
  have e := h.block hx.c0 hne
  exact ⟨(World.cell?_of_block (a := ⟨b, 0, none⟩) e).trans hx.c0, (World.cell?_of_block (a := ⟨b, 1, none⟩) e).trans hx.c1, (World.cell?_of_block (a := ⟨b, 2, none⟩) e).trans hx.c2,
    (World.frozen?_of_block (a := ⟨b, 0, none⟩) e).trans hx.f0, (World.frozen?_of_block (a := ⟨b, 1, none⟩) e).trans hx.f1, (World.frozen?_of_block (a := ⟨b, 2, none⟩) e).trans hx.f2⟩
/-- The sum, as it is added up. -/
def qsumL (l : List Rat) : Rat := l.foldl (· + ·) 0
/-- No limb lies in the count's block. -/
theorem IntAt.no {W : World} {p : Addr} {n : Int} (hn : IntAt W p.block) (hp : W.cell? p = some (.int .u32 n)) : False := by
  obtain ⟨m, t, hm⟩ := hn
  unfold World.cell? at hp
  simp only [hm] at hp
  obtain ⟨blk, off, spot⟩ := p
  cases off with
  | zero => simp at hp
  | succ k => simp at hp
/-- Numbers are kept, and the count is an int still. -/
def KpX (pn : Nat) (A C : World) : Prop := IntAt A pn → IntAt C pn ∧ KeepNat A C
theorem KpX.trans {pn : Nat} {A C D : World} (h : KpX pn A C) (h' : KpX pn C D) : KpX pn A D := fun hn => ⟨(h' (h hn).1).1, (h hn).2.trans (h' (h hn).1).2⟩
theorem KpX.ext {pn B : Nat} {A C : World} (h : ExtX pn B A C) : KpX pn A C := fun hn => ⟨h.own hn, KeepNat.of_cells h.size fun p n hp => by
  by_cases hne : p.block = pn
  · subst hne; exact (hn.no hp).elim
  · exact h.cell hp hne⟩
theorem KpX.below {pn : Nat} {A C : World} (h : Below A.heap.size A C) : KpX pn A C := fun hn => ⟨(BelowX.of h).own hn, KeepNat.below h⟩
theorem belowX_ext {pn B D : Nat} {w W W' : World} (h : BelowX pn B w W) (hx : ExtX pn D W W') (hD : B ≤ D) (hBw : B ≤ W.heap.size) : BelowX pn B w W' :=
  ⟨hx.os.trans h.os, hx.tape.trans h.tape, hx.output.trans h.output, Nat.le_trans h.size hx.size, fun k hk hne => (hx.low k (by omega) (by omega) hne).trans (h.block k hk hne), fun hn => hx.own (h.own hn)⟩
theorem BelowX.set3 {pn B b : Nat} {w W : World} {u0 u1 u2 : Value} (h : BelowX pn B w W) (hb : B ≤ b) (hne : b ≠ pn) : BelowX pn B w (((W.setCell ⟨b, 0, none⟩ u0).setCell ⟨b, 1, none⟩ u1).setCell ⟨b, 2, none⟩ u2) := by
  have hh : ∀ k, k ≠ b → (((W.setCell ⟨b, 0, none⟩ u0).setCell ⟨b, 1, none⟩ u1).setCell ⟨b, 2, none⟩ u2).heap[k]? = W.heap[k]? := fun k hk =>
    ((Below.heap_setCell _ _ _ _ (fun e => hk e)).trans (Below.heap_setCell _ _ _ _ (fun e => hk e))).trans (Below.heap_setCell _ _ _ _ (fun e => hk e))
  exact ⟨h.os, h.tape, h.output, Nat.le_trans h.size (by simp [World.setCell]), fun k hk hn => (hh k (by omega)).trans (h.block k hk hn), fun hn => by
    obtain ⟨n, t, h9⟩ := h.own hn
    exact ⟨n, t, (hh pn (fun e => hne e.symm)).trans h9⟩⟩
theorem IterX.mono {α : Type} {P : Program} {gf pn : Nat} {c0 : Int} {lb : Array Value} {Enc : World → Value → α → Prop} {xs : List α} {B : Nat} {Kp : World → World → Prop} {w w' : World} (h : IterX pn c0 P gf lb Enc xs B Kp w) (hb : Below w.heap.size w w') :
    IterX pn c0 P gf lb Enc xs B Kp w' := fun l J Jx S0 W1 hW => h l J Jx S0 W1 (hb.trans (hW.mono hb.size))
theorem Foot.set3 {S : Nat → Prop} {W : World} {b : Nat} (u0 u1 u2 : Value) (hp : S b) : Foot S S W (((W.setCell ⟨b, 0, none⟩ u0).setCell ⟨b, 1, none⟩ u1).setCell ⟨b, 2, none⟩ u2) :=
  ⟨rfl, rfl, rfl, by simp [World.setCell], fun k hk hs => by
    have hne : k ≠ b := fun e => hs (by rw [e]; exact hp)
    exact ((Below.heap_setCell _ _ _ _ (fun e => hne e)).trans (Below.heap_setCell _ _ _ _ (fun e => hne e))).trans (Below.heap_setCell _ _ _ _ (fun e => hne e)), fun _ h => .inl h⟩
theorem IntAt.keep {W W' : World} {pn : Nat} (h : IntAt W pn) (hh : W'.heap[pn]? = W.heap[pn]?) : IntAt W' pn := by
  obtain ⟨n, t, h9⟩ := h; exact ⟨n, t, hh.trans h9⟩
set_option maxRecDepth 100000 in
set_option maxHeartbeats 2000000 in
/-- Sum adds what an iterator tells. -/
theorem qsum_any (gf : Nat) (lb : Array Value) (qs : List Rat) (pn : Nat) (c0 : Int) (w : World) (hit : IterX pn c0 Tryz.prog gf lb QIs qs w.heap.size (KpX pn) w) (eg : ∀ args w, (callFunc gf args).run Tryz.prog w = .ok (.enter gf args) w)
    (en : ∀ w, (binOp .eql 144 (.func (.func gf) #[] lb) .nilFunc).run Tryz.prog w = .ok (.bool false) w)
    (hx : ∀ q ∈ qs, QB q 700) (hs : ∀ pre, pre <+: qs → QB (qsumL pre) 20000) (hpn : pn < w.heap.size) (hc0 : w.cell? ⟨pn, 0, none⟩ = some (.int .i64 c0)) (hn0 : IntAt w pn) :
    Calls Tryz.prog 115 #[.func (.func gf) #[] lb] w fun e w' => ∃ r, e = .returned r ∧ QIs w' r (qsumL qs) ∧ BelowX pn w.heap.size w w' ∧ w'.cell? ⟨pn, 0, none⟩ = some (.int .i64 (c0 + (qs.length : Int))) := by
  refine (callsIn_wide (n := 0)).1 ?_
  refine callsIn_of_wp_marks Tryz.func115 rfl (by trivial) ?_ rfl
  simp only [Tryz.ntmps115, List.size_toArray, List.length_cons, List.length_nil, Nat.reduceAdd, Nat.reduceSub, Array.replicate_succ, Array.replicate_zero, List.push_toArray, List.append_toArray, List.nil_append, List.cons_append]
  gi_wp2_with fail
  obtain ⟨w0, hw0⟩ : ∃ w0, w0 = (w.alloc (.cells #[.bool false, .slice none 0 0, .slice none 0 0] 81)).alloc (.cells #[.bool false, .slice none 0 0, .slice none 0 0] 81) := ⟨_, rfl⟩
  have hbel : Below w.heap.size w w0 := by
    rw [hw0]; exact ((Below.refl _ w).alloc (Nat.le_refl _) _).alloc (by simp <;> omega) _
  have hsz0 : w0.heap.size = w.heap.size + 2 := by rw [hw0]; simp
  have hb2 : Box3 w0 w.heap.size (.bool false) (.slice none 0 0) (.slice none 0 0) := by
    rw [hw0]; exact ⟨by go_simp, by go_simp, by go_simp, by go_simp, by go_simp, by go_simp⟩
  have hb3 : Box3 w0 (w.heap.size + 1) (.bool false) (.slice none 0 0) (.slice none 0 0) := by
    rw [hw0]; exact ⟨by go_simp, by go_simp, by go_simp, by go_simp, by go_simp, by go_simp⟩
  rw [← hw0]
  clear hw0
  have hn9 := (BelowX.of (pn := pn) hbel).own hn0
  refine wp_rangeX (gf := gf) (lb := lb) (pn := pn) (c0 := c0) rfl eg (hit.mono hbel) (fun A C D => KpX.trans) (fun A C => KpX.ext) rfl (by omega) hpn ((hbel.cell (p := ⟨pn, 0, none⟩) (by show pn < _; omega)).trans hc0) hn9
    (fun pre S W => ∃ (sB : Bool) (xo : Option Addr) (xl xc : Nat) (yo : Option Addr) (yl yc : Nat), (S = fun k => k = w.heap.size + 1) ∧ Box3 W w.heap.size (.bool false) (.slice none 0 0) (.slice none 0 0) ∧ Box3 W (w.heap.size + 1) (.bool sB) (.slice xo xl xc) (.slice yo yl yc) ∧ QIs W (.agg #[.bool sB, .slice xo xl xc, .slice yo yl yc]) (qsumL pre) ∧ BelowX pn w.heap.size w W ∧ IntAt W pn)
    (fun c pre S W => False)
    ?_ ?_ (fun k => k = w.heap.size + 1) (fun k hk => ⟨by omega, by omega⟩) ?_
    (fun x a' W => ∃ (b4 : Nat) (sB : Bool) (xo : Option Addr) (xl xc : Nat) (yo : Option Addr) (yl yc : Nat), Box3 W b4 (.bool sB) (.slice xo xl xc) (.slice yo yl yc) ∧ QIs W (.agg #[.bool sB, .slice xo xl xc, .slice yo yl yc]) x ∧ b4 ≠ pn ∧ IntAt W pn ∧ a' = { tmps := #[.func (.func gf) #[] lb, undef, .pointer (some ⟨w.heap.size, 0, none⟩), .pointer (some ⟨w.heap.size + 1, 0, none⟩), .pointer (some ⟨b4, 0, none⟩), .func (.func gf) #[] lb, .bool false, undef, .func (.func gf) #[] lb, .agg #[.bool sB, .slice xo xl xc, .slice yo yl yc], undef, undef, undef, undef], defers := [] })
    ?_ ?assign ?body ?done ?stop
  case assign =>
    rintro l pre x v S W K hi hnv hpre hK
    obtain ⟨sB, xo, xl, xc, yo, yl, yc, rfl, hS9, _, _⟩ := hnv.form
    clear hS9
    gi_wp2
    have hb := (Below.refl _ W).alloc (Nat.le_refl _) (.cells #[.bool sB, .slice xo xl xc, .slice yo yl yc] 81)
    obtain ⟨tB, ao, al, ac, bo, bl, bc, rfl, hB2, hB3, hN, hB, hI⟩ := hi
    have hI2 := (BelowX.of (pn := pn) hb).own hI
    refine hK _ _ hb ⟨tB, ao, al, ac, bo, bl, bc, rfl, hB2.kept hb, hB3.kept hb, hN.below hb, ?_, hI2⟩ ⟨W.heap.size, sB, xo, xl, xc, yo, yl, yc, ⟨by go_simp, by go_simp, by go_simp, by go_simp, by go_simp, by go_simp⟩, hnv.below hb, by have := hB.size; omega, hI2, rfl⟩
    exact belowX_ext (D := w.heap.size) hB (ExtX.of_below hb) (Nat.le_refl _) hB.size
  case body =>
    rintro l pre x a' S W ⟨tB, ao, al, ac, bo, bl, bc, rfl, hB2, hB3, hN, hB, hI⟩ ⟨b4, sB, xo, xl, xc, yo, yl, yc, hB4, hn4, hne4, _, rfl⟩ hpre hS
    have e30 := hB3.c0
    have e31 := hB3.c1
    have e32 := hB3.c2
    have e40 := hB4.c0
    have e41 := hB4.c1
    have e42 := hB4.c2
    have hxl : QB x 700 := hx x (hpre.subset (by simp))
    have hpl : QB (qsumL pre) 20000 := hs pre ((List.prefix_append _ _).trans hpre)
    have hsum : qsumL pre + x = qsumL (pre ++ [x]) := by unfold qsumL; rw [List.foldl_append]; rfl
    have HSUM := Lib.hid hsum
    clear hsum
    gi_wp2_with fail
    refine ⟨trivial, rfl, callsIn_wide.2 ((qadd_any _ _ (qsumL pre) x 20000 700 W hN hn4 hpl hxl (by omega)).mono ?_)⟩
    rintro e w1 hq9
    obtain ⟨rB, co, cl, cc, dO, dl, dc, rfl, hS9, _, _, hr, hb1⟩ := hq9.out
    clear hS9 hq9
    rw [HSUM.out] at hr
    have hB21 := hB2.kept hb1
    have hB31 := hB3.kept hb1
    have e31' := hB31.c0
    have f310 := hB31.f0
    have f311 := hB31.f1
    have f312 := hB31.f2
    have g310 := hB31.c0
    have g311 := hB31.c1
    have g312 := hB31.c2
    have hlt3 := hB31.lt
    have hI1 := (BelowX.of (pn := pn) hb1).own hI
    have hBx : BelowX pn w.heap.size w w1 := belowX_ext (D := w.heap.size) hB (ExtX.of_below hb1) (Nat.le_refl _) hB.size
    clear e30 e31 e32 e40 e41 e42 e31'
    gi_wp2
    have hne : w.heap.size + 1 ≠ pn := by omega
    have hr2 := hr.set3 (u0 := .bool rB) (u1 := .slice co cl cc) (u2 := .slice dO dl dc) hB31
    have hB2n := BelowX.set3 (u0 := .bool rB) (u1 := .slice co cl cc) (u2 := .slice dO dl dc) hBx (Nat.le_succ _) hne
    have hI3 := hB2n.own hn0
    refine ⟨_, ⟨rB, co, cl, cc, dO, dl, dc, rfl, hB21.set3o (by omega), hB31.set3, hr2, hB2n, hI3⟩, ?_, ?_, fun _ => ⟨hI3, ?_⟩⟩
    · exact (Foot.of_below hb1).trans (Foot.set3 _ _ _ rfl)
    · intro k hk
      subst hk
      simpa [World.setCell] using hlt3
    · exact (KeepNat.below hb1).trans fun v n hn => hn.set3 hB31
  case done =>
    rintro D S W hD ⟨tB, ao, al, ac, bo, bl, bc, rfl, hB2, hB3, hN, hB, hI⟩ hcn hK
    have e20 := hB2.c0
    have e21 := hB2.c1
    have e22 := hB2.c2
    have f20 := hB2.f0
    have f21 := hB2.f1
    have f22 := hB2.f2
    have e30 := hB3.c0
    have e31 := hB3.c1
    have e32 := hB3.c2
    gi_wp2
    have hK2 : (((W.setCell ⟨w.heap.size, 0, none⟩ (.bool tB)).setCell ⟨w.heap.size, 1, none⟩ (.slice ao al ac)).setCell ⟨w.heap.size, 2, none⟩ (.slice bo bl bc)).heap[D]? = some (.deferred (some [])) :=
      (((Below.heap_setCell _ _ _ _ (by simp; omega)).trans (Below.heap_setCell _ _ _ _ (by simp; omega))).trans (Below.heap_setCell _ _ _ _ (by simp; omega))).trans hK
    have hr2 := hN.set3 (u0 := .bool tB) (u1 := .slice ao al ac) (u2 := .slice bo bl bc) hB2
    have hb2' := hB2.set3 (u0 := .bool tB) (u1 := .slice ao al ac) (u2 := .slice bo bl bc)
    have hne : w.heap.size ≠ pn := by omega
    have hB2n := BelowX.set3 (u0 := .bool tB) (u1 := .slice ao al ac) (u2 := .slice bo bl bc) hB (Nat.le_refl _) hne
    have hI3 := hB2n.own hn0
    have hcn2 : (((W.setCell ⟨w.heap.size, 0, none⟩ (.bool tB)).setCell ⟨w.heap.size, 1, none⟩ (.slice ao al ac)).setCell ⟨w.heap.size, 2, none⟩ (.slice bo bl bc)).cell? ⟨pn, 0, none⟩ = some (.int .i64 (c0 + (qs.length : Int))) :=
      (World.cell?_of_block (a := ⟨pn, 0, none⟩) (((Below.heap_setCell _ _ _ _ (fun e => hne e.symm)).trans (Below.heap_setCell _ _ _ _ (fun e => hne e.symm))).trans (Below.heap_setCell _ _ _ _ (fun e => hne e.symm)))).trans hcn
    generalize ((W.setCell ⟨w.heap.size, 0, none⟩ (.bool tB)).setCell ⟨w.heap.size, 1, none⟩ (.slice ao al ac)).setCell ⟨w.heap.size, 2, none⟩ (.slice bo bl bc) = W2 at *
    have hx9 : Ext D W2 (W2.putObj D (.deferred none)) := ext_deferred hK2
    have hxx := ExtX.of_ext (pn := pn) hx9
    refine ⟨by simp, .inl ⟨_, _, rfl, run_takeDeferred hK2, ?_⟩⟩
    have hn3 := hr2.keep (KpX.ext hxx hI3).2
    have hb9 := hb2'.extX hxx hne
    have hsz : w.heap.size ≤ W2.heap.size := hB2n.size
    refine ⟨_, ?_, ⟨_, rfl, hn3, belowX_ext hB2n hxx (by omega) hsz, (World.cell?_of_block (a := ⟨pn, 0, none⟩) (World.putObj_heap_other (by show pn ≠ D; omega))).trans hcn2⟩⟩
    have k0 := hb9.c0
    have k1 := hb9.c1
    have k2 := hb9.c2
    simp [results, Tryz.results115, go_sem, k0, k1, k2]
  case stop =>
    rintro D c pre S W hD hp h hK
    exact h.elim
  · rintro pre S W W' ⟨tB, ao, al, ac, bo, bl, bc, rfl, hB2, hB3, hN, hB, hI⟩ hx
    exact ⟨tB, ao, al, ac, bo, bl, bc, rfl, hB2.extX hx (by omega), hB3.extX hx (by omega), hN.keep (KpX.ext hx hI).2, belowX_ext hB hx (by omega) hB.size, hx.own hI⟩
  · rintro c pre S W W' h hx
    exact h.elim
  · exact ⟨false, none, 0, 0, none, 0, 0, rfl, hb2, hb3, QIs.zero _, belowX_ext (D := w.heap.size) (BelowX.of (Below.refl _ w)) (ExtX.of_below hbel) (Nat.le_refl _) (Nat.le_refl _), hn9⟩
  · rintro x a' W W' ⟨b4, sB, xo, xl, xc, yo, yl, yc, hB4, hn, hne4, hI, rfl⟩ hx
    exact ⟨b4, sB, xo, xl, xc, yo, yl, yc, hB4.extX hx hne4, hn.keep (KpX.ext hx hI).2, hne4, hx.own hI, rfl⟩
end Go.Proofs.YtieffhkfefimeaaGreatDoor
