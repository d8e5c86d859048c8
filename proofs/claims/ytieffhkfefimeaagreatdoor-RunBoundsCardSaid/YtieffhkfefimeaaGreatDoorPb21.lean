/-
  Pb21: RangeX IterR IterS (what is needed of them).
-/
import Derived.Test.YtieffhkfefimeaaGreatDoorPb01
import Derived.Test.YtieffhkfefimeaaGreatDoorPb07
import Derived.Test.YtieffhkfefimeaaGreatDoorPb14
import Derived.Deep.LoopGhost
import Derived.Sort.LoopGhostIn

namespace Go.Proofs.YtieffhkfefimeaaGreatDoor
open Go.RowKit
set_option linter.unusedVariables false
set_option linter.unusedSimpArgs false
/-- The block holds an int. -/
def IntAt (W : World) (k : Nat) : Prop := ∃ (n : Int) (t : TypeId), W.heap[k]? = some (.cells #[.int .i64 n] t)
structure BelowX (pn B : Nat) (w w' : World) : Prop where
  os : w'.os = w.os
  tape : w'.tape = w.tape
  output : w'.output = w.output
  size : w.heap.size ≤ w'.heap.size
  block : ∀ k, k < B → k ≠ pn → w'.heap[k]? = w.heap[k]?
  own : IntAt w pn → IntAt w' pn
theorem BelowX.of {pn : Nat} {w w' : World} (h : Below w.heap.size w w') : BelowX pn w.heap.size w w' :=
  ⟨h.os, h.tape, h.output, h.size, fun k hk _ => h.block k hk, fun ⟨n, t, hn⟩ => ⟨n, t, (h.block pn (Array.getElem?_eq_some_iff.1 hn).1).trans hn⟩⟩
theorem BelowX.set {pn : Nat} {w : World} (n : Int) : BelowX pn w.heap.size w (w.setCell ⟨pn, 0, none⟩ (.int .i64 n)) :=
  ⟨rfl, rfl, rfl, by simp [World.setCell], fun k hk hne => Below.heap_setCell _ _ _ _ (fun e => hne e), fun ⟨m, t, hm⟩ => ⟨n, t, by simp [World.setCell, Array.getElem?_modify, hm]⟩⟩
theorem BelowX.trans {pn : Nat} {A C D : World} (h : BelowX pn A.heap.size A C) (h' : BelowX pn C.heap.size C D) : BelowX pn A.heap.size A D :=
  ⟨h'.os.trans h.os, h'.tape.trans h.tape, h'.output.trans h.output, Nat.le_trans h.size h'.size, fun k hk hne => (h'.block k (Nat.lt_of_lt_of_le hk h.size) hne).trans (h.block k hk hne), fun hn => h'.own (h.own hn)⟩
/-- All rows of cells but the count, and all that lies below B but it, are as they were. -/
structure ExtX (pn B : Nat) (W W' : World) : Prop where
  os : W'.os = W.os
  tape : W'.tape = W.tape
  output : W'.output = W.output
  size : W.heap.size ≤ W'.heap.size
  low : ∀ k, k < B → k < W.heap.size → k ≠ pn → W'.heap[k]? = W.heap[k]?
  cells : ∀ (k : Nat) (o : Obj), k ≠ pn → W.heap[k]? = some o → o.isCells = true → W'.heap[k]? = some o
  own : IntAt W pn → IntAt W' pn
theorem ExtX.of_belowX {pn B : Nat} {W W' : World} (h : BelowX pn W.heap.size W W') : ExtX pn B W W' :=
  ⟨h.os, h.tape, h.output, h.size, fun k _ hk hne => h.block k hk hne, fun k o hne ho _ => (h.block k (Array.getElem?_eq_some_iff.1 ho).1 hne).trans ho, h.own⟩
theorem ExtX.of_below {pn B : Nat} {W W' : World} (h : Below W.heap.size W W') : ExtX pn B W W' := ExtX.of_belowX (BelowX.of h)
theorem ExtX.of_ext {pn B : Nat} {W W' : World} (h : Ext B W W') : ExtX pn B W W' :=
  ⟨h.os, h.tape, h.output, h.size, fun k h1 h2 _ => h.low k h1 h2, fun k o _ h1 h2 => h.cells k o h1 h2, fun ⟨n, t, hn⟩ => ⟨n, t, h.cells _ _ hn rfl⟩⟩
theorem ExtX.put {pn B : Nat} {W : World} {l : Nat} {o o' : Obj} (hl : B ≤ l) (ho : W.heap[l]? = some o) (hc : o.isCells = false) : ExtX pn B W (W.putObj l o') := ExtX.of_ext (Ext.put hl ho hc)
theorem ExtX.trans {pn B : Nat} {A C D : World} (h : ExtX pn B A C) (h' : ExtX pn B C D) : ExtX pn B A D :=
  ⟨h'.os.trans h.os, h'.tape.trans h.tape, h'.output.trans h.output, Nat.le_trans h.size h'.size, fun k hk h1 hne => (h'.low k hk (Nat.lt_of_lt_of_le h1 h.size) hne).trans (h.low k hk h1 hne), fun k o hne h1 h2 => h'.cells k o hne (h.cells k o hne h1 h2) h2, fun hn => h'.own (h.own hn)⟩
/-- THE CONTRACT OF AN ITERATOR VALUE, called in a world that goes on from w: it tells the elements of xs one by one (Enc: how a value reads as an element), till a round says no more. B: the body's own blocks lie from there on. -/
def IterX (pn : Nat) (c0 : Int) {α : Type} (P : Program) (gf : Nat) (lb : Array Value) (Enc : World → Value → α → Prop) (xs : List α) (B : Nat) (Kp : World → World → Prop) (w : World) : Prop :=
  ∀ (l : Nat) (J Jx : List α → (Nat → Prop) → World → Prop) (S0 : Nat → Prop) (W1 : World), Below w.heap.size w W1 → (∀ k, S0 k → B ≤ k ∧ k < W1.heap.size) →
    (∀ pre S W W', J pre S W → BelowX pn W.heap.size W W' → J pre S W') → (∀ pre S W W', Jx pre S W → BelowX pn W.heap.size W W' → Jx pre S W') →
    (∀ pre x v S W, J pre S W → Enc W v x → pre ++ [x] <+: xs → YieldAt Fence.wide 0 P l #[v] W fun e W' =>
      (e = .returned (.bool true) ∧ ∃ S', J (pre ++ [x]) S' W' ∧ Foot S S' W W' ∧ Top S' W' ∧ Kp W W') ∨ (e = .returned (.bool false) ∧ ∃ S', Jx (pre ++ [x]) S' W' ∧ Foot S S' W W')) →
    J [] S0 W1 → W1.cell? ⟨pn, 0, none⟩ = some (.int .i64 c0) → IntAt W1 pn →
    CallsIn Fence.wide 0 P gf (IterArgs l lb) W1 fun e W' => (∃ v, e = .returned v) ∧ ((∃ S', J xs S' W' ∧ W'.cell? ⟨pn, 0, none⟩ = some (.int .i64 (c0 + (xs.length : Int)))) ∨ (∃ pre S', pre <+: xs ∧ Jx pre S' W'))
end Go.Proofs.YtieffhkfefimeaaGreatDoor

namespace Go.Proofs.YtieffhkfefimeaaGreatDoor
open Go.RowKit Go.Shelf
set_option linter.unusedVariables false
set_option linter.unusedSimpArgs false
attribute [local go_sem] Oper.semAt_some field_nat
theorem QIs.keep {W W' : World} {v : Value} {q : Rat} (h : QIs W v q) (hk : KeepNat W W') : QIs W' v q := by
  obtain ⟨a, b, c, d, e, f, rfl, h1, h2⟩ := h
  exact ⟨a, b, c, d, e, f, rfl, hk _ _ h1, hk _ _ h2⟩
theorem ExtX.block {pn B : Nat} {A C : World} (h : ExtX pn B A C) {p : Addr} {v : Value} (hp : A.cell? p = some v) (hne : p.block ≠ pn) : C.heap[p.block]? = A.heap[p.block]? := by
  unfold World.cell? at hp
  split at hp
  · rename_i hb
    rw [hb]; exact h.cells _ _ hne hb rfl
  · cases hp
theorem ExtX.cell {pn B : Nat} {A C : World} (h : ExtX pn B A C) {p : Addr} {v : Value} (hp : A.cell? p = some v) (hne : p.block ≠ pn) : C.cell? p = some v :=
  (World.cell?_of_block (h.block hp hne)).trans hp
/-- The sum, as it is added up. -/
def qsumL (l : List Rat) : Rat := l.foldl (· + ·) 0
/-- No limb lies in the count's block. -/
theorem IntAt.no {W : World} {p : Addr} {n : Int} (hn : IntAt W p.block) (hp : W.cell? p = some (.int .u32 n)) : False := by
  obtain ⟨m, t, hm⟩ := hn
  unfold World.cell? at hp
  simp only [hm] at hp
  obtain ⟨blk, off, spot⟩ := p
  cases off with
  | zero => simp at hp
  | succ k => simp at hp
/-- Numbers are kept, and the count is an int still. -/
def KpX (pn : Nat) (A C : World) : Prop := IntAt A pn → IntAt C pn ∧ KeepNat A C
theorem KpX.trans {pn : Nat} {A C D : World} (h : KpX pn A C) (h' : KpX pn C D) : KpX pn A D := fun hn => ⟨(h' (h hn).1).1, (h hn).2.trans (h' (h hn).1).2⟩
theorem KpX.ext {pn B : Nat} {A C : World} (h : ExtX pn B A C) : KpX pn A C := fun hn => ⟨h.own hn, KeepNat.of_cells h.size fun p n hp => by
  by_cases hne : p.block = pn
  · subst hne; exact (hn.no hp).elim
  · exact h.cell hp hne⟩
theorem KpX.below {pn : Nat} {A C : World} (h : Below A.heap.size A C) : KpX pn A C := fun hn => ⟨(BelowX.of h).own hn, KeepNat.below h⟩
theorem BelowX.set3 {pn B b : Nat} {w W : World} {u0 u1 u2 : Value} (h : BelowX pn B w W) (hb : B ≤ b) (hne : b ≠ pn) : BelowX pn B w (((W.setCell ⟨b, 0, none⟩ u0).setCell ⟨b, 1, none⟩ u1).setCell ⟨b, 2, none⟩ u2) := by
  have hh : ∀ k, k ≠ b → (((W.setCell ⟨b, 0, none⟩ u0).setCell ⟨b, 1, none⟩ u1).setCell ⟨b, 2, none⟩ u2).heap[k]? = W.heap[k]? := fun k hk =>
    ((Below.heap_setCell _ _ _ _ (fun e => hk e)).trans (Below.heap_setCell _ _ _ _ (fun e => hk e))).trans (Below.heap_setCell _ _ _ _ (fun e => hk e))
  exact ⟨h.os, h.tape, h.output, Nat.le_trans h.size (by simp [World.setCell]), fun k hk hn => (hh k (by omega)).trans (h.block k hk hn), fun hn => by
    obtain ⟨n, t, h9⟩ := h.own hn
    exact ⟨n, t, (hh pn (fun e => hne e.symm)).trans h9⟩⟩
theorem IterX.mono {α : Type} {P : Program} {gf pn : Nat} {c0 : Int} {lb : Array Value} {Enc : World → Value → α → Prop} {xs : List α} {B : Nat} {Kp : World → World → Prop} {w w' : World} (h : IterX pn c0 P gf lb Enc xs B Kp w) (hb : Below w.heap.size w w') :
    IterX pn c0 P gf lb Enc xs B Kp w' := fun l J Jx S0 W1 hW => h l J Jx S0 W1 (hb.trans (hW.mono hb.size))
theorem Foot.set3 {S : Nat → Prop} {W : World} {b : Nat} (u0 u1 u2 : Value) (hp : S b) : Foot S S W (((W.setCell ⟨b, 0, none⟩ u0).setCell ⟨b, 1, none⟩ u1).setCell ⟨b, 2, none⟩ u2) :=
  ⟨rfl, rfl, rfl, by simp [World.setCell], fun k hk hs => by
    have hne : k ≠ b := fun e => hs (by rw [e]; exact hp)
    exact ((Below.heap_setCell _ _ _ _ (fun e => hne e)).trans (Below.heap_setCell _ _ _ _ (fun e => hne e))).trans (Below.heap_setCell _ _ _ _ (fun e => hne e)), fun _ h => .inl h⟩
theorem IntAt.keep {W W' : World} {pn : Nat} (h : IntAt W pn) (hh : W'.heap[pn]? = W.heap[pn]?) : IntAt W' pn := by
  obtain ⟨n, t, h9⟩ := h; exact ⟨n, t, hh.trans h9⟩
end Go.Proofs.YtieffhkfefimeaaGreatDoor

namespace Go.Proofs.YtieffhkfefimeaaGreatDoor
open Go.RowKit Go.Shelf
set_option linter.unusedVariables false
set_option linter.unusedSimpArgs false
attribute [local go_sem] Oper.semAt_some field_nat
/-- A row of fractions that lies: its cells, three by three. -/
structure RatRow (W : World) (v : Value) (qs : List Rat) (B pn : Nat) : Prop where
  row : ∃ (ao : Option Addr) (cap : Nat), v = .slice ao qs.length cap ∧ (qs = [] ∨ ∃ g, ao = some ⟨g, 0, none⟩ ∧ g < B ∧ g < W.heap.size ∧ g ≠ pn ∧ ∀ i, i < qs.length → ∃ x y z, W.cell? ⟨g, i * 3, none⟩ = some x ∧ W.cell? ⟨g, i * 3 + 1, none⟩ = some y ∧ W.cell? ⟨g, i * 3 + 2, none⟩ = some z ∧ QIs W (.agg #[x, y, z]) (qs[i]?.getD 0))
theorem RatRow.keep {W W' : World} {v : Value} {qs : List Rat} {B pn : Nat} (h : RatRow W v qs B pn) (hs : W.heap.size ≤ W'.heap.size) (hc : ∀ g, g < B → g < W.heap.size → g ≠ pn → W'.heap[g]? = W.heap[g]?) (hk : KeepNat W W') : RatRow W' v qs B pn := by
  obtain ⟨ao, cap, h1, h2⟩ := h.row
  refine ⟨ao, cap, h1, ?_⟩
  rcases h2 with h2 | ⟨g, h3, h4, h5, h6, h7⟩
  · exact .inl h2
  · refine .inr ⟨g, h3, h4, Nat.lt_of_lt_of_le h5 hs, h6, fun i hi => ?_⟩
    obtain ⟨x, y, z, c0, c1, c2, hq⟩ := h7 i hi
    have e := hc g h4 h5 h6
    exact ⟨x, y, z, (World.cell?_of_block (a := ⟨g, i * 3, none⟩) e).trans c0, (World.cell?_of_block (a := ⟨g, i * 3 + 1, none⟩) e).trans c1, (World.cell?_of_block (a := ⟨g, i * 3 + 2, none⟩) e).trans c2, hq.keep hk⟩
theorem IntAt.free {W : World} {pn : Nat} (h : IntAt W pn) : W.frozen? ⟨pn, 0, none⟩ = false := by
  obtain ⟨n, t, h9⟩ := h
  simp [World.frozen?, h9]
end Go.Proofs.YtieffhkfefimeaaGreatDoor
