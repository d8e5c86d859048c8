/-
  Pk01: HeapN RangeN (what is needed of them).
-/
import Derived.Test.YtcpfanpcdkoiaaaGreatPk00
import Derived.Test.YtcpfanpcdkoiaaaGreatProg
import Derived.WalkKit
import Derived.Lib.Hide
import Derived.WalkSpells
import Derived.WalkLawsBesides
import Derived.Deep.QuietTactic
import Derived.BigQuiet
import Derived.RangeFuncNested
import Derived.RangeFuncBound
import Derived.RangeFuncCalls
import Derived.RangeFuncLeaves
import Derived.Shelf.Abstract
import Derived.OwnWalkIn
set_option maxRecDepth 100000
set_option linter.unusedVariables false
set_option linter.unusedSimpArgs false

namespace Go.Proofs.YtcpfanpcdkoiaaaGreat


open Go.RowKit
def Cells (k : IntKind) (w : World) (ao : Option Addr) (xs : List Nat) : Prop :=
 xs = [] ∨ ∃ b off, ao = some ⟨b, off, none⟩ ∧ b < w.heap.size ∧ ∀ i, i < xs.length → w.cell? ⟨b, off + i, none⟩ = some (.int k ((xs[i]?.getD 0 : Nat) : Int))
def Ints (k : IntKind) (w : World) (v : Value) (xs : List Nat) : Prop :=
 ∃ ao cap, v = .slice ao xs.length cap ∧ xs.length ≤ cap ∧ cap ≤ maxLen ∧ (ao = none → cap = 0) ∧ Cells k w ao xs
theorem Cells.below {k : IntKind} {w w' : World} {ao : Option Addr} {xs : List Nat} (h : Cells k w ao xs) (hb : Below w.heap.size w w') : Cells k w' ao xs := by
 rcases h with h | ⟨b, off, h1, h2, h3⟩
 ·exact .inl h
 ·exact .inr ⟨b, off, h1, Nat.lt_of_lt_of_le h2 hb.size, fun i hi => (hb.cell (p := ⟨b, off + i, none⟩) h2).trans (h3 i hi)⟩
theorem Ints.below {k : IntKind} {w w' : World} {v : Value} {xs : List Nat} (h : Ints k w v xs) (hb : Below w.heap.size w w') : Ints k w' v xs := by
 obtain ⟨ao, cap, h1, h2, h3, h4, h5⟩ := h
 exact ⟨ao, cap, h1, h2, h3, h4, h5.below hb⟩
theorem Cells.alloc {k : IntKind} {w : World} {ao : Option Addr} {xs : List Nat} (h : Cells k w ao xs) (o : Obj) : Cells k (w.alloc o) ao xs :=
 h.below ((Below.refl _ _).alloc (Nat.le_refl _) _)
theorem Ints.alloc {k : IntKind} {w : World} {v : Value} {xs : List Nat} (h : Ints k w v xs) (o : Obj) : Ints k (w.alloc o) v xs :=
 h.below ((Below.refl _ _).alloc (Nat.le_refl _) _)
theorem Cells.take {k : IntKind} {w : World} {ao : Option Addr} {xs : List Nat} (h : Cells k w ao xs) (n : Nat) : Cells k w ao (xs.take n) := by
 rcases h with h | ⟨b, off, h1, h2, h3⟩
 ·exact .inl (by simp [h])
 ·refine .inr ⟨b, off, h1, h2, fun i hi => ?_⟩
  rw [h3 i (by simp at hi; omega), List.getElem?_take, if_pos (by simp at hi; omega)]
def NatIs (w : World) (v : Value) (n : Nat) : Prop := ∃ sv, v = .agg #[sv] ∧ Ints .u32 w sv (limbs n)
theorem NatIs.below {w w' : World} {v : Value} {n : Nat} (h : NatIs w v n) (hb : Below w.heap.size w w') : NatIs w' v n := by
 obtain ⟨sv, h1, h2⟩ := h
 exact ⟨sv, h1, h2.below hb⟩
theorem bcell {W w1 : World} {B : Nat} (hb : Below B W w1) : (∀ b o, b < B → w1.cell? ⟨b, o, none⟩ = W.cell? ⟨b, o, none⟩) ∧ (∀ b o, b < B → w1.frozen? ⟨b, o, none⟩ = W.frozen? ⟨b, o, none⟩) :=
 ⟨fun b o h => hb.cell (p := ⟨b, o, none⟩) h, fun b o h => hb.frozen (p := ⟨b, o, none⟩) h⟩
def ints (k : IntKind) (xs : List Nat) : List Value := xs.map fun n => Value.int k ((n : Nat) : Int)
theorem ints_length (k : IntKind) (xs : List Nat) : (ints k xs).length = xs.length := by simp [ints]
theorem ints_append (k : IntKind) (xs ys : List Nat) : ints k (xs ++ ys) = ints k xs ++ ints k ys := by simp [ints]
theorem ints_get (k : IntKind) (xs : List Nat) (i : Nat) (h : i < xs.length) : (ints k xs)[i]? = some (.int k ((xs[i]?.getD 0 : Nat) : Int)) := by
 simp [ints, h]
theorem ints_one (k : IntKind) (xs : List Nat) : ∀ u ∈ ints k xs, u.oneCell' = true := by
 intro u hu
 obtain ⟨_, _, rfl⟩ := List.mem_map.1 hu
 rfl
def Owns (base : Nat) (e : TypeId) (w : World) (v : Value) (xs : List Value) : Prop := w.ownsRow base e 1 v xs.length xs
theorem Owns.nil (base : Nat) (e : TypeId) (w : World) : Owns base e w (.slice none 0 0) [] := World.ownsRow_nil _ _ _ _
theorem Owns.shape {base : Nat} {e : TypeId} {w : World} {v : Value} {xs : List Value} (h : Owns base e w v xs) :
  (v = .slice none 0 0 ∧ xs = []) ∨ ∃ g cap, v = .slice (some ⟨g, 0, none⟩) xs.length cap ∧ base ≤ g ∧ g < w.heap.size ∧ xs.length ≤ cap ∧ cap ≤ maxLen ∧
   (∀ j, j < xs.length → w.cell? ⟨g, j, none⟩ = xs[j]?) ∧ (∀ j, w.frozen? ⟨g, j, none⟩ = false) := by
 have h0 := h
 obtain ⟨h1, ⟨rfl, hn⟩ | ⟨g, cap, cur, rfl, h2, h3, h4, h5, h6, h7⟩⟩ := h
 ·exact .inl ⟨rfl, List.eq_nil_of_length_eq_zero hn⟩
 ·exact .inr ⟨g, cap, rfl, h2, (Array.getElem?_eq_some_iff.1 h3).1, h4, h5, fun j hj => World.ownsRow.cellAt h0 j (by omega), fun j => World.ownsRow.frozenAt h0 j⟩
theorem Owns.kept {base : Nat} {e : TypeId} {w w' : World} {v : Value} {xs : List Value} (h : Owns base e w v xs) (hb : Below w.heap.size w w') : Owns base e w' v xs :=
 World.ownsRow.kept (row := none) h ⟨hb.os, hb.tape, hb.output, hb.size, fun k hk _ => hb.block k hk⟩ (by cases hv : v.ownBlock <;> simp)
theorem Owns.alloc {base : Nat} {e : TypeId} {w : World} {v : Value} {xs : List Value} (h : Owns base e w v xs) (o : Obj) : Owns base e (w.alloc o) v xs := World.ownsRow.alloc h o
theorem Owns.stored {base : Nat} {e : TypeId} {w : World} {g n cap : Nat} {xs : List Value} (h : Owns base e w (.slice (some ⟨g, 0, none⟩) n cap) xs) (hn : n = xs.length) (j : Nat) (u : Value) :
  Owns base e (w.setCell ⟨g, j, none⟩ u) (.slice (some ⟨g, 0, none⟩) n cap) (xs.set j u) := by
 subst hn
 have := (World.ownsRow.stored h j u).1
 unfold Owns
 simpa using this
theorem Owns.mono {base base' : Nat} {e : TypeId} {w : World} {v : Value} {xs : List Value} (h : Owns base e w v xs) (hb : base' ≤ base) : Owns base' e w v xs := by
 obtain ⟨h1, h2 | ⟨g, cap, cur, h2, h3, h4⟩⟩ := h
 ·exact ⟨h1, .inl h2⟩
 ·exact ⟨h1, .inr ⟨g, cap, cur, h2, by omega, h4⟩⟩
theorem Owns.toInts {base : Nat} {e : TypeId} {w : World} {v : Value} {k : IntKind} {xs : List Nat} (h : Owns base e w v (ints k xs)) : Ints k w v xs := by
 rcases h.shape with ⟨rfl, hx⟩ | ⟨g, cap, rfl, h2, h3, h4, h5, h6, h7⟩
 ·have : xs = [] := by simpa [ints] using hx
  subst this
  exact ⟨none, 0, rfl, Nat.le_refl _, Nat.zero_le _, fun _ => rfl, .inl rfl⟩
 ·rw [ints_length] at h4 h6 ⊢
  refine ⟨some ⟨g, 0, none⟩, cap, rfl, h4, h5, (fun h => by cases h), .inr ⟨g, 0, rfl, h3, fun i hi => ?_⟩⟩
  rw [Nat.zero_add, h6 i hi, ints_get _ _ _ hi]
structure Elem (P : Program) (t e : TypeId) (z : Value) (bytes : Nat) : Prop where
 und : P.underlying t = some (.slice e)
 info : ∃ i, P.info? e = some i ∧ i.zero = some z ∧ i.size = 1 ∧ i.bytes = bytes
 one : z.cells.size = 1
theorem elem_of {P : Program} {t e : TypeId} {z : Value} {bytes : Nat} (h1 : P.underlying t = some (.slice e)) (h2 : (P.info? e).map (fun i => (i.zero, i.size, i.bytes)) = some (some z, 1, bytes)) (h3 : z.cells.size = 1) : Elem P t e z bytes :=
 ⟨h1, info_parts h2, h3⟩
theorem append1 {P : Program} {t e : TypeId} {z : Value} {bytes : Nat} (E : Elem P t e z bytes) {w : World} {ops : Array Oper} {rest : List Oper} {o : Oper} {a : Act} {Q : Exit → Act → World → Prop} {s x : Operand} {u : Value} {base : Nat} {v : Value} {xs : List Value}
  (hown : Owns base e w v xs) (hgd : o.guard = none) (ho : o.op = .call { callee := .builtin .append, args := #[s, x], argTypes := #[t, t] }) (hs : a.eval s = v)
  (hx : a.eval x = .slice (some ⟨w.heap.size, 0, none⟩) 1 1) (h1 : u.oneCell' = true) (hl : (xs.length + 1) * bytes ≤ 140737488355328) (hm : xs.length + 1 ≤ maxLen) (hbase : base ≤ w.heap.size)
  (h : ∀ v' w', Owns base e w' v' (xs ++ [u]) → Below base w w' → w.grownBy w' v.ownBlock → wpList P ops Q rest (a.put o.dst v') w') : wpList P ops Q (o :: rest) a (w.alloc (.cells #[u] e)) := by
 obtain ⟨i, hi, hz, h4, h5⟩ := E.info
 refine wpList_append_own _ hgd s x t ho base e i z 1 bytes E.und hi hz h4 h5 E.one (by decide) v xs.length xs hs (World.ownsRow.alloc hown _) ⟨w.heap.size, 0, none⟩ 1 1 [u] hx rfl ?_ (by simpa using h1) hm hl (by simp; omega) ?_
 ·intro j u' hj
  match j, hj with
  | 0, hj => simp at hj; subst hj; simp [Addr.add]
 ·intro v' w' h2 h3 _
  have hg : w.grownBy w' v.ownBlock := ⟨h3.os, h3.tape, h3.output, Nat.le_trans (by simp) h3.size, fun k hk hne => (h3.block k (by simp; omega) hne).trans (Below.heap_alloc _ _ _ hk)⟩
  refine h v' w' (by unfold Owns; simpa using h2) ⟨hg.os, hg.tape, hg.output, hg.size, fun k hk => hg.block k (by omega) (fun e' => ?_)⟩ hg
  have := World.ownsRow.lt hown k e'.symm
  omega
theorem appendN {P : Program} {t e : TypeId} {z : Value} {bytes : Nat} (E : Elem P t e z bytes) {w : World} {ops : Array Oper} {rest : List Oper} {o : Oper} {a : Act} {Q : Exit → Act → World → Prop} {s x : Operand} {base : Nat} {v : Value} {xs ys : List Value} {ad : Addr} {c : Nat}
  (hown : Owns base e w v xs) (hgd : o.guard = none) (ho : o.op = .call { callee := .builtin .append, args := #[s, x], argTypes := #[t, t] }) (hs : a.eval s = v)
  (hx : a.eval x = .slice (some ad) ys.length c) (hy : ∀ j u, ys[j]? = some u → w.cell? (ad.add j) = some u) (h1 : ∀ u ∈ ys, u.oneCell' = true) (hl : (xs.length + ys.length) * bytes ≤ 140737488355328) (hm : xs.length + ys.length ≤ maxLen) (hbase : base ≤ w.heap.size)
  (h : ∀ v' w', Owns base e w' v' (xs ++ ys) → Below base w w' → w.grownBy w' v.ownBlock → wpList P ops Q rest (a.put o.dst v') w') : wpList P ops Q (o :: rest) a w := by
 obtain ⟨i, hi, hz, h4, h5⟩ := E.info
 refine wpList_append_own _ hgd s x t ho base e i z 1 bytes E.und hi hz h4 h5 E.one (by decide) v xs.length xs hs hown ad ys.length c ys hx (by simp) hy h1 hm hl hbase ?_
 intro v' w' h2 h3 _
 refine h v' w' (by unfold Owns; simpa using h2) ⟨h3.os, h3.tape, h3.output, h3.size, fun k hk => h3.block k (by omega) (fun e' => ?_)⟩ h3
 have := World.ownsRow.lt hown k e'.symm
 omega
theorem Cells.at {k : IntKind} {w : World} {ad : Addr} {xs : List Nat} (h : Cells k w (some ad) xs) : ∀ j u, (ints k xs)[j]? = some u → w.cell? (ad.add j) = some u := by
 intro j u hu
 have hj : j < xs.length := by have := (List.getElem?_eq_some_iff.1 hu).1; rwa [ints_length] at this
 rcases h with rfl | ⟨b, off, e, _, hc⟩
 ·simp at hj
 ·obtain rfl := Option.some.inj e
  rw [Addr.add_lit, hc j hj, ← ints_get k xs j hj, hu]
theorem Cells.set {k : IntKind} {w : World} {ao : Option Addr} {xs : List Nat} (h : Cells k w ao xs) (p : Addr) (u : Value) (hp : ∀ n, w.cell? p ≠ some (.int k n)) : Cells k (w.setCell p u) ao xs := by
 rcases h with h | ⟨b, off, h1, h2, h3⟩
 ·exact .inl h
 ·refine .inr ⟨b, off, h1, by simpa [World.setCell] using h2, fun i hi => ?_⟩
  rw [World.cell?_setCell_other]
  ·exact h3 i hi
  ·intro e'
   exact hp _ (e' ▸ h3 i hi)
theorem Ints.set {k : IntKind} {w : World} {v : Value} {xs : List Nat} (h : Ints k w v xs) (p : Addr) (u : Value) (hp : ∀ n, w.cell? p ≠ some (.int k n)) : Ints k (w.setCell p u) v xs := by
 obtain ⟨ao, cap, h1, h2, h3, h4, h5⟩ := h
 exact ⟨ao, cap, h1, h2, h3, h4, h5.set p u hp⟩
theorem NatIs.set {w : World} {v : Value} {n : Nat} (h : NatIs w v n) (p : Addr) (u : Value) (hp : ∀ n, w.cell? p ≠ some (.int .u32 n)) : NatIs (w.setCell p u) v n := by
 obtain ⟨sv, h1, h2⟩ := h
 exact ⟨sv, h1, h2.set p u hp⟩
theorem cell_set {w : World} {p : Addr} {u v : Value} (h : w.cell? p = some u) : (w.setCell p v).cell? p = some v :=
 World.cell?_setCell_same' _ _ _ (by rw [h]; rfl)
theorem Owns.at {base : Nat} {e : TypeId} {w : World} {g n cap : Nat} {k : IntKind} {xs : List Nat} (h : Owns base e w (.slice (some ⟨g, 0, none⟩) n cap) (ints k xs)) :
  xs.length = n ∧ base ≤ g ∧ g < w.heap.size ∧ n ≤ cap ∧ (∀ j, j < n → w.cell? ⟨g, j, none⟩ = some (.int k ((xs[j]?.getD 0 : Nat) : Int))) ∧ (∀ j, w.frozen? ⟨g, j, none⟩ = false) := by
 rcases h.shape with ⟨h, _⟩ | ⟨g', cap', h, h2, h3, h4, h5, h6, h7⟩
 ·cases h
 ·rw [ints_length] at h h4 h6
  simp only [Value.slice.injEq, Option.some.injEq, Addr.mk.injEq, and_true] at h
  obtain ⟨rfl, rfl, rfl⟩ := h
  exact ⟨rfl, h2, h3, h4, fun j hj => by rw [h6 j hj, ints_get _ _ _ hj], h7⟩
theorem ret_one {v v' : Value} (h : v = v') : Ending.returned v = .returned v' := by rw [h]
end Go.Proofs.YtcpfanpcdkoiaaaGreat
namespace Go.Proofs.YtcpfanpcdkoiaaaGreat
open Go.RowKit


structure Mut (k : IntKind) (w : World) (g off : Nat) (xs : List Nat) : Prop where
 lt : g < w.heap.size
 cell : ∀ i, i < xs.length → w.cell? ⟨g, off + i, none⟩ = some (.int k ((xs[i]?.getD 0 : Nat) : Int))
 free : ∀ i, i < xs.length → w.frozen? ⟨g, off + i, none⟩ = false
theorem Mut.cells {k : IntKind} {w : World} {g off : Nat} {xs : List Nat} (h : Mut k w g off xs) : Cells k w (some ⟨g, off, none⟩) xs :=
 .inr ⟨g, off, rfl, h.lt, h.cell⟩
theorem Mut.kept {k : IntKind} {w w' : World} {g off : Nat} {xs : List Nat} (h : Mut k w g off xs) (hb : w'.heap[g]? = w.heap[g]?) (hs : w.heap.size ≤ w'.heap.size) : Mut k w' g off xs :=
 ⟨Nat.lt_of_lt_of_le h.lt hs, fun i hi => (World.cell?_of_block (w := w) (a := ⟨g, off + i, none⟩) hb).trans (h.cell i hi), fun i hi => (World.frozen?_of_block (w := w) (a := ⟨g, off + i, none⟩) hb).trans (h.free i hi)⟩
theorem Mut.below {k : IntKind} {w w' : World} {g off B : Nat} {xs : List Nat} (h : Mut k w g off xs) (hb : Below B w w') (hg : g < B) : Mut k w' g off xs :=
 h.kept (hb.block g hg) hb.size
theorem Mut.take {k : IntKind} {w : World} {g off : Nat} {xs : List Nat} (h : Mut k w g off xs) (n : Nat) : Mut k w g off (xs.take n) :=
 ⟨h.lt, fun i hi => by rw [h.cell i (by simp at hi; omega), List.getElem?_take, if_pos (by simp at hi; omega)], fun i hi => h.free i (by simp at hi; omega)⟩
theorem Mut.drop {k : IntKind} {w : World} {g off : Nat} {xs : List Nat} (h : Mut k w g off xs) (n : Nat) : Mut k w g (off + n) (xs.drop n) :=
 ⟨h.lt, fun i hi => by rw [Nat.add_assoc, h.cell (n + i) (by simp at hi; omega), List.getElem?_drop], fun i hi => by rw [Nat.add_assoc]; exact h.free (n + i) (by simp at hi; omega)⟩
theorem Mut.set {k : IntKind} {w : World} {g off : Nat} {xs : List Nat} (h : Mut k w g off xs) (j y : Nat) (hj : j < xs.length) : Mut k (w.setCell ⟨g, off + j, none⟩ (.int k (y : Int))) g off (xs.set j y) := by
 refine ⟨by simpa [World.setCell] using h.lt, fun i hi => ?_, fun i hi => ?_⟩
 ·rw [List.length_set] at hi
  rw [getD_set hj]
  by_cases e : i = j
  ·subst e
   rw [if_pos rfl]
   exact cell_set (h.cell i hj)
  ·rw [if_neg e, World.cell?_setCell_other]
   ·exact h.cell i hi
   ·intro e'; have h2 : off + j = off + i := by injection e'
    omega
 ·rw [List.length_set] at hi
  rw [World.frozen?_setCell]
  exact h.free i hi
theorem Owns.mut {base : Nat} {e : TypeId} {w : World} {g n cap : Nat} {k : IntKind} {xs : List Nat} (h : Owns base e w (.slice (some ⟨g, 0, none⟩) n cap) (ints k xs)) : Mut k w g 0 xs := by
 obtain ⟨h1, h2, h3, h4, h5, h6⟩ := h.at
 exact ⟨h3, fun i hi => by rw [Nat.zero_add, h5 i (by omega)], fun i hi => by rw [Nat.zero_add]; exact h6 i⟩
theorem grownBy_trans {a b c : World} {r : Option Nat} (h : a.grownBy b r) (h' : b.grownBy c r) : a.grownBy c r :=
 ⟨h'.os.trans h.os, h'.tape.trans h.tape, h'.output.trans h.output, Nat.le_trans h.size h'.size, fun k hk hr => (h'.block k (Nat.lt_of_lt_of_le hk h.size) hr).trans (h.block k hk hr)⟩
theorem grownBy_set {a w : World} {g : Nat} (h : a.grownBy w (some g)) (j : Nat) (u : Value) : a.grownBy (w.setCell ⟨g, j, none⟩ u) (some g) :=
 grownBy_trans h ⟨rfl, rfl, rfl, by simp [World.setCell], fun k hk hr => Below.heap_setCell _ _ _ _ (fun e => hr (by simp [e]))⟩
theorem grownBy_refl (w : World) (r : Option Nat) : w.grownBy w r := ⟨rfl, rfl, rfl, Nat.le_refl _, fun _ _ _ => rfl⟩
theorem Owns.other {base : Nat} {e : TypeId} {w w' : World} {v : Value} {xs : List Value} {g : Nat} (h : Owns base e w v xs) (hg : w.grownBy w' (some g)) (hlt : g < base) : Owns base e w' v xs :=
 World.ownsRow.kept h hg (by
  by_cases hv : v.ownBlock = none
  ·exact .inl hv
  ·right; intro e'
   have := World.ownsRow.lt h g e'
   omega)
def str (xs : List Nat) : List UInt8 := xs.map UInt8.ofNat
structure Box (w : World) (b : Nat) (v : Value) : Prop where
 cell : w.cell? ⟨b, 0, none⟩ = some v
 free : w.frozen? ⟨b, 0, none⟩ = false
 lt : b < w.heap.size
theorem Box.below {w w' : World} {b B : Nat} {v : Value} (h : Box w b v) (hb : Below B w w') (hlt : b < B) : Box w' b v :=
 ⟨(hb.cell (p := ⟨b, 0, none⟩) hlt).trans h.cell, (hb.frozen (p := ⟨b, 0, none⟩) hlt).trans h.free, Nat.lt_of_lt_of_le h.lt hb.size⟩
theorem Box.kept {w w' : World} {b : Nat} {v : Value} (h : Box w b v) (hb : Below w.heap.size w w') : Box w' b v := h.below hb h.lt
theorem Box.drew {w : World} {b : Nat} {v : Value} (h : Box w b v) : Box w.drew b v := ⟨h.cell, h.free, h.lt⟩
theorem Box.grown {w w' : World} {b g : Nat} {v : Value} (h : Box w b v) (hg : w.grownBy w' (some g)) (hne : b ≠ g) : Box w' b v :=
 ⟨(World.cell?_of_block (w := w) (a := ⟨b, 0, none⟩) (hg.block b h.lt (by simpa using hne))).trans h.cell, (World.frozen?_of_block (w := w) (a := ⟨b, 0, none⟩) (hg.block b h.lt (by simpa using hne))).trans h.free, Nat.lt_of_lt_of_le h.lt hg.size⟩
theorem Box.set {w : World} {b : Nat} {v : Value} (h : Box w b v) (u : Value) : Box (w.setCell ⟨b, 0, none⟩ u) b u :=
 ⟨cell_set h.cell, by rw [World.frozen?_setCell]; exact h.free, by simpa [World.setCell] using h.lt⟩
theorem Box.setOther {w : World} {b g : Nat} {v : Value} (h : Box w b v) (hne : b ≠ g) (j : Nat) (u : Value) : Box (w.setCell ⟨g, j, none⟩ u) b v :=
 h.grown (grownBy_set (grownBy_refl w _) j u) hne
theorem makeN {P : Program} {t e : TypeId} {k : IntKind} {bytes : Nat} (E : Elem P t e (.int k 0) bytes) {w : World} {ops : Array Oper} {rest : List Oper} {o : Oper} {a : Act} {Q : Exit → Act → World → Prop} {l c : Operand} {n : Nat}
  (hg : o.guard = none) (hop : o.op = Op.makeSlice t l c) (hl : a.eval l = .int .i64 (n : Int)) (hc : a.eval c = .int .i64 (n : Int)) (b2 : bytes * n ≤ 281474976710656) (b3 : n ≤ maxLen)
  (h : ∀ w', Owns w.heap.size e w' (.slice (some ⟨w.heap.size, 0, none⟩) n n) (ints k (List.replicate n 0)) → Below w.heap.size w w' → wpList P ops Q rest (a.put o.dst (.slice (some ⟨w.heap.size, 0, none⟩) n n)) w') : wpList P ops Q (o :: rest) a w := by
 obtain ⟨i, hi, hz, h4, h5⟩ := E.info
 subst h5
 refine wpList_make_full w hg l c t hop w.heap.size e i (.int k 0) 1 E.und hi hz h4 .i64 .i64 (n : Int) (n : Int) n hl hc rfl rfl b2 b3 (Nat.le_refl _) ?_
 intro w' h1 h2
 refine h w' ?_ ⟨h2.os, h2.tape, h2.output, h2.size, fun k hk => h2.block k hk (by simp)⟩
 have e1 : (madeCells (Value.int k 0).cells (n * 1)).toList = ints k (List.replicate n 0) := by
  rw [Nat.mul_one, show (Value.int k 0).cells = #[.int k 0] from rfl, toList_madeCells_one]
  simp [ints]
 rw [e1] at h1
 unfold Owns
 simpa [ints] using h1
theorem makeLC {P : Program} {t e : TypeId} {k : IntKind} {bytes : Nat} (E : Elem P t e (.int k 0) bytes) {w : World} {ops : Array Oper} {rest : List Oper} {o : Oper} {a : Act} {Q : Exit → Act → World → Prop} {lo co : Operand} {l c : Nat} {L C : Int}
  (hg : o.guard = none) (hop : o.op = Op.makeSlice t lo co) (hl0 : a.eval lo = .int .i64 L) (hc0 : a.eval co = .int .i64 C) (hL : L = (l : Int)) (hC : C = (c : Int)) (hlc : l ≤ c) (b2 : bytes * c ≤ 281474976710656) (b3 : c ≤ maxLen)
  (h : ∀ w', Owns w.heap.size e w' (.slice (some ⟨w.heap.size, 0, none⟩) l c) (ints k (List.replicate l 0)) → Below w.heap.size w w' → wpList P ops Q rest (a.put o.dst (.slice (some ⟨w.heap.size, 0, none⟩) l c)) w') : wpList P ops Q (o :: rest) a w := by
 subst hL
 subst hC
 have hl := hl0
 have hc := hc0
 obtain ⟨i, hi, hz, h4, h5⟩ := E.info
 subst h5
 refine wpList_plain hg fun K hK' => ?_
 have hb' : (i.bytes : Int) * (c : Int) ≤ 281474976710656 := by
  have h : ((i.bytes * c : Nat) : Int) ≤ 281474976710656 := by omega
  rwa [Int.natCast_mul] at h
 have hr := run_make (P := P) w t e i (.int k 0) E.und hi hz .i64 .i64 (l : Int) (c : Int) (by omega) (by omega) hb' (by simp only [maxLen] at b3; omega)
 simp only [Int.toNat_natCast, h4, Nat.mul_one] at hr
 unfold Oper.wp
 simp only [execOp, hop, hl, hc, Sem.run_bind, hr, Result.andThen]
 refine hK' _ _ (h _ ⟨by simp [ints], .inr ⟨w.heap.size, c, _, by simp [ints], Nat.le_refl _, heap_alloc_new w _, by simpa [ints] using hlc, b3, by simp [madeCells], ?_⟩⟩ ((Below.refl _ w).alloc (Nat.le_refl _) _))
 have e1 : (madeCells (Value.int k 0).cells c).toList = List.replicate c (.int k 0) := by
  rw [show (Value.int k 0).cells = #[.int k 0] from rfl, toList_madeCells_one]
 rw [e1, List.take_replicate]
 simp [ints, Nat.min_eq_left hlc]
theorem held2 {wr w1 w2 : World} {p q : Addr} {u v : Value} (hb : Below w1.heap.size w1 w2) (h : w1.cell? p = some u ∧ w1.cell? q = some v ∧ Below wr.heap.size wr w1) :
  w2.cell? p = some u ∧ w2.cell? q = some v ∧ Below wr.heap.size wr w2 :=
 ⟨(hb.cell (p := p) (World.block_lt_of_cell? w1 p h.1)).trans h.1, (hb.cell (p := q) (World.block_lt_of_cell? w1 q h.2.1)).trans h.2.1, h.2.2.trans (hb.mono h.2.2.size)⟩
theorem held2_nat {wr w1 : World} {p q : Addr} {u v x : Value} {n : Nat} (hn : NatIs wr x n) (h : w1.cell? p = some u ∧ w1.cell? q = some v ∧ Below wr.heap.size wr w1) : NatIs w1 x n := hn.below h.2.2
theorem run_shr {P : Program} (w : World) (t : TypeId) (x s : Nat) (hs : s < 64) : (binOp .shr t (.int .u64 (x : Int)) (.int .i64 (s : Int))).run P w = .ok (.int .u64 ((x / 2 ^ s : Nat) : Int)) w := by
 simp only [binOp]
 simp [IntKind.bits]
end Go.Proofs.YtcpfanpcdkoiaaaGreat

namespace Go.Proofs.YtcpfanpcdkoiaaaGreat
open Go.RowKit


structure Foot (S S' : Nat → Prop) (W W' : World) : Prop where
 os : W'.os = W.os
 tape : W'.tape = W.tape
 output : W'.output = W.output
 size : W.heap.size ≤ W'.heap.size
 same : ∀ k, k < W.heap.size → ¬ S k → W'.heap[k]? = W.heap[k]?
 fresh : ∀ k, S' k → S k ∨ W.heap.size ≤ k
theorem Foot.refl (S : Nat → Prop) (W : World) : Foot S S W W := ⟨rfl, rfl, rfl, Nat.le_refl _, fun _ _ _ => rfl, fun _ h => .inl h⟩
theorem Foot.trans {S S' S'' : Nat → Prop} {A B C : World} (h : Foot S S' A B) (h' : Foot S' S'' B C) : Foot S S'' A C :=
 ⟨h'.os.trans h.os, h'.tape.trans h.tape, h'.output.trans h.output, Nat.le_trans h.size h'.size,
  fun k hk hs => (h'.same k (Nat.lt_of_lt_of_le hk h.size) (fun hs' => by rcases h.fresh k hs' with h1 | h1; exact hs h1; omega)).trans (h.same k hk hs),
  fun k hk => by
   rcases h'.fresh k hk with h1 | h1
   ·exact h.fresh k h1
   ·exact .inr (Nat.le_trans h.size h1)⟩
theorem Foot.of_below {S : Nat → Prop} {W W' : World} (h : Below W.heap.size W W') : Foot S S W W' :=
 ⟨h.os, h.tape, h.output, h.size, fun k hk _ => h.block k hk, fun _ h => .inl h⟩
theorem Foot.mono {S S' T : Nat → Prop} {W W' : World} (h : Foot S S' W W') (hT : ∀ k, T k → S' k) : Foot S T W W' :=
 ⟨h.os, h.tape, h.output, h.size, h.same, fun k hk => h.fresh k (hT k hk)⟩
theorem Foot.wide {S S' T : Nat → Prop} {W W' : World} (h : Foot S S' W W') : Foot (fun k => S k ∨ T k) (fun k => S' k ∨ T k) W W' :=
 ⟨h.os, h.tape, h.output, h.size, fun k hk hs => h.same k hk (fun h1 => hs (.inl h1)), fun k hk => by
  rcases hk with h1 | h1
  ·rcases h.fresh k h1 with h2 | h2
   ·exact .inl (.inl h2)
   ·exact .inr h2
  ·exact .inl (.inr h1)⟩
theorem Foot.put {S : Nat → Prop} {W : World} {l : Nat} (o : Obj) (hl : S l) : Foot S S W (W.putObj l o) :=
 ⟨rfl, rfl, rfl, by simp, fun k _ hs => World.putObj_heap_other (fun e => hs (e ▸ hl)), fun _ h => .inl h⟩
structure Ext (B : Nat) (W W' : World) : Prop where
 os : W'.os = W.os
 tape : W'.tape = W.tape
 output : W'.output = W.output
 size : W.heap.size ≤ W'.heap.size
 low : ∀ k, k < B → k < W.heap.size → W'.heap[k]? = W.heap[k]?
 cells : ∀ (k : Nat) (o : Obj), W.heap[k]? = some o → o.isCells = true → W'.heap[k]? = some o
theorem Ext.of_below {B : Nat} {W W' : World} (h : Below W.heap.size W W') : Ext B W W' :=
 ⟨h.os, h.tape, h.output, h.size, fun k _ hk => h.block k hk, fun k o ho _ => (h.block k (Array.getElem?_eq_some_iff.1 ho).1).trans ho⟩
theorem Ext.put {B : Nat} {W : World} {l : Nat} {o o' : Obj} (hl : B ≤ l) (ho : W.heap[l]? = some o) (hc : o.isCells = false) : Ext B W (W.putObj l o') :=
 ⟨rfl, rfl, rfl, by simp, fun k hk _ => World.putObj_heap_other (by omega), fun k o2 h2 hc2 => by
  by_cases e : k = l
  ·subst e; rw [ho] at h2; cases h2; rw [hc] at hc2; cases hc2
  ·exact (World.putObj_heap_other e).trans h2⟩
theorem Ext.trans {B : Nat} {A C D : World} (h : Ext B A C) (h' : Ext B C D) : Ext B A D :=
 ⟨h'.os.trans h.os, h'.tape.trans h.tape, h'.output.trans h.output, Nat.le_trans h.size h'.size, fun k hk h1 => (h'.low k hk (Nat.lt_of_lt_of_le h1 h.size)).trans (h.low k hk h1), fun k o h1 h2 => h'.cells k o (h.cells k o h1 h2) h2⟩
def Stab {α : Type} (B : Nat) (J : List α → (Nat → Prop) → World → Prop) : Prop := ∀ pre S W W', J pre S W → Ext B W W' → J pre S W'
def Top (S : Nat → Prop) (W : World) : Prop := ∀ k, S k → k < W.heap.size
abbrev IterArgs (l : Nat) (lb : Array Value) : Array Value := #[.func (.yield l) #[] #[]] ++ lb
def Iter {α : Type} (P : Program) (gf : Nat) (lb : Array Value) (Enc : World → Value → α → Prop) (xs : List α) (B : Nat) (Kp : World → World → Prop) (w : World) : Prop :=
 ∀ (l : Nat) (J Jx : List α → (Nat → Prop) → World → Prop) (S0 : Nat → Prop) (W1 : World), Below w.heap.size w W1 → (∀ k, S0 k → B ≤ k ∧ k < W1.heap.size) →
  (∀ pre S W W', J pre S W → Below W.heap.size W W' → J pre S W') → (∀ pre S W W', Jx pre S W → Below W.heap.size W W' → Jx pre S W') →
  (∀ pre x v S W, J pre S W → Enc W v x → pre ++ [x] <+: xs → YieldAt Fence.wide 0 P l #[v] W fun e W' =>
   (e = .returned (.bool true) ∧ ∃ S', J (pre ++ [x]) S' W' ∧ Foot S S' W W' ∧ Top S' W' ∧ Kp W W') ∨ (e = .returned (.bool false) ∧ ∃ S', Jx (pre ++ [x]) S' W' ∧ Foot S S' W W')) →
  J [] S0 W1 →
  CallsIn Fence.wide 0 P gf (IterArgs l lb) W1 fun e W' => (∃ v, e = .returned v) ∧ ((∃ S', J xs S' W' ∧ Foot S0 S' W1 W') ∨ (∃ pre S', pre <+: xs ∧ Jx pre S' W' ∧ Foot S0 S' W1 W'))
def postS {α : Type} (Kp : World → World → Prop) (I : List α → (Nat → Prop) → World → Prop) (Ix : Code → List α → (Nat → Prop) → World → Prop) (pre : List α) (S : Nat → Prop) (W : World) : Exit → Act → World → Prop
 | .normal, _, W' => ∃ S', I pre S' W' ∧ Foot S S' W W' ∧ Top S' W' ∧ Kp W W'
 | .ret, _, W' => ∃ S', Ix .ret pre S' W' ∧ Foot S S' W W'
 | .exit id, _, W' => ∃ S', Ix (.exit id) pre S' W' ∧ Foot S S' W W'
 | .goto t, _, W' => ∃ S', Ix (.goto t) pre S' W' ∧ Foot S S' W W'
 | _, _, _ => False
end Go.Proofs.YtcpfanpcdkoiaaaGreat
namespace Go.Proofs.YtcpfanpcdkoiaaaGreat
open Go.RowKit


def RowAll (p : Value → Prop) (w : World) (v : Value) : Prop := ∀ g, v.ownBlock = some g → ∀ j c, w.cell? ⟨g, j, none⟩ = some c → p c
theorem cell_mem {w : World} {g j : Nat} {arr : Array Value} {e : TypeId} {fz : Nat × Nat} {c : Value} (h : w.heap[g]? = some (.cells arr e fz)) (hc : w.cell? ⟨g, j, none⟩ = some c) : c ∈ arr := by
 unfold World.cell? at hc
 simp only [h] at hc
 simp at hc
 exact Array.mem_of_getElem? hc
theorem mem_zeroCells {z : Array Value} {n : Nat} {c : Value} (h : c ∈ Builtin.zeroCells z n) : c ∈ z := by
 simp [Builtin.zeroCells] at h
 obtain ⟨i, hi, rfl⟩ := h
 have hz : 0 < z.size := by
  rcases Nat.eq_zero_or_pos z.size with h0 | h0
  ·rw [h0] at hi; simp at hi
  ·exact h0
 rw [getElem!_pos z (i % z.size) (Nat.mod_lt _ hz)]
 exact Array.getElem_mem _
theorem run_append1 {P : Program} {t e : TypeId} {z : Value} {bytes : Nat} (E : Elem P t e z bytes) (ty : TypeId) {w : World} {base : Nat} {v : Value} {xs : List Value} (hown : Owns base e w v xs)
  (ad : Addr) (c : Nat) (u : Value) (hu : w.cell? ad = some u) (h1 : u.oneCell' = true) (hl : (xs.length + 1) * bytes ≤ 140737488355328) (hm : xs.length + 1 ≤ maxLen) (hbase : base ≤ w.heap.size) :
  ∃ v' w', (Builtin.append_ #[t, t] ty #[v, .slice (some ad) 1 c]).run P w = .ok v' w' ∧ Owns base e w' v' (xs ++ [u]) ∧ w.grownBy w' v.ownBlock ∧
   (∀ g, v'.ownBlock = some g → v.ownBlock = some g ∨ w.heap.size ≤ g) ∧
   ∀ p : Value → Prop, RowAll p w v → p u → (∀ c ∈ z.cells, p c) → RowAll p w' v' := by
 obtain ⟨i, hi, hz, h4, h5⟩ := E.info
 have hnews : ∀ j u', [u][j]? = some u' → w.cell? (ad.add j) = some u' := by
  intro j u' hj
  match j, hj with
  | 0, hj => simp at hj; subst hj; simpa [Addr.add] using hu
 obtain ⟨v', w', hrun, r1, r2, r3⟩ := run_append_own (P := P) w base t ty e i z 1 bytes E.und hi hz h4 h5 E.one (by decide) v xs.length xs hown ad 1 c [u] rfl hnews (by simpa using h1) hm hl hbase
 rcases hown.2 with ⟨rfl, hn0⟩ | ⟨g0, cap, cur, rfl, k1, k2, k3, k4, k5, k6⟩
 ·have hxs : xs = [] := List.eq_nil_of_length_eq_zero hn0
  subst hxs
  have hr := run_append_nil (P := P) w t ty e i z E.und hi hz ad 1 c [u] (by simp [h4]) hnews (by omega) (by omega) (by rw [h5]; simp at hl; omega)
  rw [hr] at hrun
  injection hrun with e1 e2
  refine ⟨v', w', by rw [hr, e1, e2], by unfold Owns; simpa using r1, r2, ?_, ?_⟩
  ·intro g hg
   subst e1
   simp [Value.ownBlock] at hg
   exact .inr (by omega)
  ·intro p _ hp hpz g hg j c' hc'
   subst e1
   subst e2
   simp [Value.ownBlock] at hg
   subst hg
   have hm' := cell_mem (heap_alloc_new w.drew _) hc'
   simp only [List.mem_toArray, Array.mem_append, List.mem_singleton, List.mem_cons, List.not_mem_nil, or_false] at hm'
   rcases hm' with rfl | hm'
   ·exact hp
   ·exact hpz _ (mem_zeroCells hm')
 ·have hxl : cur.toList.take xs.length = xs := by rw [← Nat.mul_one xs.length]; exact k6
  by_cases hroom : xs.length + 1 ≤ cap
  ·have hr := run_append_room (P := P) w t ty e i E.und hi g0 xs.length cap cur k2 ad 1 c [u] (by simp [h4]) hnews (by simpa using h1) hroom (by simp [h4]; omega)
   rw [hr] at hrun
   injection hrun with e1 e2
   refine ⟨v', w', by rw [hr, e1, e2], by unfold Owns; simpa using r1, r2, ?_, ?_⟩
   ·intro g hg
    subst e1
    exact .inl hg
   ·intro p ha hp hpz g hg j c' hc'
    subst e1
    subst e2
    simp [Value.ownBlock] at hg
    subst hg
    have hm' := cell_mem (setRow_heap w g0 cur _ e _ k2) hc'
    have old : ∀ c'' ∈ cur.toList, p c'' := by
     intro c'' hc''
     obtain ⟨j', hj', rfl⟩ := List.mem_iff_getElem.1 hc''
     refine ha g0 rfl j' _ ?_
     unfold World.cell?
     simp [k2]
    simp only [List.mem_toArray, List.mem_append, List.mem_singleton] at hm'
    rcases hm' with (hm' | rfl) | hm'
    ·exact old _ (List.mem_of_mem_take hm')
    ·exact hp
    ·exact old _ (List.mem_of_mem_drop hm')
  ·have hr := run_append_grow (P := P) w t ty e i z E.und hi hz ⟨g0, 0, none⟩ xs.length cap xs (by simp [h4]) (World.ownsRow.cells hown (g := g0) rfl) ad 1 c [u] (by simp [h4]) hnews (by omega) (by simp only [maxLen] at hm; omega) (growslice_fits (by omega) (by rw [h5]; exact hl))
   rw [hr] at hrun
   injection hrun with e1 e2
   refine ⟨v', w', by rw [hr, e1, e2], by unfold Owns; simpa using r1, r2, ?_, ?_⟩
   ·intro g hg
    subst e1
    simp [Value.ownBlock] at hg
    exact .inr (by omega)
   ·intro p ha hp hpz g hg j c' hc'
    subst e1
    subst e2
    simp [Value.ownBlock] at hg
    subst hg
    have hm' := cell_mem (heap_alloc_new w.drew _) hc'
    have old : ∀ c'' ∈ cur.toList, p c'' := by
     intro c'' hc''
     obtain ⟨j', hj', rfl⟩ := List.mem_iff_getElem.1 hc''
     refine ha g0 rfl j' _ ?_
     unfold World.cell?
     simp [k2]
    simp only [List.mem_toArray, Array.mem_append, List.mem_singleton, List.mem_cons, List.not_mem_nil, or_false] at hm'
    rcases hm' with (hm' | rfl) | hm'
    ·exact old _ (by rw [← hxl] at hm'; exact List.mem_of_mem_take hm')
    ·exact hp
    ·exact hpz _ (mem_zeroCells hm')
theorem append1In {F : Fence} {n : Nat} {P : Program} {t e : TypeId} {z : Value} {bytes : Nat} (E : Elem P t e z bytes) {w : World} {ops : Array Oper} {rest : List Oper} {o : Oper} {a : Act} {Q : Exit → Act → World → Prop} {s x : Operand} {u : Value} {base : Nat} {v : Value} {xs : List Value}
  (hown : Owns base e w v xs) (hgd : o.guard = none) (ho : o.op = .call { callee := .builtin .append, args := #[s, x], argTypes := #[t, t] }) (hs : a.eval s = v)
  (hx : a.eval x = .slice (some ⟨w.heap.size, 0, none⟩) 1 1) (h1 : u.oneCell' = true) (hl : (xs.length + 1) * bytes ≤ 140737488355328) (hm : xs.length + 1 ≤ maxLen) (hbase : base ≤ w.heap.size)
  (h : ∀ v' w', Owns base e w' v' (xs ++ [u]) → Below base w w' → w.grownBy w' v.ownBlock → (∀ g, v'.ownBlock = some g → v.ownBlock = some g ∨ w.heap.size ≤ g) → (∀ p : Value → Prop, RowAll p w v → p u → (∀ c ∈ z.cells, p c) → RowAll p w' v') → wpListIn F n P ops Q rest (a.put o.dst v') w') :
  wpListIn F n P ops Q (o :: rest) a (w.alloc (.cells #[u] e)) := by
 have hc : (w.alloc (.cells #[u] e)).cell? ⟨w.heap.size, 0, none⟩ = some u := by
  go_simp
 obtain ⟨v', w', hrun, r1, r2, r3, r4⟩ := run_append1 E o.type (w := w.alloc (.cells #[u] e)) (World.ownsRow.alloc hown _) ⟨w.heap.size, 0, none⟩ 1 u hc h1 hl hm (by simp; omega)
 refine wpListIn_plain hgd fun K hK' => ?_
 unfold Oper.wpIn
 refine ⟨?_, ?_⟩
 ·simp [Oper.about, ho, resolve, Target.leads, Sem.run_pure]
 ·rw [Oper.semAt_plain F _ _ (by rw [ho]; intro c hc'; cases hc')]
  simp [execOp, ho, resolve, invoke, builtin, hs, hx, hrun, Result.andThen]
  have hg : w.grownBy w' v.ownBlock := ⟨r2.os, r2.tape, r2.output, Nat.le_trans (by simp) r2.size, fun k hk hne => (r2.block k (by simp; omega) hne).trans (Below.heap_alloc _ _ _ hk)⟩
  refine hK' _ _ (h v' w' r1 ⟨hg.os, hg.tape, hg.output, hg.size, fun k hk => hg.block k (by omega) (fun e' => ?_)⟩ hg ?_ ?_)
  ·have := World.ownsRow.lt hown k e'.symm
   omega
  ·intro g hg'
   rcases r3 g hg' with h2 | h2
   ·exact .inl h2
   ·exact .inr (by simp at h2; omega)
  ·intro p ha hp hpz
   refine r4 p (fun g hg' j c' hc' => ha g hg' j c' ?_) hp hpz
   have hlt := (World.ownsRow.lt hown g hg').2
   rw [← hc']
   exact (World.cell?_of_block (a := ⟨g, j, none⟩) (Below.heap_alloc _ _ _ hlt)).symm
end Go.Proofs.YtcpfanpcdkoiaaaGreat
