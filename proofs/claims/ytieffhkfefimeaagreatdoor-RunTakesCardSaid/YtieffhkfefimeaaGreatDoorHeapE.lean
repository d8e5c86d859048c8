/-
  Ensembles in memory: rows of structs, an ensemble's value.
-/
import Derived.Test.YtieffhkfefimeaaGreatDoorMathO
import Derived.Test.YtieffhkfefimeaaGreatDoorHeapO
import Derived.Test.YtieffhkfefimeaaGreatDoorBookI
import Derived.Shelf.SlicesQ.Load
namespace Go.Proofs.YtieffhkfefimeaaGreatDoor
open Go.RowKit
set_option linter.unusedVariables false
set_option linter.unusedSimpArgs false

/-- The cells of a row of structs of k cells. -/
def RowC {α : Type} (k : Nat) (enc : α → List Value) (w : World) (ao : Option Addr) (xs : List α) : Prop :=
  xs = [] ∨ ∃ b off, ao = some ⟨b, off, none⟩ ∧ b < w.heap.size ∧ ∀ i x, xs[i]? = some x → ∀ j c, (enc x)[j]? = some c → w.cell? ⟨b, off + i * k + j, none⟩ = some c
theorem RowC.below {α : Type} {k B : Nat} {enc : α → List Value} {w w' : World} {ao : Option Addr} {xs : List α} (h : RowC k enc w ao xs) (hb : Below w.heap.size w w') : RowC k enc w' ao xs := by
  rcases h with h | ⟨b, off, h1, h2, h3⟩
  · exact .inl h
  · exact .inr ⟨b, off, h1, Nat.lt_of_lt_of_le h2 hb.size, fun i x hi j c hj => (hb.cell (p := ⟨b, off + i * k + j, none⟩) h2).trans (h3 i x hi j c hj)⟩
def enC (n : EN) : List Value := [.int .i64 n.tree, .int .i64 n.node, .int .i64 n.feat, .int .i64 n.mode, .int .u64 (n.val : Int), .int .i64 n.tru, .int .i64 n.fls, .bool n.trk]
def elC (l : EL) : List Value := [.int .i64 l.tree, .int .i64 l.node, .int .i64 l.tgt, .int .u64 (l.wt : Int)]
theorem enC_len (x : EN) : (enC x).length = 8 := rfl
theorem elC_len (x : EL) : (elC x).length = 4 := rfl
/-- Is a number an int? -/
def IW (x : Int) : Prop := (Lit.int .i64 x).wf = true
structure ENW (n : EN) : Prop where
  v : n.val < 18446744073709551616
  tree : IW n.tree
  node : IW n.node
  feat : IW n.feat
  mode : IW n.mode
  tru : IW n.tru
  fls : IW n.fls
structure ELW (l : EL) : Prop where
  v : l.wt < 18446744073709551616
  tree : IW l.tree
  node : IW l.node
  tgt : IW l.tgt
/-- An ensemble's value, and what it says in memory. -/
structure EnsIs (w : World) (v : Value) (e : EE) (bo : Option Addr) (bc : Nat) (no : Option Addr) (nc : Nat) (lo : Option Addr) (lc : Nat) : Prop where
  val : v = .agg #[.int .i64 e.feats, .int .i64 e.tgts, .string ⟨e.agg.toArray⟩, .string ⟨e.post.toArray⟩, .slice bo e.base.length bc, .slice no e.nodes.length nc, .slice lo e.leaves.length lc]
  base : Cells .u64 w bo e.base
  nodes : RowC 8 enC w no e.nodes
  leaves : RowC 4 elC w lo e.leaves
  bl : e.base.length ≤ maxLen
  nl : e.nodes.length ≤ maxLen
  ll : e.leaves.length ≤ maxLen
  bv : ∀ b ∈ e.base, b < 18446744073709551616
  nv : ∀ n ∈ e.nodes, ENW n
  lv : ∀ l ∈ e.leaves, ELW l
theorem EnsIs.below {w w' : World} {v : Value} {e : EE} {bo no lo : Option Addr} {bc nc lc : Nat} (h : EnsIs w v e bo bc no nc lo lc) (hb : Below w.heap.size w w') : EnsIs w' v e bo bc no nc lo lc :=
  ⟨h.val, h.base.below hb, h.nodes.below (B := 0) hb, h.leaves.below (B := 0) hb, h.bl, h.nl, h.ll, h.bv, h.nv, h.lv⟩
theorem BoxL.of8 {w : World} {b : Nat} {x0 x1 x2 x3 x4 x5 x6 x7 : Value} (c0 : w.cell? ⟨b, 0, none⟩ = some x0) (c1 : w.cell? ⟨b, 1, none⟩ = some x1) (c2 : w.cell? ⟨b, 2, none⟩ = some x2) (c3 : w.cell? ⟨b, 3, none⟩ = some x3) (c4 : w.cell? ⟨b, 4, none⟩ = some x4) (c5 : w.cell? ⟨b, 5, none⟩ = some x5) (c6 : w.cell? ⟨b, 6, none⟩ = some x6) (c7 : w.cell? ⟨b, 7, none⟩ = some x7) (f0 : w.frozen? ⟨b, 0, none⟩ = false) (f1 : w.frozen? ⟨b, 1, none⟩ = false) (f2 : w.frozen? ⟨b, 2, none⟩ = false) (f3 : w.frozen? ⟨b, 3, none⟩ = false) (f4 : w.frozen? ⟨b, 4, none⟩ = false) (f5 : w.frozen? ⟨b, 5, none⟩ = false) (f6 : w.frozen? ⟨b, 6, none⟩ = false) (f7 : w.frozen? ⟨b, 7, none⟩ = false) : BoxL w b [x0, x1, x2, x3, x4, x5, x6, x7] := by
  refine ⟨fun i x hi => ?_, fun i hi => ?_, World.block_lt_of_cell? w ⟨b, 0, none⟩ c0⟩
  · match i, hi with
    | 0, hi => simp at hi; subst hi; exact c0
    | 1, hi => simp at hi; subst hi; exact c1
    | 2, hi => simp at hi; subst hi; exact c2
    | 3, hi => simp at hi; subst hi; exact c3
    | 4, hi => simp at hi; subst hi; exact c4
    | 5, hi => simp at hi; subst hi; exact c5
    | 6, hi => simp at hi; subst hi; exact c6
    | 7, hi => simp at hi; subst hi; exact c7
  · match i, hi with
    | 0, hi => exact f0
    | 1, hi => exact f1
    | 2, hi => exact f2
    | 3, hi => exact f3
    | 4, hi => exact f4
    | 5, hi => exact f5
    | 6, hi => exact f6
    | 7, hi => exact f7
/-- A function value that answers p of these, and leaves what was. -/
def PredOn {α : Type} (P : Program) (g : Nat) (lb : Array Value) (enc : α → Value) (p : α → Bool) (w : World) (zs : List α) : Prop :=
  ∀ (W : World) (x : α), x ∈ zs → Below w.heap.size w W → Calls P g (#[enc x] ++ lb) W fun e w' => e = .returned (.bool (p x)) ∧ Below W.heap.size W w'
theorem RowC.get {α : Type} {k : Nat} {enc : α → List Value} {w : World} {b off : Nat} {xs : List α} (h : RowC k enc w (some ⟨b, off, none⟩) xs) {i : Nat} (hi : i < xs.length) :
    b < w.heap.size ∧ ∀ j c, (enc xs[i])[j]? = some c → w.cell? ⟨b, off + i * k + j, none⟩ = some c := by
  rcases h with rfl | ⟨b', off', e, h2, h3⟩
  · simp at hi
  · cases e
    exact ⟨h2, fun j c hj => h3 i _ (List.getElem?_eq_getElem hi) j c hj⟩
theorem RowC.addr {α : Type} {k : Nat} {enc : α → List Value} {w : World} {ao : Option Addr} {xs : List α} (h : RowC k enc w ao xs) {i : Nat} (hi : i < xs.length) : ∃ b off, ao = some ⟨b, off, none⟩ := by
  rcases h with rfl | ⟨b', off', e, h2, h3⟩
  · simp at hi
  · exact ⟨_, _, e⟩
/-- The cells of a node in its row. -/
theorem RowC.c8 {w W : World} {b off : Nat} {xs : List EN} (h : RowC 8 enC w (some ⟨b, off, none⟩) xs) (hb : Below w.heap.size w W) {i : Nat} (hi : i < xs.length) (y : EN) (hy : xs[i] = y) :
    W.cell? ⟨b, off + i * 8, none⟩ = some (.int .i64 y.tree) ∧ W.cell? ⟨b, off + i * 8 + 1, none⟩ = some (.int .i64 y.node) ∧ W.cell? ⟨b, off + i * 8 + 2, none⟩ = some (.int .i64 y.feat) ∧ W.cell? ⟨b, off + i * 8 + 3, none⟩ = some (.int .i64 y.mode) ∧ W.cell? ⟨b, off + i * 8 + 4, none⟩ = some (.int .u64 (y.val : Int)) ∧ W.cell? ⟨b, off + i * 8 + 5, none⟩ = some (.int .i64 y.tru) ∧ W.cell? ⟨b, off + i * 8 + 6, none⟩ = some (.int .i64 y.fls) ∧ W.cell? ⟨b, off + i * 8 + 7, none⟩ = some (.bool y.trk) := by
  obtain ⟨h1, h2⟩ := h.get hi
  rw [hy] at h2
  have h3 : ∀ j c, (enC y)[j]? = some c → W.cell? ⟨b, off + i * 8 + j, none⟩ = some c := fun j c hj => (hb.cell (p := ⟨b, off + i * 8 + j, none⟩) h1).trans (h2 j c hj)
  exact ⟨h3 0 _ rfl, h3 1 _ rfl, h3 2 _ rfl, h3 3 _ rfl, h3 4 _ rfl, h3 5 _ rfl, h3 6 _ rfl, h3 7 _ rfl⟩
theorem RowC.c4 {w W : World} {b off : Nat} {xs : List EL} (h : RowC 4 elC w (some ⟨b, off, none⟩) xs) (hb : Below w.heap.size w W) {i : Nat} (hi : i < xs.length) (y : EL) (hy : xs[i] = y) :
    W.cell? ⟨b, off + i * 4, none⟩ = some (.int .i64 y.tree) ∧ W.cell? ⟨b, off + i * 4 + 1, none⟩ = some (.int .i64 y.node) ∧ W.cell? ⟨b, off + i * 4 + 2, none⟩ = some (.int .i64 y.tgt) ∧ W.cell? ⟨b, off + i * 4 + 3, none⟩ = some (.int .u64 (y.wt : Int)) := by
  obtain ⟨h1, h2⟩ := h.get hi
  rw [hy] at h2
  have h3 : ∀ j c, (elC y)[j]? = some c → W.cell? ⟨b, off + i * 4 + j, none⟩ = some c := fun j c hj => (hb.cell (p := ⟨b, off + i * 4 + j, none⟩) h1).trans (h2 j c hj)
  exact ⟨h3 0 _ rfl, h3 1 _ rfl, h3 2 _ rfl, h3 3 _ rfl⟩
end Go.Proofs.YtieffhkfefimeaaGreatDoor
