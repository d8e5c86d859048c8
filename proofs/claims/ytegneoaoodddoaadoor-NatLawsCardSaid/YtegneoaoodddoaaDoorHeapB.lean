/-
  Numbers in memory that the call may write: cell by cell.
-/
import Derived.Test.YtegneoaoodddoaaDoorHeapA
import Derived.Test.YtegneoaoodddoaaDoorMathB
namespace Go.Proofs.YtegneoaoodddoaaDoor
open Go.RowKit
set_option linter.unusedVariables false
set_option linter.unusedSimpArgs false

/-- The cells of block g from off on hold these numbers, and may be written. -/
structure Mut (k : IntKind) (w : World) (g off : Nat) (xs : List Nat) : Prop where
  lt : g < w.heap.size
  cell : ∀ i, i < xs.length → w.cell? ⟨g, off + i, none⟩ = some (.int k ((xs[i]?.getD 0 : Nat) : Int))
  free : ∀ i, i < xs.length → w.frozen? ⟨g, off + i, none⟩ = false

theorem Mut.cells {k : IntKind} {w : World} {g off : Nat} {xs : List Nat} (h : Mut k w g off xs) : Cells k w (some ⟨g, off, none⟩) xs :=
  .inr ⟨g, off, rfl, h.lt, h.cell⟩

theorem Mut.kept {k : IntKind} {w w' : World} {g off : Nat} {xs : List Nat} (h : Mut k w g off xs) (hb : w'.heap[g]? = w.heap[g]?) (hs : w.heap.size ≤ w'.heap.size) : Mut k w' g off xs :=
  ⟨Nat.lt_of_lt_of_le h.lt hs, fun i hi => (World.cell?_of_block (w := w) (a := ⟨g, off + i, none⟩) hb).trans (h.cell i hi), fun i hi => (World.frozen?_of_block (w := w) (a := ⟨g, off + i, none⟩) hb).trans (h.free i hi)⟩

theorem Mut.below {k : IntKind} {w w' : World} {g off B : Nat} {xs : List Nat} (h : Mut k w g off xs) (hb : Below B w w') (hg : g < B) : Mut k w' g off xs :=
  h.kept (hb.block g hg) hb.size

theorem Mut.take {k : IntKind} {w : World} {g off : Nat} {xs : List Nat} (h : Mut k w g off xs) (n : Nat) : Mut k w g off (xs.take n) :=
  ⟨h.lt, fun i hi => by rw [h.cell i (by simp at hi; omega), List.getElem?_take, if_pos (by simp at hi; omega)], fun i hi => h.free i (by simp at hi; omega)⟩

theorem Mut.drop {k : IntKind} {w : World} {g off : Nat} {xs : List Nat} (h : Mut k w g off xs) (n : Nat) : Mut k w g (off + n) (xs.drop n) :=
  ⟨h.lt, fun i hi => by rw [Nat.add_assoc, h.cell (n + i) (by simp at hi; omega), List.getElem?_drop], fun i hi => by rw [Nat.add_assoc]; exact h.free (n + i) (by simp at hi; omega)⟩

theorem Mut.set {k : IntKind} {w : World} {g off : Nat} {xs : List Nat} (h : Mut k w g off xs) (j y : Nat) (hj : j < xs.length) : Mut k (w.setCell ⟨g, off + j, none⟩ (.int k (y : Int))) g off (xs.set j y) := by
  refine ⟨by simpa [World.setCell] using h.lt, fun i hi => ?_, fun i hi => ?_⟩
  · rw [List.length_set] at hi
    rw [getD_set hj]
    by_cases e : i = j
    · subst e
      rw [if_pos rfl]
      exact cell_set (h.cell i hj)
    · rw [if_neg e, World.cell?_setCell_other]
      · exact h.cell i hi
      · intro e'; have h2 : off + j = off + i := by injection e'
        omega
  · rw [List.length_set] at hi
    rw [World.frozen?_setCell]
    exact h.free i hi

theorem Owns.mut {base : Nat} {e : TypeId} {w : World} {g n cap : Nat} {k : IntKind} {xs : List Nat} (h : Owns base e w (.slice (some ⟨g, 0, none⟩) n cap) (ints k xs)) : Mut k w g 0 xs := by
  obtain ⟨h1, h2, h3, h4, h5, h6⟩ := h.at
  exact ⟨h3, fun i hi => by rw [Nat.zero_add, h5 i (by omega)], fun i hi => by rw [Nat.zero_add]; exact h6 i⟩

theorem grownBy_trans {a b c : World} {r : Option Nat} (h : a.grownBy b r) (h' : b.grownBy c r) : a.grownBy c r :=
  ⟨h'.os.trans h.os, h'.tape.trans h.tape, h'.output.trans h.output, Nat.le_trans h.size h'.size, fun k hk hr => (h'.block k (Nat.lt_of_lt_of_le hk h.size) hr).trans (h.block k hk hr)⟩

theorem grownBy_set {a w : World} {g : Nat} (h : a.grownBy w (some g)) (j : Nat) (u : Value) : a.grownBy (w.setCell ⟨g, j, none⟩ u) (some g) :=
  grownBy_trans h ⟨rfl, rfl, rfl, by simp [World.setCell], fun k hk hr => Below.heap_setCell _ _ _ _ (fun e => hr (by simp [e]))⟩

theorem grownBy_drew {a w : World} {r : Option Nat} (h : a.grownBy w r) : a.grownBy w.drew r := ⟨h.os, h.tape, h.output, h.size, h.block⟩

theorem grownBy_refl (w : World) (r : Option Nat) : w.grownBy w r := ⟨rfl, rfl, rfl, Nat.le_refl _, fun _ _ _ => rfl⟩

theorem Owns.other {base : Nat} {e : TypeId} {w w' : World} {v : Value} {xs : List Value} {g : Nat} (h : Owns base e w v xs) (hg : w.grownBy w' (some g)) (hlt : g < base) : Owns base e w' v xs :=
  World.ownsRow.kept h hg (by
    by_cases hv : v.ownBlock = none
    · exact .inl hv
    · right; intro e'
      have := World.ownsRow.lt h g e'
      omega)

theorem below_of_grown {B : Nat} {w w' : World} {g : Nat} (hg : w.grownBy w' (some g)) (hB : B ≤ g) (hlt : g < w.heap.size) : Below B w w' :=
  (Below.refl B w).grown hg (by omega) (fun k e => by cases e; exact hB)

/-- Numbers as bytes. -/
def str (xs : List Nat) : List UInt8 := xs.map UInt8.ofNat

theorem foldl_push (l : List Nat) (b : ByteArray) : ((l.map fun n => ((n : Nat) : Int)).foldl (fun r n => r.push (UInt8.ofNat n.toNat)) b) = ⟨(b.data.toList ++ str l).toArray⟩ := by
  induction l generalizing b with
  | nil => simp [str]
  | cons x l ih =>
    simp only [List.map_cons, List.foldl_cons, ih]
    simp [str, ByteArray.push]

/-- string(b). -/
theorem conv_string {P : Program} {src dst e : TypeId} (hs : P.underlying src = some (.slice e)) (he : P.underlying e = some (.int .u8)) (hd : P.underlying dst = some .string) {w : World} {ao : Option Addr} {xs : List Nat} (h : Cells .u8 w ao xs) (cap : Nat) :
    (convert src dst (.slice ao xs.length cap)).run P w = .ok (.string ⟨(str xs).toArray⟩) w := by
  rw [run_convert_bytes_string w src dst e ao xs.length cap hs he hd]
  cases ao with
  | none =>
    rcases h with rfl | ⟨b, off, e', _⟩
    · rfl
    · cases e'
  | some ad =>
    have hl := run_loadCells_list (P := P) (w := w) ad (ints .u8 xs) (fun j u hu => h.at j u hu)
    rw [ints_length] at hl
    have e1 : (ints .u8 xs).toArray = ((xs.map fun n => ((n : Nat) : Int)).map (Value.int .u8)).toArray := by simp [ints]
    rw [e1] at hl
    rw [run_bytesToString w ad xs.length cap (xs.map fun n => ((n : Nat) : Int)) hl, foldl_push]
    rfl

/-- A block of one cell, a variable of the call's own. -/
structure Box (w : World) (b : Nat) (v : Value) : Prop where
  cell : w.cell? ⟨b, 0, none⟩ = some v
  free : w.frozen? ⟨b, 0, none⟩ = false
  lt : b < w.heap.size
theorem Box.below {w w' : World} {b B : Nat} {v : Value} (h : Box w b v) (hb : Below B w w') (hlt : b < B) : Box w' b v :=
  ⟨(hb.cell (p := ⟨b, 0, none⟩) hlt).trans h.cell, (hb.frozen (p := ⟨b, 0, none⟩) hlt).trans h.free, Nat.lt_of_lt_of_le h.lt hb.size⟩
theorem Box.kept {w w' : World} {b : Nat} {v : Value} (h : Box w b v) (hb : Below w.heap.size w w') : Box w' b v := h.below hb h.lt
theorem Box.drew {w : World} {b : Nat} {v : Value} (h : Box w b v) : Box w.drew b v := ⟨h.cell, h.free, h.lt⟩
theorem Box.grown {w w' : World} {b g : Nat} {v : Value} (h : Box w b v) (hg : w.grownBy w' (some g)) (hne : b ≠ g) : Box w' b v :=
  ⟨(World.cell?_of_block (w := w) (a := ⟨b, 0, none⟩) (hg.block b h.lt (by simpa using hne))).trans h.cell, (World.frozen?_of_block (w := w) (a := ⟨b, 0, none⟩) (hg.block b h.lt (by simpa using hne))).trans h.free, Nat.lt_of_lt_of_le h.lt hg.size⟩
theorem Box.set {w : World} {b : Nat} {v : Value} (h : Box w b v) (u : Value) : Box (w.setCell ⟨b, 0, none⟩ u) b u :=
  ⟨cell_set h.cell, by rw [World.frozen?_setCell]; exact h.free, by simpa [World.setCell] using h.lt⟩
theorem Box.setOther {w : World} {b g : Nat} {v : Value} (h : Box w b v) (hne : b ≠ g) (j : Nat) (u : Value) : Box (w.setCell ⟨g, j, none⟩ u) b v :=
  h.grown (grownBy_set (grownBy_refl w _) j u) hne

/-- The end of a function whose one result is a number: its box lies at B. -/
theorem below_set_box {w w1 : World} {B b : Nat} (h : Below B w w1) (hb : B ≤ b) (u : Value) : Below B w (w1.setCell ⟨b, 0, none⟩ u) := h.setCell (p := ⟨b, 0, none⟩) hb u

/-- make([]T, n): n noughts of the call's own. -/
theorem makeN {P : Program} {t e : TypeId} {k : IntKind} {bytes : Nat} (E : Elem P t e (.int k 0) bytes) {w : World} {ops : Array Oper} {rest : List Oper} {o : Oper} {a : Act} {Q : Exit → Act → World → Prop} {l c : Operand} {n : Nat}
    (hg : o.guard = none) (hop : o.op = Op.makeSlice t l c) (hl : a.eval l = .int .i64 (n : Int)) (hc : a.eval c = .int .i64 (n : Int)) (b2 : bytes * n ≤ 281474976710656) (b3 : n ≤ maxLen)
    (h : ∀ w', Owns w.heap.size e w' (.slice (some ⟨w.heap.size, 0, none⟩) n n) (ints k (List.replicate n 0)) → Below w.heap.size w w' → wpList P ops Q rest (a.put o.dst (.slice (some ⟨w.heap.size, 0, none⟩) n n)) w') : wpList P ops Q (o :: rest) a w := by
  obtain ⟨i, hi, hz, h4, h5⟩ := E.info
  subst h5
  refine wpList_make_full w hg l c t hop w.heap.size e i (.int k 0) 1 E.und hi hz h4 .i64 .i64 (n : Int) (n : Int) n hl hc rfl rfl b2 b3 (Nat.le_refl _) ?_
  intro w' h1 h2
  refine h w' ?_ ⟨h2.os, h2.tape, h2.output, h2.size, fun k hk => h2.block k hk (by simp)⟩
  have e1 : (madeCells (Value.int k 0).cells (n * 1)).toList = ints k (List.replicate n 0) := by
    rw [Nat.mul_one, show (Value.int k 0).cells = #[.int k 0] from rfl, toList_madeCells_one]
    simp [ints]
  rw [e1] at h1
  unfold Owns
  simpa [ints] using h1

/-- make([]T, l, c): l noughts of the call's own, and room for c. -/
theorem makeLC {P : Program} {t e : TypeId} {k : IntKind} {bytes : Nat} (E : Elem P t e (.int k 0) bytes) {w : World} {ops : Array Oper} {rest : List Oper} {o : Oper} {a : Act} {Q : Exit → Act → World → Prop} {lo co : Operand} {l c : Nat} {L C : Int}
    (hg : o.guard = none) (hop : o.op = Op.makeSlice t lo co) (hl0 : a.eval lo = .int .i64 L) (hc0 : a.eval co = .int .i64 C) (hL : L = (l : Int)) (hC : C = (c : Int)) (hlc : l ≤ c) (b2 : bytes * c ≤ 281474976710656) (b3 : c ≤ maxLen)
    (h : ∀ w', Owns w.heap.size e w' (.slice (some ⟨w.heap.size, 0, none⟩) l c) (ints k (List.replicate l 0)) → Below w.heap.size w w' → wpList P ops Q rest (a.put o.dst (.slice (some ⟨w.heap.size, 0, none⟩) l c)) w') : wpList P ops Q (o :: rest) a w := by
  subst hL
  subst hC
  have hl := hl0
  have hc := hc0
  obtain ⟨i, hi, hz, h4, h5⟩ := E.info
  subst h5
  refine wpList_plain hg fun K hK' => ?_
  have hb' : (i.bytes : Int) * (c : Int) ≤ 281474976710656 := by
    have h : ((i.bytes * c : Nat) : Int) ≤ 281474976710656 := by omega
    rwa [Int.natCast_mul] at h
  have hr := run_make (P := P) w t e i (.int k 0) E.und hi hz .i64 .i64 (l : Int) (c : Int) (by omega) (by omega) hb' (by simp only [maxLen] at b3; omega)
  simp only [Int.toNat_natCast, h4, Nat.mul_one] at hr
  unfold Oper.wp
  simp only [execOp, hop, hl, hc, Sem.run_bind, hr, Result.andThen]
  refine hK' _ _ (h _ ⟨by simp [ints], .inr ⟨w.heap.size, c, _, by simp [ints], Nat.le_refl _, heap_alloc_new w _, by simpa [ints] using hlc, b3, by simp [madeCells], ?_⟩⟩ ((Below.refl _ w).alloc (Nat.le_refl _) _))
  have e1 : (madeCells (Value.int k 0).cells c).toList = List.replicate c (.int k 0) := by
    rw [show (Value.int k 0).cells = #[.int k 0] from rfl, toList_madeCells_one]
  rw [e1, List.take_replicate]
  simp [ints, Nat.min_eq_left hlc]

theorem held2 {wr w1 w2 : World} {p q : Addr} {u v : Value} (hb : Below w1.heap.size w1 w2) (h : w1.cell? p = some u ∧ w1.cell? q = some v ∧ Below wr.heap.size wr w1) :
    w2.cell? p = some u ∧ w2.cell? q = some v ∧ Below wr.heap.size wr w2 :=
  ⟨(hb.cell (p := p) (World.block_lt_of_cell? w1 p h.1)).trans h.1, (hb.cell (p := q) (World.block_lt_of_cell? w1 q h.2.1)).trans h.2.1, h.2.2.trans (hb.mono h.2.2.size)⟩
theorem held2_nat {wr w1 : World} {p q : Addr} {u v x : Value} {n : Nat} (hn : NatIs wr x n) (h : w1.cell? p = some u ∧ w1.cell? q = some v ∧ Below wr.heap.size wr w1) : NatIs w1 x n := hn.below h.2.2

theorem run_shr {P : Program} (w : World) (t : TypeId) (x s : Nat) (hs : s < 64) : (binOp .shr t (.int .u64 (x : Int)) (.int .i64 (s : Int))).run P w = .ok (.int .u64 ((x / 2 ^ s : Nat) : Int)) w := by
  simp only [binOp]
  simp [IntKind.bits]
theorem run_shl {P : Program} (w : World) (t : TypeId) (x s : Nat) (hs : s < 64) (hx : x * 2 ^ s < 18446744073709551616) : (binOp .shl t (.int .u64 (x : Int)) (.int .i64 (s : Int))).run P w = .ok (.int .u64 ((x * 2 ^ s : Nat) : Int)) w := by
  have h1 : IntKind.u64.wrap ((x : Int) * 2 ^ s) = (x : Int) * 2 ^ s := by
    have e : (x : Int) * 2 ^ s = ((x * 2 ^ s : Nat) : Int) := by simp
    rw [e]; exact IntWalk.u64_in _ (by omega)
  simp only [binOp]
  have h2 : min s 64 = s := by omega
  simp [IntKind.bits, h1, h2]

end Go.Proofs.YtegneoaoodddoaaDoor
