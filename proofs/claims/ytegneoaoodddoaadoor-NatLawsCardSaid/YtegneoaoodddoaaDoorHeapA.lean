/-
  Slices of integers in memory, read as lists of numbers; what new memory leaves of them.
-/
import Derived.Test.YtegneoaoodddoaaDoorProg
import Derived.Test.YtegneoaoodddoaaDoorMathA
import Derived.WalkKit
import Derived.Lib.Hide
import Derived.WalkSpells
import Derived.WalkLawsBesides
import Derived.Deep.QuietTactic
import Derived.BigQuiet
namespace Go.Proofs.YtegneoaoodddoaaDoor
set_option linter.unusedVariables false
set_option linter.unusedSimpArgs false
open Go.RowKit

/-- The numbers of a list lie in memory from an address on. -/
def Cells (k : IntKind) (w : World) (ao : Option Addr) (xs : List Nat) : Prop :=
  xs = [] ∨ ∃ b off, ao = some ⟨b, off, none⟩ ∧ b < w.heap.size ∧ ∀ i, i < xs.length → w.cell? ⟨b, off + i, none⟩ = some (.int k ((xs[i]?.getD 0 : Nat) : Int))

/-- A slice's value that reads as a list of numbers. -/
def Ints (k : IntKind) (w : World) (v : Value) (xs : List Nat) : Prop :=
  ∃ ao cap, v = .slice ao xs.length cap ∧ xs.length ≤ cap ∧ cap ≤ maxLen ∧ (ao = none → cap = 0) ∧ Cells k w ao xs

theorem Cells.below {k : IntKind} {w w' : World} {ao : Option Addr} {xs : List Nat} (h : Cells k w ao xs) (hb : Below w.heap.size w w') : Cells k w' ao xs := by
  rcases h with h | ⟨b, off, h1, h2, h3⟩
  · exact .inl h
  · exact .inr ⟨b, off, h1, Nat.lt_of_lt_of_le h2 hb.size, fun i hi => (hb.cell (p := ⟨b, off + i, none⟩) h2).trans (h3 i hi)⟩

theorem Ints.below {k : IntKind} {w w' : World} {v : Value} {xs : List Nat} (h : Ints k w v xs) (hb : Below w.heap.size w w') : Ints k w' v xs := by
  obtain ⟨ao, cap, h1, h2, h3, h4, h5⟩ := h
  exact ⟨ao, cap, h1, h2, h3, h4, h5.below hb⟩

theorem Cells.alloc {k : IntKind} {w : World} {ao : Option Addr} {xs : List Nat} (h : Cells k w ao xs) (o : Obj) : Cells k (w.alloc o) ao xs :=
  h.below ((Below.refl _ _).alloc (Nat.le_refl _) _)

theorem Ints.alloc {k : IntKind} {w : World} {v : Value} {xs : List Nat} (h : Ints k w v xs) (o : Obj) : Ints k (w.alloc o) v xs :=
  h.below ((Below.refl _ _).alloc (Nat.le_refl _) _)

theorem Cells.take {k : IntKind} {w : World} {ao : Option Addr} {xs : List Nat} (h : Cells k w ao xs) (n : Nat) : Cells k w ao (xs.take n) := by
  rcases h with h | ⟨b, off, h1, h2, h3⟩
  · exact .inl (by simp [h])
  · refine .inr ⟨b, off, h1, h2, fun i hi => ?_⟩
    rw [h3 i (by simp at hi; omega), List.getElem?_take, if_pos (by simp at hi; omega)]

/-- A natural number in memory: the limbs, none 0 at the top. -/
def NatIs (w : World) (v : Value) (n : Nat) : Prop := ∃ sv, v = .agg #[sv] ∧ Ints .u32 w sv (limbs n)

theorem NatIs.below {w w' : World} {v : Value} {n : Nat} (h : NatIs w v n) (hb : Below w.heap.size w w') : NatIs w' v n := by
  obtain ⟨sv, h1, h2⟩ := h
  exact ⟨sv, h1, h2.below hb⟩

theorem bcell {W w1 : World} {B : Nat} (hb : Below B W w1) : (∀ b o, b < B → w1.cell? ⟨b, o, none⟩ = W.cell? ⟨b, o, none⟩) ∧ (∀ b o, b < B → w1.frozen? ⟨b, o, none⟩ = W.frozen? ⟨b, o, none⟩) :=
  ⟨fun b o h => hb.cell (p := ⟨b, o, none⟩) h, fun b o h => hb.frozen (p := ⟨b, o, none⟩) h⟩

/-- Numbers as the cells hold them. -/
def ints (k : IntKind) (xs : List Nat) : List Value := xs.map fun n => Value.int k ((n : Nat) : Int)

theorem ints_length (k : IntKind) (xs : List Nat) : (ints k xs).length = xs.length := by simp [ints]
theorem ints_append (k : IntKind) (xs ys : List Nat) : ints k (xs ++ ys) = ints k xs ++ ints k ys := by simp [ints]
theorem ints_get (k : IntKind) (xs : List Nat) (i : Nat) (h : i < xs.length) : (ints k xs)[i]? = some (.int k ((xs[i]?.getD 0 : Nat) : Int)) := by
  simp [ints, h]
theorem ints_set (k : IntKind) (xs : List Nat) (i n : Nat) : (ints k xs).set i (.int k (n : Int)) = ints k (xs.set i n) := by
  simp [ints, List.map_set]
theorem ints_one (k : IntKind) (xs : List Nat) : ∀ u ∈ ints k xs, u.oneCell' = true := by
  intro u hu
  obtain ⟨_, _, rfl⟩ := List.mem_map.1 hu
  rfl

/-- A slice of the call's own, from block base on: its cells. -/
def Owns (base : Nat) (e : TypeId) (w : World) (v : Value) (xs : List Value) : Prop := w.ownsRow base e 1 v xs.length xs

theorem Owns.nil (base : Nat) (e : TypeId) (w : World) : Owns base e w (.slice none 0 0) [] := World.ownsRow_nil _ _ _ _

theorem Owns.shape {base : Nat} {e : TypeId} {w : World} {v : Value} {xs : List Value} (h : Owns base e w v xs) :
    (v = .slice none 0 0 ∧ xs = []) ∨ ∃ g cap, v = .slice (some ⟨g, 0, none⟩) xs.length cap ∧ base ≤ g ∧ g < w.heap.size ∧ xs.length ≤ cap ∧ cap ≤ maxLen ∧
      (∀ j, j < xs.length → w.cell? ⟨g, j, none⟩ = xs[j]?) ∧ (∀ j, w.frozen? ⟨g, j, none⟩ = false) := by
  have h0 := h
  obtain ⟨h1, ⟨rfl, hn⟩ | ⟨g, cap, cur, rfl, h2, h3, h4, h5, h6, h7⟩⟩ := h
  · exact .inl ⟨rfl, List.eq_nil_of_length_eq_zero hn⟩
  · exact .inr ⟨g, cap, rfl, h2, (Array.getElem?_eq_some_iff.1 h3).1, h4, h5, fun j hj => World.ownsRow.cellAt h0 j (by omega), fun j => World.ownsRow.frozenAt h0 j⟩

theorem Owns.kept {base : Nat} {e : TypeId} {w w' : World} {v : Value} {xs : List Value} (h : Owns base e w v xs) (hb : Below w.heap.size w w') : Owns base e w' v xs :=
  World.ownsRow.kept (row := none) h ⟨hb.os, hb.tape, hb.output, hb.size, fun k hk _ => hb.block k hk⟩ (by cases hv : v.ownBlock <;> simp)

theorem Owns.alloc {base : Nat} {e : TypeId} {w : World} {v : Value} {xs : List Value} (h : Owns base e w v xs) (o : Obj) : Owns base e (w.alloc o) v xs := World.ownsRow.alloc h o

theorem Owns.stored {base : Nat} {e : TypeId} {w : World} {g n cap : Nat} {xs : List Value} (h : Owns base e w (.slice (some ⟨g, 0, none⟩) n cap) xs) (hn : n = xs.length) (j : Nat) (u : Value) :
    Owns base e (w.setCell ⟨g, j, none⟩ u) (.slice (some ⟨g, 0, none⟩) n cap) (xs.set j u) := by
  subst hn
  have := (World.ownsRow.stored h j u).1
  unfold Owns
  simpa using this

theorem Owns.mono {base base' : Nat} {e : TypeId} {w : World} {v : Value} {xs : List Value} (h : Owns base e w v xs) (hb : base' ≤ base) : Owns base' e w v xs := by
  obtain ⟨h1, h2 | ⟨g, cap, cur, h2, h3, h4⟩⟩ := h
  · exact ⟨h1, .inl h2⟩
  · exact ⟨h1, .inr ⟨g, cap, cur, h2, by omega, h4⟩⟩

theorem Owns.toInts {base : Nat} {e : TypeId} {w : World} {v : Value} {k : IntKind} {xs : List Nat} (h : Owns base e w v (ints k xs)) : Ints k w v xs := by
  rcases h.shape with ⟨rfl, hx⟩ | ⟨g, cap, rfl, h2, h3, h4, h5, h6, h7⟩
  · have : xs = [] := by simpa [ints] using hx
    subst this
    exact ⟨none, 0, rfl, Nat.le_refl _, Nat.zero_le _, fun _ => rfl, .inl rfl⟩
  · rw [ints_length] at h4 h6 ⊢
    refine ⟨some ⟨g, 0, none⟩, cap, rfl, h4, h5, (fun h => by cases h), .inr ⟨g, 0, rfl, h3, fun i hi => ?_⟩⟩
    rw [Nat.zero_add, h6 i hi, ints_get _ _ _ hi]

/-- What the program's tables say of a slice type whose elements are one cell. -/
structure Elem (P : Program) (t e : TypeId) (z : Value) (bytes : Nat) : Prop where
  und : P.underlying t = some (.slice e)
  info : ∃ i, P.info? e = some i ∧ i.zero = some z ∧ i.size = 1 ∧ i.bytes = bytes
  one : z.cells.size = 1

theorem elem_of {P : Program} {t e : TypeId} {z : Value} {bytes : Nat} (h1 : P.underlying t = some (.slice e)) (h2 : (P.info? e).map (fun i => (i.zero, i.size, i.bytes)) = some (some z, 1, bytes)) (h3 : z.cells.size = 1) : Elem P t e z bytes :=
  ⟨h1, info_parts h2, h3⟩

/-- out = append(out, x): out the call's own, or nil. -/
theorem append1 {P : Program} {t e : TypeId} {z : Value} {bytes : Nat} (E : Elem P t e z bytes) {w : World} {ops : Array Oper} {rest : List Oper} {o : Oper} {a : Act} {Q : Exit → Act → World → Prop} {s x : Operand} {u : Value} {base : Nat} {v : Value} {xs : List Value}
    (hown : Owns base e w v xs) (hgd : o.guard = none) (ho : o.op = .call { callee := .builtin .append, args := #[s, x], argTypes := #[t, t] }) (hs : a.eval s = v)
    (hx : a.eval x = .slice (some ⟨w.heap.size, 0, none⟩) 1 1) (h1 : u.oneCell' = true) (hl : (xs.length + 1) * bytes ≤ 140737488355328) (hm : xs.length + 1 ≤ maxLen) (hbase : base ≤ w.heap.size)
    (h : ∀ v' w', Owns base e w' v' (xs ++ [u]) → Below base w w' → w.grownBy w' v.ownBlock → wpList P ops Q rest (a.put o.dst v') w') : wpList P ops Q (o :: rest) a (w.alloc (.cells #[u] e)) := by
  obtain ⟨i, hi, hz, h4, h5⟩ := E.info
  refine wpList_append_own _ hgd s x t ho base e i z 1 bytes E.und hi hz h4 h5 E.one (by decide) v xs.length xs hs (World.ownsRow.alloc hown _) ⟨w.heap.size, 0, none⟩ 1 1 [u] hx rfl ?_ (by simpa using h1) hm hl (by simp; omega) ?_
  · intro j u' hj
    match j, hj with
    | 0, hj => simp at hj; subst hj; simp [Addr.add]
  · intro v' w' h2 h3 _
    have hg : w.grownBy w' v.ownBlock := ⟨h3.os, h3.tape, h3.output, Nat.le_trans (by simp) h3.size, fun k hk hne => (h3.block k (by simp; omega) hne).trans (Below.heap_alloc _ _ _ hk)⟩
    refine h v' w' (by unfold Owns; simpa using h2) ⟨hg.os, hg.tape, hg.output, hg.size, fun k hk => hg.block k (by omega) (fun e' => ?_)⟩ hg
    have := World.ownsRow.lt hown k e'.symm
    omega

/-- out = append(out, ys...): out the call's own, or nil; ys is no nil slice. -/
theorem appendN {P : Program} {t e : TypeId} {z : Value} {bytes : Nat} (E : Elem P t e z bytes) {w : World} {ops : Array Oper} {rest : List Oper} {o : Oper} {a : Act} {Q : Exit → Act → World → Prop} {s x : Operand} {base : Nat} {v : Value} {xs ys : List Value} {ad : Addr} {c : Nat}
    (hown : Owns base e w v xs) (hgd : o.guard = none) (ho : o.op = .call { callee := .builtin .append, args := #[s, x], argTypes := #[t, t] }) (hs : a.eval s = v)
    (hx : a.eval x = .slice (some ad) ys.length c) (hy : ∀ j u, ys[j]? = some u → w.cell? (ad.add j) = some u) (h1 : ∀ u ∈ ys, u.oneCell' = true) (hl : (xs.length + ys.length) * bytes ≤ 140737488355328) (hm : xs.length + ys.length ≤ maxLen) (hbase : base ≤ w.heap.size)
    (h : ∀ v' w', Owns base e w' v' (xs ++ ys) → Below base w w' → w.grownBy w' v.ownBlock → wpList P ops Q rest (a.put o.dst v') w') : wpList P ops Q (o :: rest) a w := by
  obtain ⟨i, hi, hz, h4, h5⟩ := E.info
  refine wpList_append_own _ hgd s x t ho base e i z 1 bytes E.und hi hz h4 h5 E.one (by decide) v xs.length xs hs hown ad ys.length c ys hx (by simp) hy h1 hm hl hbase ?_
  intro v' w' h2 h3 _
  refine h v' w' (by unfold Owns; simpa using h2) ⟨h3.os, h3.tape, h3.output, h3.size, fun k hk => h3.block k (by omega) (fun e' => ?_)⟩ h3
  have := World.ownsRow.lt hown k e'.symm
  omega

theorem Cells.at {k : IntKind} {w : World} {ad : Addr} {xs : List Nat} (h : Cells k w (some ad) xs) : ∀ j u, (ints k xs)[j]? = some u → w.cell? (ad.add j) = some u := by
  intro j u hu
  have hj : j < xs.length := by have := (List.getElem?_eq_some_iff.1 hu).1; rwa [ints_length] at this
  rcases h with rfl | ⟨b, off, e, _, hc⟩
  · simp at hj
  · obtain rfl := Option.some.inj e
    rw [Addr.add_lit, hc j hj, ← ints_get k xs j hj, hu]

theorem Cells.set {k : IntKind} {w : World} {ao : Option Addr} {xs : List Nat} (h : Cells k w ao xs) (p : Addr) (u : Value) (hp : ∀ n, w.cell? p ≠ some (.int k n)) : Cells k (w.setCell p u) ao xs := by
  rcases h with h | ⟨b, off, h1, h2, h3⟩
  · exact .inl h
  · refine .inr ⟨b, off, h1, by simpa [World.setCell] using h2, fun i hi => ?_⟩
    rw [World.cell?_setCell_other]
    · exact h3 i hi
    · intro e'
      exact hp _ (e' ▸ h3 i hi)

theorem Ints.set {k : IntKind} {w : World} {v : Value} {xs : List Nat} (h : Ints k w v xs) (p : Addr) (u : Value) (hp : ∀ n, w.cell? p ≠ some (.int k n)) : Ints k (w.setCell p u) v xs := by
  obtain ⟨ao, cap, h1, h2, h3, h4, h5⟩ := h
  exact ⟨ao, cap, h1, h2, h3, h4, h5.set p u hp⟩

theorem NatIs.set {w : World} {v : Value} {n : Nat} (h : NatIs w v n) (p : Addr) (u : Value) (hp : ∀ n, w.cell? p ≠ some (.int .u32 n)) : NatIs (w.setCell p u) v n := by
  obtain ⟨sv, h1, h2⟩ := h
  exact ⟨sv, h1, h2.set p u hp⟩

theorem cell_set {w : World} {p : Addr} {u v : Value} (h : w.cell? p = some u) : (w.setCell p v).cell? p = some v :=
  World.cell?_setCell_same' _ _ _ (by rw [h]; rfl)

theorem Owns.at {base : Nat} {e : TypeId} {w : World} {g n cap : Nat} {k : IntKind} {xs : List Nat} (h : Owns base e w (.slice (some ⟨g, 0, none⟩) n cap) (ints k xs)) :
    xs.length = n ∧ base ≤ g ∧ g < w.heap.size ∧ n ≤ cap ∧ (∀ j, j < n → w.cell? ⟨g, j, none⟩ = some (.int k ((xs[j]?.getD 0 : Nat) : Int))) ∧ (∀ j, w.frozen? ⟨g, j, none⟩ = false) := by
  rcases h.shape with ⟨h, _⟩ | ⟨g', cap', h, h2, h3, h4, h5, h6, h7⟩
  · cases h
  · rw [ints_length] at h h4 h6
    simp only [Value.slice.injEq, Option.some.injEq, Addr.mk.injEq, and_true] at h
    obtain ⟨rfl, rfl, rfl⟩ := h
    exact ⟨rfl, h2, h3, h4, fun j hj => by rw [h6 j hj, ints_get _ _ _ hj], h7⟩

theorem bytes_extract (l : List UInt8) (i j : Nat) : (⟨l.toArray⟩ : ByteArray).extract i j = ⟨((l.take j).drop i).toArray⟩ := by
  apply ByteArray.ext
  rw [ByteArray.data_extract]
  simp only [List.extract_toArray, List.extract_eq_take_drop]
  rw [List.drop_take]

theorem ret_one {v v' : Value} (h : v = v') : Ending.returned v = .returned v' := by rw [h]

theorem Owns.storedN {base : Nat} {e : TypeId} {w : World} {g n cap : Nat} {k : IntKind} {xs : List Nat} (h : Owns base e w (.slice (some ⟨g, 0, none⟩) n cap) (ints k xs)) (j y : Nat) :
    Owns base e (w.setCell ⟨g, j, none⟩ (.int k (y : Int))) (.slice (some ⟨g, 0, none⟩) n cap) (ints k (xs.set j y)) := by
  rw [← ints_set]
  exact h.stored (by rw [ints_length]; exact h.at.1.symm) j _

end Go.Proofs.YtegneoaoodddoaaDoor
