/-
  Rows of fractions that a law of its own builds by append, and how they are read as RatRow.
-/
import Derived.Test.YtieffhkfefimeaaGreatDoorIterS
import Derived.Test.YtieffhkfefimeaaGreatDoorHeapL
import Derived.Test.YtieffhkfefimeaaGreatDoorBookM
namespace Go.Proofs.YtieffhkfefimeaaGreatDoor
open Go.RowKit Go.Shelf
set_option linter.unusedVariables false
set_option linter.unusedSimpArgs false

theorem OwnsK.other {K base : Nat} {e : TypeId} {w w' : World} {v : Value} {n : Nat} {xs : List Value} {g : Nat} (h : OwnsK K base e w v n xs) (hg : w.grownBy w' (some g)) (hlt : g < base) : OwnsK K base e w' v n xs :=
  World.ownsRow.kept h hg (by
    by_cases hv : v.ownBlock = none
    · exact .inl hv
    · right; intro e'
      have := World.ownsRow.lt h g e'
      omega)
/-- Neither a number nor a text. -/
def NotIS (c : Value) : Prop := (∀ k n, c ≠ .int k n) ∧ ∀ t, c ≠ .string t
theorem keepIS_grown {W w1 : World} {v : Value} (hg : W.grownBy w1 v.ownBlock) (ha : RowAll NotIS W v) : KeepI W w1 ∧ ∀ p t, W.cell? p = some (.string t) → w1.cell? p = some (.string t) := by
  refine ⟨KeepI.grown hg (fun g hg9 j c hc => (ha g hg9 j c hc).1), fun p t hp => ?_⟩
  refine hg.cell hp ?_
  intro e
  obtain ⟨blk, off, spot⟩ := p
  have : spot = none := by
    unfold World.cell? at hp
    split at hp
    · cases spot with
      | none => rfl
      | some x => simp at hp
    · cases hp
  subst this
  exact (ha blk e.symm off _ hp).2 t rfl
theorem QIs.keepI {W W' : World} {v : Value} {q : Rat} (h : QIs W v q) (hk : KeepI W W') : QIs W' v q := by
  obtain ⟨a, b1, c, d, e, f, rfl, h1, h2⟩ := h
  exact ⟨a, b1, c, d, e, f, rfl, h1.keepI hk, h2.keepI hk⟩
theorem RQIs.keepI {W W' : World} {v : Value} {q : Rat} (h : RQIs W v q) (hk : KeepI W W') : RQIs W' v q := by
  obtain ⟨a, b1, c, d, e, f, rfl, h1, h2⟩ := h
  exact ⟨a, b1, c, d, e, f, rfl, h1.keepI hk, h2.keepI hk⟩
theorem Strs.keepS {W W' : World} {v : Value} {ls : List (List UInt8)} (h : Strs W v ls) (hs : W.heap.size ≤ W'.heap.size) (hk : ∀ p t, W.cell? p = some (.string t) → W'.cell? p = some (.string t)) : Strs W' v ls := by
  obtain ⟨so, sc, e, h1, h2, h3⟩ := h
  refine ⟨so, sc, e, h1, h2, ?_⟩
  rcases h3 with h3 | ⟨g, off, e1, h4, h5⟩
  · exact .inl h3
  · exact .inr ⟨g, off, e1, Nat.lt_of_lt_of_le h4 hs, fun i hi => hk _ _ (h5 i hi)⟩
theorem Strs.set {w : World} {v : Value} {ls : List (List UInt8)} (h : Strs w v ls) (p : Addr) (u : Value) (hp : ∀ t, w.cell? p ≠ some (.string t)) : Strs (w.setCell p u) v ls :=
  h.keepS (by simp [World.setCell]) (fun p' t hc => by
    rw [World.cell?_setCell_other]
    · exact hc
    · intro e'
      exact hp _ (e' ▸ hc))
theorem Strs.set3 {w : World} {b : Nat} {u0 u1 u2 : Value} {s0 : Bool} {o1 o2 : Option Addr} {l1 c1 l2 c2 : Nat} {v : Value} {ls : List (List UInt8)} (h : Strs w v ls) (hb : Box3 w b (.bool s0) (.slice o1 l1 c1) (.slice o2 l2 c2)) : Strs (((w.setCell ⟨b, 0, none⟩ u0).setCell ⟨b, 1, none⟩ u1).setCell ⟨b, 2, none⟩ u2) v ls := by
  have e1 := (hb.set0 u0).c1
  have e2 := ((hb.set0 u0).set1 u1).c2
  exact ((h.set _ _ (fun n e => by rw [hb.c0] at e; cases e)).set _ _ (fun n e => by rw [e1] at e; cases e)).set _ _ (fun n e => by rw [e2] at e; cases e)
/-- A row of fractions of the law's own. -/
structure QRow (base : Nat) (W : World) (v : Value) (qs : List Rat) (xs : List Value) : Prop where
  own : OwnsK 3 base 81 W v qs.length xs
  each : ∀ k, k < qs.length → ∃ x y z, xs[k * 3]? = some x ∧ xs[k * 3 + 1]? = some y ∧ xs[k * 3 + 2]? = some z ∧ QIs W (.agg #[x, y, z]) (qs[k]?.getD 0)
  all : RowAll NotIS W v
theorem QRow.nil (base : Nat) (W : World) : QRow base W (.slice none 0 0) [] [] := ⟨OwnsK.nil _ _ _ _, fun k hk => by simp at hk, fun g hg => by cases hg⟩
theorem QRow.keepN {base : Nat} {W W' : World} {v : Value} {qs : List Rat} {xs : List Value} (h : QRow base W v qs xs) (ho : OwnsK 3 base 81 W' v qs.length xs) (hk : KeepNat W W') (hb : ∀ g, v.ownBlock = some g → W'.heap[g]? = W.heap[g]?) : QRow base W' v qs xs :=
  ⟨ho, fun k hk9 => by
    obtain ⟨x, y, z, h1, h2, h3, h4⟩ := h.each k hk9
    exact ⟨x, y, z, h1, h2, h3, h4.keep hk⟩, h.all.block hb⟩
theorem QRow.below {base : Nat} {W W' : World} {v : Value} {qs : List Rat} {xs : List Value} (h : QRow base W v qs xs) (hb : Below W.heap.size W W') : QRow base W' v qs xs := h.keepN (h.own.kept hb) (KeepNat.below hb) (fun g hg => hb.block g (World.ownsRow.lt h.own g hg).2)
/-- A store into a box of three cells that lies ahead of the row. -/
theorem QRow.set3 {base b : Nat} {W : World} {v : Value} {qs : List Rat} {xs : List Value} {u0 u1 u2 : Value} {s0 : Bool} {o1 o2 : Option Addr} {l1 c1 l2 c2 : Nat} (h : QRow base W v qs xs) (hb : Box3 W b (.bool s0) (.slice o1 l1 c1) (.slice o2 l2 c2)) (hlt : b < base) :
    QRow base (((W.setCell ⟨b, 0, none⟩ u0).setCell ⟨b, 1, none⟩ u1).setCell ⟨b, 2, none⟩ u2) v qs xs :=
  h.keepN (h.own.other (grownBy_set (grownBy_set (grownBy_set (grownBy_refl _ (some b)) 0 _) 1 _) 2 _) hlt) (fun v n hn => hn.set3 hb) (fun g hg => by
    have h9 := (World.ownsRow.lt h.own g hg).1
    have hne : g ≠ b := by omega
    exact ((Below.heap_setCell _ _ _ _ hne).trans (Below.heap_setCell _ _ _ _ hne)).trans (Below.heap_setCell _ _ _ _ hne))
/-- What append hands back. -/
theorem QRow.snoc {base : Nat} {W W' : World} {v v' : Value} {qs : List Rat} {xs : List Value} {x y z : Value} {q : Rat} (h : QRow base W v qs xs) (ho : OwnsK 3 base 81 W' v' (qs.length + 1) (xs ++ [x, y, z])) (hk : KeepNat W W') (hq : QIs W' (.agg #[x, y, z]) q) (ha : RowAll NotIS W' v') : QRow base W' v' (qs ++ [q]) (xs ++ [x, y, z]) := by
  have hl := h.own.len
  refine ⟨by rw [List.length_append]; exact ho, fun k hk9 => ?_, ha⟩
  rw [List.length_append, List.length_singleton] at hk9
  by_cases hlt : k < qs.length
  · obtain ⟨x1, y1, z1, h1, h2, h3, h4⟩ := h.each k hlt
    refine ⟨x1, y1, z1, ?_, ?_, ?_, ?_⟩
    · rw [List.getElem?_append_left (by omega)]; exact h1
    · rw [List.getElem?_append_left (by omega)]; exact h2
    · rw [List.getElem?_append_left (by omega)]; exact h3
    · rw [List.getElem?_append_left hlt]; exact h4.keep hk
  · have he : k = qs.length := by omega
    subst he
    refine ⟨x, y, z, ?_, ?_, ?_, ?_⟩
    · rw [List.getElem?_append_right (by omega), hl]; simp
    · rw [List.getElem?_append_right (by omega), hl]; simp
    · rw [List.getElem?_append_right (by omega), hl]; simp
    · rw [List.getElem?_append_right (Nat.le_refl _)]; simpa using hq
/-- The row as an iterator reads it. -/
theorem QRow.row {base pn B : Nat} {W : World} {v : Value} {qs : List Rat} {xs : List Value} (h : QRow base W v qs xs) (hB : W.heap.size ≤ B) (hpn : ∀ g, v.ownBlock = some g → g ≠ pn) : RatRow W v qs B pn := by
  rcases h.own.shape with ⟨e, hn⟩ | ⟨g, cap, e, h1, h2, h3, h4, h5, h6⟩
  · have hq : qs = [] := List.eq_nil_of_length_eq_zero hn
    subst hq
    exact ⟨⟨none, 0, e, .inl rfl⟩⟩
  · refine ⟨⟨some ⟨g, 0, none⟩, cap, e, .inr ⟨g, rfl, by omega, h2, hpn g (by rw [e]; rfl), fun i hi => ?_⟩⟩⟩
    obtain ⟨x, y, z, k1, k2, k3, k4⟩ := h.each i hi
    refine ⟨x, y, z, ?_, ?_, ?_, ?_⟩
    · rw [h5 _ (by omega)]; exact k1
    · rw [h5 _ (by omega)]; exact k2
    · rw [h5 _ (by omega)]; exact k3
    · simpa [List.getElem?_eq_getElem hi] using k4
end Go.Proofs.YtieffhkfefimeaaGreatDoor
