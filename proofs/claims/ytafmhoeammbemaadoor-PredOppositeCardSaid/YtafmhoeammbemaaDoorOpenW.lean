/-
  Arguments that are lists of values: what the reader says of them, for the walk.
-/
import Derived.Test.YtafmhoeammbemaaDoorOpenV
import Derived.Test.YtafmhoeammbemaaDoorValB
import Derived.Deep.Slices
import Derived.Deep.Fields
namespace Go.Proofs.YtafmhoeammbemaaDoor
open Go.ChangeShapes Go.WideShapes Go.ChangeAt Go.RowKit Go.Deep
set_option linter.unusedVariables false

instance : Inhabited V3 := ⟨⟨0, [], []⟩⟩
/-- A list of values that came in. -/
def ValsIn (w : World) (v : Value) : Prop := ∃ (ao : Option Addr) (cap : Nat) (vs : List V3), v = .slice ao vs.length cap ∧ Vals w ao vs ∧ vs.length ≤ cap ∧ cap ≤ maxLen ∧ ∀ u ∈ vs, u.n.length ≤ 9223372036854775807 ∧ u.c.length ≤ 9223372036854775807
theorem hone_at {P : Program} {t : TypeId} {fs : Array Field} (_ : P.underlying t = some (.struct fs)) (h : oneCellFields P fs = true) : ∀ (i : Nat) (f : Field), fs[i]? = some f → f.offset = i ∧ P.cellsOf f.type = 1 := fun i f hi => hone_of h i f hi
set_option maxRecDepth 100000 in
theorem vals_of_trod {H : Type} {enc : TypeId × Value → H} {W : World} {base : Nat} {v : Value} {d : DataW H} {p : List MemPlace} (hok : Value.okWide Tryd.prog W .any base 24 v) (h : DataW.Trod enc Tryd.prog W 0 (fun _ => true) true 24 v d p) : ValsIn W v := by
  obtain ⟨a0, len, cap, rfl⟩ := okWide_slice Tryd.underlying24 hok
  obtain ⟨fuel, hf⟩ := h
  rcases open_slice Tryd.underlying24 hf with ⟨hcs, _⟩ | ⟨a, len', cap', m, n, D, Pl, hcs, _, hl, hm, hmm, _, hx⟩
  · simp [Value.cells] at hcs
    obtain ⟨rfl, rfl, rfl⟩ := hcs
    exact ⟨none, 0, [], rfl, fun i v hi => by simp at hi, Nat.le_refl _, Nat.zero_le _, by simp⟩
  · simp [Value.cells] at hcs
    obtain ⟨rfl, rfl, rfl⟩ := hcs
    have hcell3 : Tryd.prog.cellsOf 23 = 3 := by kernel_rfl
    rw [hcell3] at hx
    have hmm2 : len ≤ m := by rw [hmm]; simp only [if_true]; exact hl
    have each : ∀ i, i < len → ∃ u : V3, W.cell? (a.add (i * 3)) = some (.int .i64 u.k) ∧ W.cell? (a.add (i * 3 + 1)) = some (.string ⟨u.n.toArray⟩) ∧ W.cell? (a.add (i * 3 + 2)) = some (.string ⟨u.c.toArray⟩) ∧ u.n.length ≤ 9223372036854775807 ∧ u.c.length ≤ 9223372036854775807 := by
      intro i hi
      obtain ⟨cs', h1, h2⟩ := hx i (by omega)
      obtain ⟨_, hlen, hcell⟩ := World.cells?_some h1
      obtain ⟨xs, k, _, _, _, hxl, hff⟩ := DataW.trod_struct Tryd.underlying23 h2
      have hone := hone_at Tryd.underlying23 (by kernel_rfl)
      have hxl3 : xs.length = 3 := hxl
      match xs, hxl3, cs', hlen, hff, hcell with
      | [y0, y1, y2], _, [v0, v1, v2], _, hff, hcell =>
        have g0 := hff 0 _ rfl
        have g1 := hff 1 _ rfl
        have g2 := hff 2 _ rfl
        have t0 := hone 0 _ rfl
        have t1 := hone 1 _ rfl
        have t2 := hone 2 _ rfl
        rw [t0.1, t0.2] at g0
        rw [t1.1, t1.2] at g1
        rw [t2.1, t2.2] at g2
        simp at g0 g1 g2
        have e0 := hcell 0 (by omega)
        have e1 := hcell 1 (by omega)
        have e2 := hcell 2 (by omega)
        rw [add_add] at e0 e1 e2
        simp at e0 e1 e2
        obtain ⟨c, hc, _, _⟩ := DataW.trod_int Tryd.underlying3 g0
        simp at hc
        obtain ⟨l1, hl1, m1⟩ := string_field Tryd.underlying9 g1
        obtain ⟨l2, hl2, m2⟩ := string_field Tryd.underlying9 g2
        exact ⟨⟨c, l1, l2⟩, by rw [e0, hc], by rw [e1, hl1], by rw [e2, hl2], m1, m2⟩
    obtain ⟨V, hV⟩ := choose_lt each
    have hlV : ((List.range len).map V).length = len := by simp
    refine ⟨some a, cap, (List.range len).map V, by rw [hlV], ?_, by rw [hlV]; exact hl, hm, ?_⟩
    · intro i v hi
      have hil : i < len := by
        have := (List.getElem?_eq_some_iff.1 hi).1
        rwa [hlV] at this
      have hv : v = V i := by
        rw [List.getElem?_map, List.getElem?_range hil] at hi
        simpa using hi.symm
      subst hv
      obtain ⟨c0, c1, c2, _, _⟩ := hV i hil
      obtain ⟨blk, off, spot⟩ := a
      have hsp : spot = none := by
        have c00 := (hV 0 (by omega)).1
        rw [Nat.zero_mul] at c00
        unfold World.cell? at c00
        split at c00
        · cases spot with
          | none => rfl
          | some x => simp [Addr.add] at c00
        · cases c00
      subst hsp
      rw [Addr.add_lit] at c0 c1 c2
      exact ⟨blk, off, rfl, ⟨c0⟩, ⟨by rw [Nat.add_assoc]; exact c1⟩, ⟨by rw [Nat.add_assoc]; exact c2⟩⟩
    · intro u hu
      obtain ⟨i, hi, rfl⟩ := List.mem_map.1 hu
      exact (hV i (List.mem_range.1 hi)).2.2.2
end Go.Proofs.YtafmhoeammbemaaDoor
