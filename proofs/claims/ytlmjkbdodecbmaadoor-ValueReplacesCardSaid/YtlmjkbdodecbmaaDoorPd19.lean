/-
  Pd19: OpenG OpenV OpenW OpenF (what is needed of them).
-/
import Derived.Test.YtlmjkbdodecbmaaDoorPd07
import Derived.Test.YtlmjkbdodecbmaaDoorPd09
import Derived.Test.YtlmjkbdodecbmaaDoorPd15
import Derived.Test.YtlmjkbdodecbmaaDoorPd16
import Derived.WalkKit
import Derived.ProofKit
import Derived.OpenShut
import Derived.ShutString
import Derived.Carry
import Derived.Deep.Fields
import Derived.Deep.Slices

namespace Go.Proofs.YtlmjkbdodecbmaaDoor
open Go.ChangeShapes Go.WideShapes Go.ChangeAt Go.RowKit Go.Deep
set_option linter.unusedVariables false
set_option maxRecDepth 100000 in
theorem laidOutN : laidOutB Tryd.prog = true := by kernel_rfl
theorem string_field {H : Type} {enc : TypeId × Value → H} {P : Program} {W : World} {base : Nat} {spare : Nat → Bool} {held : Bool} {n : Nat} {t : TypeId} {u : Value} {y : DataW H × List MemPlace} (ht : P.underlying t = some .string) (h : DataW.trod enc P W base spare held n t [u] = some y) :
    ∃ l : List UInt8, u = .string ⟨l.toArray⟩ ∧ l.length ≤ 9223372036854775807 := by
  obtain ⟨s, hs, _, hm⟩ := DataW.trod_string ht h
  obtain ⟨⟨l⟩⟩ := s
  simp at hs
  refine ⟨l, hs, ?_⟩
  unfold maxLen at hm
  have h9 : (⟨⟨l⟩⟩ : ByteArray).size = l.length := rfl
  omega
end Go.Proofs.YtlmjkbdodecbmaaDoor

namespace Go.Proofs.YtlmjkbdodecbmaaDoor
open Go.ChangeShapes Go.WideShapes Go.ChangeAt Go.RowKit Go.Deep
set_option linter.unusedVariables false
instance : Inhabited V3 := ⟨⟨0, [], []⟩⟩
/-- A list of values that came in. -/
def ValsIn (w : World) (v : Value) : Prop := ∃ (ao : Option Addr) (cap : Nat) (vs : List V3), v = .slice ao vs.length cap ∧ Vals w ao vs ∧ vs.length ≤ cap ∧ cap ≤ maxLen ∧ ∀ u ∈ vs, u.n.length ≤ 9223372036854775807 ∧ u.c.length ≤ 9223372036854775807
theorem hone_at {P : Program} {t : TypeId} {fs : Array Field} (_ : P.underlying t = some (.struct fs)) (h : oneCellFields P fs = true) : ∀ (i : Nat) (f : Field), fs[i]? = some f → f.offset = i ∧ P.cellsOf f.type = 1 := fun i f hi => hone_of h i f hi
set_option maxRecDepth 100000 in
theorem vals_of_trod {H : Type} {enc : TypeId × Value → H} {W : World} {base : Nat} {v : Value} {d : DataW H} {p : List MemPlace} (hok : Value.okWide Tryd.prog W .any base 22 v) (h : DataW.Trod enc Tryd.prog W 0 (fun _ => true) true 22 v d p) : ValsIn W v := by
  obtain ⟨a0, len, cap, rfl⟩ := okWide_slice Tryd.underlying22 hok
  obtain ⟨fuel, hf⟩ := h
  rcases open_slice Tryd.underlying22 hf with ⟨hcs, _⟩ | ⟨a, len', cap', m, n, D, Pl, hcs, _, hl, hm, hmm, _, hx⟩
  · simp [Value.cells] at hcs
    obtain ⟨rfl, rfl, rfl⟩ := hcs
    exact ⟨none, 0, [], rfl, fun i v hi => by simp at hi, Nat.le_refl _, Nat.zero_le _, by simp⟩
  · simp [Value.cells] at hcs
    obtain ⟨rfl, rfl, rfl⟩ := hcs
    have hcell3 : Tryd.prog.cellsOf 57 = 3 := by kernel_rfl
    rw [hcell3] at hx
    have hmm2 : len ≤ m := by rw [hmm]; simp only [if_true]; exact hl
    have each : ∀ i, i < len → ∃ u : V3, W.cell? (a.add (i * 3)) = some (.int .i64 u.k) ∧ W.cell? (a.add (i * 3 + 1)) = some (.string ⟨u.n.toArray⟩) ∧ W.cell? (a.add (i * 3 + 2)) = some (.string ⟨u.c.toArray⟩) ∧ u.n.length ≤ 9223372036854775807 ∧ u.c.length ≤ 9223372036854775807 := by
      intro i hi
      obtain ⟨cs', h1, h2⟩ := hx i (by omega)
      obtain ⟨_, hlen, hcell⟩ := World.cells?_some h1
      obtain ⟨xs, k, _, _, _, hxl, hff⟩ := DataW.trod_struct Tryd.underlying57 h2
      have hone := hone_at Tryd.underlying57 (by kernel_rfl)
      have hxl3 : xs.length = 3 := hxl
      match xs, hxl3, cs', hlen, hff, hcell with
      | [y0, y1, y2], _, [v0, v1, v2], _, hff, hcell =>
        have g0 := hff 0 _ rfl
        have g1 := hff 1 _ rfl
        have g2 := hff 2 _ rfl
        have t0 := hone 0 _ rfl
        have t1 := hone 1 _ rfl
        have t2 := hone 2 _ rfl
        rw [t0.1, t0.2] at g0
        rw [t1.1, t1.2] at g1
        rw [t2.1, t2.2] at g2
        simp at g0 g1 g2
        have e0 := hcell 0 (by omega)
        have e1 := hcell 1 (by omega)
        have e2 := hcell 2 (by omega)
        rw [add_add] at e0 e1 e2
        simp at e0 e1 e2
        obtain ⟨c, hc, _, _⟩ := DataW.trod_int Tryd.underlying3 g0
        simp at hc
        obtain ⟨l1, hl1, m1⟩ := string_field Tryd.underlying9 g1
        obtain ⟨l2, hl2, m2⟩ := string_field Tryd.underlying9 g2
        exact ⟨⟨c, l1, l2⟩, by rw [e0, hc], by rw [e1, hl1], by rw [e2, hl2], m1, m2⟩
    obtain ⟨V, hV⟩ := choose_lt each
    have hlV : ((List.range len).map V).length = len := by simp
    refine ⟨some a, cap, (List.range len).map V, by rw [hlV], ?_, by rw [hlV]; exact hl, hm, ?_⟩
    · intro i v hi
      have hil : i < len := by
        have := (List.getElem?_eq_some_iff.1 hi).1
        rwa [hlV] at this
      have hv : v = V i := by
        rw [List.getElem?_map, List.getElem?_range hil] at hi
        simpa using hi.symm
      subst hv
      obtain ⟨c0, c1, c2, _, _⟩ := hV i hil
      obtain ⟨blk, off, spot⟩ := a
      have hsp : spot = none := by
        have c00 := (hV 0 (by omega)).1
        rw [Nat.zero_mul] at c00
        unfold World.cell? at c00
        split at c00
        · cases spot with
          | none => rfl
          | some x => simp [Addr.add] at c00
        · cases c00
      subst hsp
      rw [Addr.add_lit] at c0 c1 c2
      exact ⟨blk, off, rfl, ⟨c0⟩, ⟨by rw [Nat.add_assoc]; exact c1⟩, ⟨by rw [Nat.add_assoc]; exact c2⟩⟩
    · intro u hu
      obtain ⟨i, hi, rfl⟩ := List.mem_map.1 hu
      exact (hV i (List.mem_range.1 hi)).2.2.2
end Go.Proofs.YtlmjkbdodecbmaaDoor

namespace Go.Proofs.YtlmjkbdodecbmaaDoor
open Go.ChangeShapes Go.WideShapes Go.ChangeAt Go.RowKit Go.Deep
set_option linter.unusedVariables false
/-- A row of structs of k cells in memory. -/
def RowG {α : Type} (k : Nat) (enc : α → List Value) (w : World) (ao : Option Addr) (xs : List α) : Prop :=
  xs = [] ∨ ∃ b off, ao = some ⟨b, off, none⟩ ∧ b < w.heap.size ∧ ∀ i x, xs[i]? = some x → ∀ j c, (enc x)[j]? = some c → w.cell? ⟨b, off + i * k + j, none⟩ = some c
/-- A row of elements of k cells that came in: the elements, their cells. -/
theorem rowG_field {α : Type} [Inhabited α] {k : Nat} {enc : α → List Value} {good : α → Prop} (hk0 : 0 < k) (henc : ∀ x, (enc x).length = k) {t el : TypeId} {H : Type} {eh : TypeId × Value → H} {W : World} {u : Value} {n : Nat} {y : DataW H × List MemPlace} (ht : Tryd.prog.underlying t = some (.slice el)) (hc : Tryd.prog.cellsOf el = k)
    (each : ∀ (m : Nat) (cs : List Value) (x : DataW H × List MemPlace), m < n → cs.length = k → DataW.trod eh Tryd.prog W 0 (fun _ => true) true m el cs = some x → ∃ z, good z ∧ cs = enc z)
    (hf : DataW.trod eh Tryd.prog W 0 (fun _ => true) true n t [u] = some y) :
    ∃ (ao : Option Addr) (cap : Nat) (xs : List α), u = .slice ao xs.length cap ∧ RowG k enc W ao xs ∧ xs.length ≤ cap ∧ cap ≤ maxLen ∧ (ao = none → cap = 0) ∧ ∀ x ∈ xs, good x := by
  rcases DataW.trod_slice ht hf with ⟨hcs, _⟩ | ⟨a, len, cap, elems, rest, n', hn, hcs, _, _, hl, hm, hel, hx, _, _⟩
  · injection hcs with h1 _
    subst h1
    exact ⟨none, 0, [], rfl, .inl rfl, Nat.le_refl _, Nat.zero_le _, fun _ => rfl, by simp⟩
  · injection hcs with h1 _
    subst h1
    rw [hc] at hx
    have each2 : ∀ i, i < len → ∃ z : α, good z ∧ ∀ j c, (enc z)[j]? = some c → W.cell? (a.add (i * k + j)) = some c := by
      intro i hi
      have h0 := hx i hi
      rw [List.getElem?_eq_getElem (by omega)] at h0
      obtain ⟨cs', h1, h2⟩ := Option.bind_eq_some_iff.1 h0
      obtain ⟨_, hlen, hcell⟩ := World.cells?_some h1
      obtain ⟨z, hg, rfl⟩ := each _ _ _ (by omega) hlen h2
      refine ⟨z, hg, fun j c hj => ?_⟩
      have hjk : j < k := by rw [← henc z]; exact (List.getElem?_eq_some_iff.1 hj).1
      have e := hcell j (by omega)
      rw [add_add] at e
      rw [e]
      exact hj
    obtain ⟨V, hV⟩ := choose_lt each2
    have hlV : ((List.range len).map V).length = len := by simp
    refine ⟨some a, cap, (List.range len).map V, by rw [hlV], ?_, by rw [hlV]; exact hl, hm, fun h => (Option.some_ne_none _ h).elim, ?_⟩
    · rcases Nat.eq_zero_or_pos len with h0 | h0
      · left; subst h0; rfl
      · right
        have c0 := (hV 0 h0).2 0 _ (List.getElem?_eq_getElem (by rw [henc]; exact hk0))
        obtain ⟨blk, off, spot⟩ := a
        have hsp : spot = none := by
          unfold World.cell? at c0
          split at c0
          · cases spot with
            | none => rfl
            | some x => simp [Addr.add] at c0
          · cases c0
        subst hsp
        rw [Addr.add_lit] at c0
        refine ⟨blk, off, rfl, World.block_lt_of_cell? W ⟨blk, off + (0 * k + 0), none⟩ c0, fun i o hi j c hj => ?_⟩
        have hil : i < len := by
          have := (List.getElem?_eq_some_iff.1 hi).1
          rwa [hlV] at this
        have hv : o = V i := by
          rw [List.getElem?_map, List.getElem?_range hil] at hi
          simpa using hi.symm
        subst hv
        have h9 := (hV i hil).2 j c hj
        rw [Addr.add_lit, ← Nat.add_assoc] at h9
        exact h9
    · intro o ho
      obtain ⟨i, hi, rfl⟩ := List.mem_map.1 ho
      exact (hV i (List.mem_range.1 hi)).1
set_option maxRecDepth 100000 in
/-- A field that is a list of texts. -/
theorem strs_cell {H : Type} {enc : TypeId × Value → H} {W : World} {u : Value} {n : Nat} {y : DataW H × List MemPlace} (hf : DataW.trod enc Tryd.prog W 0 (fun _ => true) true n 55 [u] = some y) :
    ∃ (ao : Option Addr) (cap : Nat) (ls : List (List UInt8)), u = .slice ao ls.length cap ∧ Strs W (.slice ao ls.length cap) ls ∧ ∀ l ∈ ls, l.length ≤ 9223372036854775807 := by
  have h1 : Tryd.prog.cellsOf 9 = 1 := by kernel_rfl
  obtain ⟨ao, cap, ls, rfl, hr, hl, hm, _, hg⟩ := rowG_field (α := List UInt8) (k := 1) (enc := fun l => [.string ⟨l.toArray⟩]) (good := fun l => l.length ≤ 9223372036854775807) (by decide) (fun _ => rfl) Tryd.underlying55 h1 (fun m cs x _ hlen h2 => by
    match cs, hlen with
    | [c], _ =>
      obtain ⟨l, hl1, hl2⟩ := string_field Tryd.underlying9 h2
      exact ⟨l, hl2, by rw [hl1]⟩) hf
  refine ⟨ao, cap, ls, rfl, ⟨ao, cap, rfl, hl, hm, ?_⟩, hg⟩
  rcases hr with h | ⟨b, off, h1, h2, h3⟩
  · exact .inl h
  · refine .inr ⟨b, off, h1, h2, fun i hi => ?_⟩
    have := h3 i _ (List.getElem?_eq_getElem hi) 0 _ rfl
    rw [List.getElem?_eq_getElem hi]
    rw [Nat.mul_one, Nat.add_zero] at this
    exact this
set_option maxRecDepth 100000 in
theorem value_cells {H : Type} {enc : TypeId × Value → H} {W : World} {n : Nat} {cs : List Value} {y : DataW H × List MemPlace} (hlen : cs.length = 3) (hf : DataW.trod enc Tryd.prog W 0 (fun _ => true) true n 57 cs = some y) :
    ∃ u : V3, cs = [.int .i64 u.k, .string ⟨u.n.toArray⟩, .string ⟨u.c.toArray⟩] ∧ u.n.length ≤ 9223372036854775807 ∧ u.c.length ≤ 9223372036854775807 := by
  obtain ⟨xs, k, _, _, _, hxl, hff⟩ := DataW.trod_struct Tryd.underlying57 hf
  have hone := hone_at Tryd.underlying57 (by kernel_rfl)
  have hxl3 : xs.length = 3 := hxl
  match xs, hxl3, cs, hlen, hff with
  | [y0, y1, y2], _, [v0, v1, v2], _, hff =>
    have g0 := hff 0 _ rfl
    have g1 := hff 1 _ rfl
    have g2 := hff 2 _ rfl
    have t0 := hone 0 _ rfl
    have t1 := hone 1 _ rfl
    have t2 := hone 2 _ rfl
    rw [t0.1, t0.2] at g0
    rw [t1.1, t1.2] at g1
    rw [t2.1, t2.2] at g2
    simp at g0 g1 g2
    obtain ⟨c, hc, _, _⟩ := DataW.trod_int Tryd.underlying3 g0
    simp at hc
    obtain ⟨l1, hl1, m1⟩ := string_field Tryd.underlying9 g1
    obtain ⟨l2, hl2, m2⟩ := string_field Tryd.underlying9 g2
    exact ⟨⟨c, l1, l2⟩, by rw [hc, hl1, hl2], m1, m2⟩
/-- A list of fields that came in. -/
def FldsIn (w : World) (v : Value) : Prop := ∃ (ao : Option Addr) (cap : Nat) (xs : List FV), v = .slice ao xs.length cap ∧ Flds w ao xs ∧ xs.length ≤ cap ∧ cap ≤ maxLen ∧ ∀ x ∈ xs, BigF x.f
instance : Inhabited FV := ⟨⟨⟨[], 0, [], ⟨0, [], []⟩, 0⟩, none, 0⟩⟩
set_option maxRecDepth 100000 in
theorem fld_cells {H : Type} {enc : TypeId × Value → H} {W : World} {n : Nat} {cs : List Value} {y : DataW H × List MemPlace} (hlen : cs.length = 7) (hf : DataW.trod enc Tryd.prog W 0 (fun _ => true) true n 59 cs = some y) :
    ∃ x : FV, (Strs W (.slice x.vo x.f.vals.length x.vc) x.f.vals ∧ BigF x.f) ∧ cs = x.cells := by
  obtain ⟨xs, k, _, _, _, hxl, hff⟩ := DataW.trod_struct Tryd.underlying59 hf
  have hxl5 : xs.length = 5 := hxl
  have e0 : Tryd.prog.cellsOf 9 = 1 := by kernel_rfl
  have e1 : Tryd.prog.cellsOf 3 = 1 := by kernel_rfl
  have e2 : Tryd.prog.cellsOf 55 = 1 := by kernel_rfl
  have e3 : Tryd.prog.cellsOf 57 = 3 := by kernel_rfl
  match xs, hxl5, cs, hlen, hff with
  | [y0, y1, y2, y3, y4], _, [v0, v1, v2, v3, v4, v5, v6], _, hff =>
    have g0 : DataW.trod enc Tryd.prog W 0 (fun _ => true) true k 9 (List.take (Tryd.prog.cellsOf 9) (List.drop 0 [v0, v1, v2, v3, v4, v5, v6])) = some y0 := hff 0 _ rfl
    have g1 : DataW.trod enc Tryd.prog W 0 (fun _ => true) true k 3 (List.take (Tryd.prog.cellsOf 3) (List.drop 1 [v0, v1, v2, v3, v4, v5, v6])) = some y1 := hff 1 _ rfl
    have g2 : DataW.trod enc Tryd.prog W 0 (fun _ => true) true k 55 (List.take (Tryd.prog.cellsOf 55) (List.drop 2 [v0, v1, v2, v3, v4, v5, v6])) = some y2 := hff 2 _ rfl
    have g3 : DataW.trod enc Tryd.prog W 0 (fun _ => true) true k 57 (List.take (Tryd.prog.cellsOf 57) (List.drop 3 [v0, v1, v2, v3, v4, v5, v6])) = some y3 := hff 3 _ rfl
    have g4 : DataW.trod enc Tryd.prog W 0 (fun _ => true) true k 3 (List.take (Tryd.prog.cellsOf 3) (List.drop 6 [v0, v1, v2, v3, v4, v5, v6])) = some y4 := hff 4 _ rfl
    rw [e0] at g0
    rw [e1] at g1
    rw [e2] at g2
    rw [e3] at g3
    rw [e1] at g4
    simp at g0 g1 g2 g3 g4
    obtain ⟨nm, rfl, m0⟩ := string_field Tryd.underlying9 g0
    obtain ⟨fk, hc1, _, _⟩ := DataW.trod_int Tryd.underlying3 g1
    simp at hc1
    obtain ⟨vo, vc, vals, rfl, hS, m2⟩ := strs_cell g2
    obtain ⟨u, hu, m3, m4⟩ := value_cells rfl g3
    obtain ⟨inv, hc4, _, _⟩ := DataW.trod_int Tryd.underlying3 g4
    simp at hc4 hu
    obtain ⟨rfl, rfl, rfl⟩ := hu
    exact ⟨⟨⟨nm, fk, vals, u, inv⟩, vo, vc⟩, ⟨hS, ⟨m0, m3, m4, m2⟩⟩, by rw [hc1, hc4]; rfl⟩
set_option maxRecDepth 100000 in
theorem flds_cell {H : Type} {enc : TypeId × Value → H} {W : World} {u : Value} {n : Nat} {y : DataW H × List MemPlace} (hf : DataW.trod enc Tryd.prog W 0 (fun _ => true) true n 40 [u] = some y) : FldsIn W u := by
  have e7 : Tryd.prog.cellsOf 59 = 7 := by kernel_rfl
  obtain ⟨ao, cap, xs, rfl, hr, hl, hm, _, hg⟩ := rowG_field (α := FV) (k := 7) (enc := FV.cells) (good := fun x => Strs W (.slice x.vo x.f.vals.length x.vc) x.f.vals ∧ BigF x.f) (by decide) (fun _ => rfl) Tryd.underlying40 e7 (fun m cs x _ hlen h2 => fld_cells hlen h2) hf
  exact ⟨ao, cap, xs, rfl, ⟨hr, fun x hx => (hg x hx).1⟩, hl, hm, fun x hx => (hg x hx).2⟩
set_option maxRecDepth 100000 in
theorem flds_of_trod {H : Type} {enc : TypeId × Value → H} {W : World} {base : Nat} {v : Value} {d : DataW H} {p : List MemPlace} (hok : Value.okWide Tryd.prog W .any base 40 v) (h : DataW.Trod enc Tryd.prog W 0 (fun _ => true) true 40 v d p) : FldsIn W v := by
  obtain ⟨a0, len, cap, rfl⟩ := okWide_slice Tryd.underlying40 hok
  obtain ⟨fuel, hf⟩ := h
  exact flds_cell hf
end Go.Proofs.YtlmjkbdodecbmaaDoor
