/-
  Arguments that are lists of what is put: what the reader says of them, for the walk.
-/
import Derived.Test.YtjcldnkgidfifaaOpenU
import Derived.Test.YtjcldnkgidfifaaBookI
import Derived.Deep.Slices
import Derived.Deep.Fields
namespace Go.Proofs.Ytjcldnkgidfifaa
open Go.ChangeShapes Go.WideShapes Go.ChangeAt Go.RowKit Go.Deep
set_option linter.unusedVariables false

theorem weightsAll_mem {H : Type} {P : Program} {e : TypeId} : ∀ {ds : List (DataW H)} {d : DataW H} {n : Nat}, d ∈ ds → n ∈ d.weights P e → n ∈ DataW.weightsAll P e ds := by
  intro ds
  induction ds with
  | nil => intro d n h; cases h
  | cons x xs ih =>
    intro d n h hn
    unfold DataW.weightsAll
    rcases List.mem_cons.1 h with rfl | h
    · exact List.mem_append_left _ hn
    · exact List.mem_append_right _ (ih h hn)
/-- No row and no text is longer than memory. -/
def Sized {H : Type} (P : Program) (t : TypeId) (d : DataW H) : Prop := ∀ n ∈ d.weights P t, n ≤ reachBytes
set_option maxRecDepth 100000 in
theorem ints_field {k : IntKind} {t e : TypeId} {H : Type} {enc : TypeId × Value → H} {W : World} {u : Value} {n : Nat} {y : DataW H × List MemPlace} (ht : Try.prog.underlying t = some (.slice e)) (he : Try.prog.underlying e = some (.int k)) (hc : Try.prog.cellsOf e = 1)
    (hf : DataW.trod enc Try.prog W 0 (fun _ => true) true n t [u] = some y) :
    ∃ ns, IntsN k W u ns ∧ (∀ n ∈ ns, (Lit.int k n).wf = true) ∧ (Sized Try.prog t y.1 → ns.length * Try.prog.bytesOf e ≤ reachBytes) := by
  rcases ChangeShapes.open_ints ht he hc hf with ⟨hcs, hx⟩ | ⟨a, len, cap, ss, hcs, _, hl, hm, hz, hx, hcell, hws⟩
  · injection hcs with h1 _
    subst h1
    exact ⟨[], ⟨⟨none, 0, rfl, Nat.le_refl _, Nat.zero_le _, .inl rfl⟩, fun l c e => by cases e; rfl⟩, by simp, fun _ => by simp⟩
  · injection hcs with h1 _
    subst h1
    simp only [if_true] at hz
    have hlen : (ss.take len).length = len := by simp; omega
    refine ⟨ss.take len, ⟨⟨some a, cap, by rw [hlen], by rw [hlen]; exact hl, hm, ?_⟩, fun l c e => by cases e⟩, ?_, fun hsz => ?_⟩
    · rcases Nat.eq_zero_or_pos len with h0 | h0
      · left; subst h0; simp
      · right
        obtain ⟨blk, off, spot⟩ := a
        have hc0 := hcell 0 (by omega)
        have hsp : spot = none := by
          unfold World.cell? at hc0
          split at hc0
          · cases spot with
            | none => rfl
            | some x => simp [Addr.add] at hc0
          · cases hc0
        subst hsp
        refine ⟨blk, off, rfl, World.block_lt_of_cell? W _ hc0, fun i hi => ?_⟩
        rw [hlen] at hi
        have hc := hcell i (by omega)
        rw [Addr.add_lit] at hc
        rw [hc, List.getElem?_take, if_pos hi]
        rfl
    · intro l hl'
      exact hws l (List.mem_of_mem_take hl')
    · rw [hx] at hsz
      have h9 := hsz _ (by unfold DataW.weights; rw [ht]; exact List.mem_cons_self ..)
      simp only [lits, List.length_map] at h9
      exact Nat.le_trans (Nat.mul_le_mul_right _ (Nat.le_add_right _ _)) h9
set_option maxRecDepth 100000 in
theorem strs_field {H : Type} {enc : TypeId × Value → H} {W : World} {u : Value} {n : Nat} {y : DataW H × List MemPlace} (hf : DataW.trod enc Try.prog W 0 (fun _ => true) true n 26 [u] = some y) :
    ∃ ls, StrsN W u ls ∧ (∀ l ∈ ls, l.length ≤ maxLen) ∧ (Sized Try.prog 26 y.1 → ls.length * 16 ≤ reachBytes ∧ ∀ l ∈ ls, l.length ≤ reachBytes) := by
  rcases open_strings Try.underlying26 Try.underlying9 (by kernel_rfl) hf with ⟨hcs, hx⟩ | ⟨a, len, cap, ss, hcs, _, hl, hm, hz, hx, hcell, hws⟩
  · injection hcs with h1 _
    subst h1
    exact ⟨[], ⟨⟨none, 0, rfl, Nat.le_refl _, Nat.zero_le _, .inl rfl⟩, fun l c e => by cases e; rfl⟩, by simp, fun _ => by simp⟩
  · injection hcs with h1 _
    subst h1
    simp only [if_true] at hz
    have hlen : ((ss.take len).map (·.data.toList)).length = len := by simp; omega
    refine ⟨(ss.take len).map (·.data.toList), ⟨⟨some a, cap, by rw [hlen], by rw [hlen]; exact hl, hm, ?_⟩, fun l c e => by cases e⟩, ?_, fun hsz => ?_⟩
    · rcases Nat.eq_zero_or_pos len with h0 | h0
      · left; subst h0; simp
      · right
        obtain ⟨blk, off, spot⟩ := a
        have hc0 := hcell 0 (by omega)
        have hsp : spot = none := by
          unfold World.cell? at hc0
          split at hc0
          · cases spot with
            | none => rfl
            | some x => simp [Addr.add] at hc0
          · cases hc0
        subst hsp
        refine ⟨blk, off, rfl, World.block_lt_of_cell? W _ hc0, fun i hi => ?_⟩
        rw [hlen] at hi
        have hc := hcell i (by omega)
        rw [Addr.add_lit] at hc
        rw [hc, List.getElem?_map, List.getElem?_take, if_pos hi, List.getElem?_eq_getElem (by omega), List.getD, List.getElem?_eq_getElem (by omega)]
        rfl
    · intro l hl'
      obtain ⟨s, hs, rfl⟩ := List.mem_map.1 hl'
      have h9 := hws s (List.mem_of_mem_take hs)
      rw [Array.length_toList]
      exact h9
    · rw [hx] at hsz
      have h9 := hsz _ (by unfold DataW.weights; rw [Try.underlying26]; exact List.mem_cons_self ..)
      have h16 : Try.prog.bytesOf 9 = 16 := by kernel_rfl
      rw [h16] at h9
      refine ⟨?_, fun l hl' => ?_⟩
      · simp only [strs, List.length_map] at h9
        rw [List.length_map]
        exact Nat.le_trans (Nat.mul_le_mul_right _ (Nat.le_add_right _ _)) h9
      · refine hsz _ ?_
        unfold DataW.weights
        rw [Try.underlying26]
        refine List.mem_cons_of_mem _ (List.mem_append_left _ ?_)
        obtain ⟨s, hs, rfl⟩ := List.mem_map.1 hl'
        refine weightsAll_mem (d := .lit (.string s.data.toList)) ?_ (by unfold DataW.weights; exact List.mem_singleton.2 rfl)
        unfold strs
        exact List.mem_map.2 ⟨s, hs, rfl⟩
/-- Something that is put, as it lies. -/
structure OpV where
  k : Int
  n : Int
  v : Int
  sv : Value
  lv : Value
  pv : Value
  S : List (List UInt8)
  L : List Int
  P : List Int
instance : Inhabited OpV := ⟨⟨0, 0, 0, .bool false, .bool false, .bool false, [], [], []⟩⟩
structure OpOk (W : World) (o : OpV) : Prop where
  k : (Lit.int .i64 o.k).wf = true
  n : (Lit.int .i64 o.n).wf = true
  v : (Lit.int .u64 o.v).wf = true
  s : StrsN W o.sv o.S
  sm : ∀ l ∈ o.S, l.length ≤ maxLen
  l : IntsN .i64 W o.lv o.L
  lm : ∀ n ∈ o.L, (Lit.int .i64 n).wf = true
  p : IntsN .u64 W o.pv o.P
  pm : ∀ n ∈ o.P, (Lit.int .u64 n).wf = true
  sz : o.S.length * 16 ≤ reachBytes ∧ (∀ l ∈ o.S, l.length ≤ reachBytes) ∧ o.L.length * 8 ≤ reachBytes ∧ o.P.length * 8 ≤ reachBytes
def opCells (o : OpV) : List Value := [.int .i64 o.k, .int .i64 o.n, .int .u64 o.v, o.sv, o.lv, o.pv]
/-- A list of them that came in. -/
def OpsIn (w : World) (v : Value) (os : List OpV) : Prop := ∃ (ao : Option Addr) (cap : Nat), v = .slice ao os.length cap ∧ os.length ≤ cap ∧ cap ≤ maxLen ∧ (∀ o ∈ os, OpOk w o) ∧ (os = [] ∨ ∃ b off, ao = some ⟨b, off, none⟩ ∧ b < w.heap.size ∧ ∀ i o, os[i]? = some o → ∀ j c, (opCells o)[j]? = some c → w.cell? ⟨b, off + i * 6 + j, none⟩ = some c)
theorem hone_at {P : Program} {t : TypeId} {fs : Array Field} (_ : P.underlying t = some (.struct fs)) (h : oneCellFields P fs = true) : ∀ (i : Nat) (f : Field), fs[i]? = some f → f.offset = i ∧ P.cellsOf f.type = 1 := fun i f hi => hone_of h i f hi
set_option maxRecDepth 100000 in
set_option maxHeartbeats 1000000 in
theorem ops_of_trod {H : Type} {enc : TypeId × Value → H} {W : World} {base : Nat} {v : Value} {d : DataW H} {p : List MemPlace} (hok : Value.okWide Try.prog W .any base 22 v) (h : DataW.Trod enc Try.prog W 0 (fun _ => true) true 22 v d p) (hsz : Sized Try.prog 22 d) : ∃ os, OpsIn W v os := by
  obtain ⟨a0, len, cap, rfl⟩ := okWide_slice Try.underlying22 hok
  obtain ⟨fuel, hf⟩ := h
  rcases open_slice Try.underlying22 hf with ⟨hcs, _⟩ | ⟨a, len', cap', m, n, D, Pl, hcs, _, hl, hm, hmm, hxd, hx⟩
  · simp [Value.cells] at hcs
    obtain ⟨rfl, rfl, rfl⟩ := hcs
    exact ⟨[], none, 0, rfl, Nat.le_refl _, Nat.zero_le _, by simp, .inl rfl⟩
  · simp [Value.cells] at hcs
    obtain ⟨rfl, rfl, rfl⟩ := hcs
    have hcell6 : Try.prog.cellsOf 30 = 6 := by kernel_rfl
    rw [hcell6] at hx
    have hmm2 : len ≤ m := by rw [hmm]; simp only [if_true]; exact hl
    have each : ∀ i, i < len → ∃ o : OpV, OpOk W o ∧ ∀ j c, (opCells o)[j]? = some c → W.cell? (a.add (i * 6 + j)) = some c := by
      intro i hi
      obtain ⟨cs', h1, h2⟩ := hx i (by omega)
      obtain ⟨_, hlen, hcell⟩ := World.cells?_some h1
      obtain ⟨xs, k, _, hxe, _, hxl, hff⟩ := DataW.trod_struct Try.underlying30 h2
      have hDi : D i = .agg (xs.map (·.1)) := congrArg Prod.fst hxe
      have hszi : Sized Try.prog 30 (D i) := fun n hn => hsz n (by
        have hd : d = .slice ((List.range len).map D) ((List.range (m - len)).map fun j => D (len + j)) := congrArg Prod.fst hxd
        rw [hd]
        unfold DataW.weights
        rw [Try.underlying22]
        exact List.mem_cons_of_mem _ (List.mem_append_left _ (weightsAll_mem (List.mem_map.2 ⟨i, List.mem_range.2 hi, rfl⟩) hn)))
      rw [hDi] at hszi
      have hone := hone_at Try.underlying30 (by kernel_rfl)
      have hxl6 : xs.length = 6 := hxl
      match xs, hxl6, cs', hlen, hff, hszi, hcell with
      | [y0, y1, y2, y3, y4, y5], _, [v0, v1, v2, v3, v4, v5], _, hff, hszi, hcell =>
        have g0 := hff 0 _ rfl
        have g1 := hff 1 _ rfl
        have g2 := hff 2 _ rfl
        have g3 := hff 3 _ rfl
        have g4 := hff 4 _ rfl
        have g5 := hff 5 _ rfl
        have t0 := hone 0 _ rfl
        have t1 := hone 1 _ rfl
        have t2 := hone 2 _ rfl
        have t3 := hone 3 _ rfl
        have t4 := hone 4 _ rfl
        have t5 := hone 5 _ rfl
        rw [t0.1, t0.2] at g0
        rw [t1.1, t1.2] at g1
        rw [t2.1, t2.2] at g2
        rw [t3.1, t3.2] at g3
        rw [t4.1, t4.2] at g4
        rw [t5.1, t5.2] at g5
        simp at g0 g1 g2 g3 g4 g5
        obtain ⟨c0, hc0, _, hw0⟩ := DataW.trod_int Try.underlying3 g0
        obtain ⟨c1, hc1, _, hw1⟩ := DataW.trod_int Try.underlying3 g1
        obtain ⟨c2, hc2, _, hw2⟩ := DataW.trod_int Try.underlying25 g2
        simp at hc0 hc1 hc2
        have hsz3 : Sized Try.prog 26 y3.1 := fun n hn => hszi n (by
          unfold DataW.weights; rw [Try.underlying30]; simp [DataW.weightsEach]; simp [hn])
        have hsz4 : Sized Try.prog 27 y4.1 := fun n hn => hszi n (by
          unfold DataW.weights; rw [Try.underlying30]; simp [DataW.weightsEach]; simp [hn])
        have hsz5 : Sized Try.prog 28 y5.1 := fun n hn => hszi n (by
          unfold DataW.weights; rw [Try.underlying30]; simp [DataW.weightsEach]; simp [hn])
        obtain ⟨S, hS, hSm, hSz⟩ := strs_field g3
        obtain ⟨L, hL, hLm, hLz⟩ := ints_field Try.underlying27 Try.underlying3 (by kernel_rfl) g4
        obtain ⟨P, hP, hPm, hPz⟩ := ints_field Try.underlying28 Try.underlying25 (by kernel_rfl) g5
        refine ⟨⟨c0, c1, c2, v3, v4, v5, S, L, P⟩, ⟨hw0, hw1, hw2, hS, hSm, hL, hLm, hP, hPm, ⟨(hSz hsz3).1, (hSz hsz3).2, hLz hsz4, hPz hsz5⟩⟩, fun j c hj => ?_⟩
        have hj6 : j < 6 := (List.getElem?_eq_some_iff.1 hj).1
        have e := hcell j (by omega)
        rw [add_add] at e
        rw [e]
        subst hc0 hc1 hc2
        exact hj
    obtain ⟨V, hV⟩ := choose_lt each
    have hlV : ((List.range len).map V).length = len := by simp
    refine ⟨(List.range len).map V, some a, cap, by rw [hlV], by rw [hlV]; exact hl, hm, ?_, ?_⟩
    · intro o ho
      obtain ⟨i, hi, rfl⟩ := List.mem_map.1 ho
      exact (hV i (List.mem_range.1 hi)).1
    · rcases Nat.eq_zero_or_pos len with h0 | h0
      · left; subst h0; rfl
      · right
        have c0 := (hV 0 h0).2 0 _ rfl
        obtain ⟨blk, off, spot⟩ := a
        have hsp : spot = none := by
          unfold World.cell? at c0
          split at c0
          · cases spot with
            | none => rfl
            | some x => simp [Addr.add] at c0
          · cases c0
        subst hsp
        refine ⟨blk, off, rfl, World.block_lt_of_cell? W _ c0, fun i o hi j c hj => ?_⟩
        have hil : i < len := by
          have := (List.getElem?_eq_some_iff.1 hi).1
          rwa [hlV] at this
        have hv : o = V i := by
          rw [List.getElem?_map, List.getElem?_range hil] at hi
          simpa using hi.symm
        subst hv
        have h9 := (hV i hil).2 j c hj
        rw [Addr.add_lit, ← Nat.add_assoc] at h9
        exact h9
end Go.Proofs.Ytjcldnkgidfifaa
