/-
  Pb09: BookI HeapE SortN SeqA (what is needed of them).
-/
import Derived.Test.YtieffhkfefimeaaGreatDoorPb01
import Derived.Test.YtieffhkfefimeaaGreatDoorPb08
import Derived.BigQuiet
import Derived.Deep.LoopGhost
import Derived.Deep.Cut
import Derived.BigRegion
import Derived.WalkKit
import Derived.ProofKit
import Derived.OpenShut
import Derived.Carry
import Derived.ChangeSlices
import Derived.Shelf.SlicesQ.Load
import Derived.Shelf.Sort.Plain
import Derived.Ground.Names2Prog
import Derived.Shelf.Slices.CompactI
import Derived.Shelf.Slices.In.SortNone
import Derived.Test.YtieffhkfefimeaaGreatDoorProg
import Derived.Deep.RegionHeld3

namespace Go.Proofs.YtieffhkfefimeaaGreatDoor
open Go.ChangeShapes Go.WideShapes Go.ChangeAt Go.RowKit
set_option linter.unusedVariables false
set_option linter.unusedSimpArgs false
/-- A list of ints in memory. -/
def IntsI (k : IntKind) (w : World) (v : Value) (ns : List Int) : Prop :=
  ∃ ao cap, v = .slice ao ns.length cap ∧ ns.length ≤ cap ∧ cap ≤ maxLen ∧ (ns = [] ∨ ∃ b off, ao = some ⟨b, off, none⟩ ∧ b < w.heap.size ∧ ∀ i, i < ns.length → w.cell? ⟨b, off + i, none⟩ = some (.int k (ns[i]?.getD 0)))
theorem IntsI.below {k : IntKind} {w w' : World} {v : Value} {ns : List Int} (h : IntsI k w v ns) (hb : Below w.heap.size w w') : IntsI k w' v ns := by
  obtain ⟨ao, cap, h1, h2, h3, h4⟩ := h
  refine ⟨ao, cap, h1, h2, h3, ?_⟩
  rcases h4 with h4 | ⟨b, off, h5, h6, h7⟩
  · exact .inl h4
  · exact .inr ⟨b, off, h5, Nat.lt_of_lt_of_le h6 hb.size, fun i hi => (hb.cell (p := ⟨b, off + i, none⟩) h6).trans (h7 i hi)⟩
/-- A list of ints that came in: a nil one has no room. -/
def IntsN (k : IntKind) (w : World) (v : Value) (ns : List Int) : Prop := IntsI k w v ns ∧ ∀ l c, v = .slice none l c → c = 0
theorem IntsN.below {k : IntKind} {w w' : World} {v : Value} {ns : List Int} (h : IntsN k w v ns) (hb : Below w.heap.size w w') : IntsN k w' v ns := ⟨h.1.below hb, h.2⟩
def ivals (k : IntKind) (ns : List Int) : List Value := ns.map fun n => .int k n
theorem ivals_length (k : IntKind) (ns : List Int) : (ivals k ns).length = ns.length := by simp [ivals]
theorem ivals_get {k : IntKind} {ns : List Int} {i : Nat} (hi : i < ns.length) : (ivals k ns)[i]? = some (.int k (ns[i]?.getD 0)) := by
  simp [ivals, List.getElem?_eq_getElem hi]
/-- What is owned is a list. -/
theorem ints_of_owns {k : IntKind} {B : Nat} {e : TypeId} {W : World} {v : Value} {ns : List Int} (h : Owns B e W v (ivals k ns)) : IntsN k W v ns := by
  rcases h.shape with ⟨e1, h1⟩ | ⟨g, cap, e1, h2, h3, h4, h5, h6, h7⟩
  · have hn : ns = [] := by cases ns <;> simp [ivals] at h1 ⊢
    subst hn
    exact ⟨⟨none, 0, e1, Nat.le_refl _, Nat.zero_le _, .inl rfl⟩, fun l c e => by rw [e1] at e; cases e; rfl⟩
  · rw [ivals_length] at h4 h6 e1
    exact ⟨⟨some ⟨g, 0, none⟩, cap, e1, h4, h5, .inr ⟨g, 0, rfl, h3, fun i hi => by rw [Nat.zero_add, h6 i hi, ivals_get hi]⟩⟩, fun l c e => by rw [e1] at e; cases e⟩
/-- A list of the call's own with a mark behind it. -/
structure LentI (k : IntKind) (mark : Int) (B : Nat) (W : World) (v : Value) (ns : List Int) : Prop where
  row : ∃ g cap, v = .slice (some ⟨g, 0, none⟩) ns.length cap ∧ B ≤ g ∧ g < W.heap.size ∧ ns.length + 1 ≤ cap ∧ cap ≤ maxLen ∧ (∀ i, i < ns.length → W.cell? ⟨g, i, none⟩ = some (.int k (ns[i]?.getD 0))) ∧ W.cell? ⟨g, ns.length, none⟩ = some (.int k mark)
theorem LentI.below {k : IntKind} {mark : Int} {B : Nat} {w w' : World} {v : Value} {ns : List Int} (h : LentI k mark B w v ns) (hb : Below w.heap.size w w') : LentI k mark B w' v ns := by
  obtain ⟨g, cap, h1, h2, h3, h4, h5, h6, h7⟩ := h.row
  exact ⟨g, cap, h1, h2, Nat.lt_of_lt_of_le h3 hb.size, h4, h5, fun i hi => (hb.cell (p := ⟨g, i, none⟩) h3).trans (h6 i hi), (hb.cell (p := ⟨g, ns.length, none⟩) h3).trans h7⟩
theorem LentI.ints {k : IntKind} {mark : Int} {B : Nat} {w : World} {v : Value} {ns : List Int} (h : LentI k mark B w v ns) : IntsI k w v ns := by
  obtain ⟨g, cap, h1, h2, h3, h4, h5, h6, h7⟩ := h.row
  exact ⟨some ⟨g, 0, none⟩, cap, h1, by omega, h5, .inr ⟨g, 0, rfl, h3, fun i hi => by rw [Nat.zero_add]; exact h6 i hi⟩⟩
set_option maxRecDepth 100000 in
/-- What the reader says of an argument that is such a list. -/
theorem ints_of_trodK {k : IntKind} {t e : TypeId} {H : Type} {enc : TypeId × Value → H} {W : World} {base : Nat} {v : Value} {d : DataW H} {p : List MemPlace} (ht : Tryz.prog.underlying t = some (.slice e)) (he : Tryz.prog.underlying e = some (.int k)) (hc : Tryz.prog.cellsOf e = 1)
    (hok : Value.okWide Tryz.prog W .any base t v) (h : DataW.Trod enc Tryz.prog W 0 (fun _ => true) true t v d p) :
    ∃ ns, IntsN k W v ns ∧ ∀ n ∈ ns, (Lit.int k n).wf = true := by
  obtain ⟨a0, len, cap, rfl⟩ := okWide_slice ht hok
  obtain ⟨fuel, hf⟩ := h
  rcases ChangeShapes.open_ints ht he hc hf with ⟨hcs, hx⟩ | ⟨a, len', cap', ss, hcs, _, hl, hm, hz, hx, hcell, hws⟩
  · simp [Value.cells] at hcs
    obtain ⟨rfl, rfl, rfl⟩ := hcs
    exact ⟨[], ⟨⟨none, 0, rfl, Nat.le_refl _, Nat.zero_le _, .inl rfl⟩, fun l c e => by cases e; rfl⟩, by simp⟩
  · simp [Value.cells] at hcs
    obtain ⟨rfl, rfl, rfl⟩ := hcs
    simp only [if_true] at hz
    have hlen : (ss.take len).length = len := by simp; omega
    refine ⟨ss.take len, ⟨⟨some a, cap, by rw [hlen], by rw [hlen]; exact hl, hm, ?_⟩, fun l c e => by cases e⟩, ?_⟩
    · rcases Nat.eq_zero_or_pos len with h0 | h0
      · left; subst h0; simp
      · right
        obtain ⟨blk, off, spot⟩ := a
        have hc0 := hcell 0 (by omega)
        have hsp : spot = none := by
          unfold World.cell? at hc0
          split at hc0
          · cases spot with
            | none => rfl
            | some x => simp [Addr.add] at hc0
          · cases hc0
        subst hsp
        refine ⟨blk, off, rfl, World.block_lt_of_cell? W _ hc0, fun i hi => ?_⟩
        rw [hlen] at hi
        have hc := hcell i (by omega)
        rw [Addr.add_lit] at hc
        rw [hc, List.getElem?_take, if_pos hi]
        rfl
    · intro l hl'
      exact hws l (List.mem_of_mem_take hl')
theorem E_ints : Elem Tryz.prog 41 3 (.int .i64 0) 8 := elem_of Tryz.underlying41 (by kernel_rfl) rfl
set_option maxRecDepth 100000 in
theorem pats_of_trod {H : Type} {enc : TypeId × Value → H} {W : World} {base : Nat} {v : Value} {d : DataW H} {p : List MemPlace} (hok : Value.okWide Tryz.prog W .any base 29 v) (h : DataW.Trod enc Tryz.prog W 0 (fun _ => true) true 29 v d p) :
    ∃ ns, IntsN .u64 W v ns ∧ ∀ n ∈ ns, (Lit.int .u64 n).wf = true := ints_of_trodK Tryz.underlying29 Tryz.underlying22 (by kernel_rfl) hok h
end Go.Proofs.YtieffhkfefimeaaGreatDoor

namespace Go.Proofs.YtieffhkfefimeaaGreatDoor
open Go.RowKit
set_option linter.unusedVariables false
set_option linter.unusedSimpArgs false
/-- The cells of a row of structs of k cells. -/
def RowC {α : Type} (k : Nat) (enc : α → List Value) (w : World) (ao : Option Addr) (xs : List α) : Prop :=
  xs = [] ∨ ∃ b off, ao = some ⟨b, off, none⟩ ∧ b < w.heap.size ∧ ∀ i x, xs[i]? = some x → ∀ j c, (enc x)[j]? = some c → w.cell? ⟨b, off + i * k + j, none⟩ = some c
theorem RowC.below {α : Type} {k B : Nat} {enc : α → List Value} {w w' : World} {ao : Option Addr} {xs : List α} (h : RowC k enc w ao xs) (hb : Below w.heap.size w w') : RowC k enc w' ao xs := by
  rcases h with h | ⟨b, off, h1, h2, h3⟩
  · exact .inl h
  · exact .inr ⟨b, off, h1, Nat.lt_of_lt_of_le h2 hb.size, fun i x hi j c hj => (hb.cell (p := ⟨b, off + i * k + j, none⟩) h2).trans (h3 i x hi j c hj)⟩
def enC (n : EN) : List Value := [.int .i64 n.tree, .int .i64 n.node, .int .i64 n.feat, .int .i64 n.mode, .int .u64 (n.val : Int), .int .i64 n.tru, .int .i64 n.fls, .bool n.trk]
def elC (l : EL) : List Value := [.int .i64 l.tree, .int .i64 l.node, .int .i64 l.tgt, .int .u64 (l.wt : Int)]
theorem enC_len (x : EN) : (enC x).length = 8 := rfl
theorem elC_len (x : EL) : (elC x).length = 4 := rfl
/-- Is a number an int? -/
def IW (x : Int) : Prop := (Lit.int .i64 x).wf = true
structure ENW (n : EN) : Prop where
  v : n.val < 18446744073709551616
  tree : IW n.tree
  node : IW n.node
  feat : IW n.feat
  mode : IW n.mode
  tru : IW n.tru
  fls : IW n.fls
structure ELW (l : EL) : Prop where
  v : l.wt < 18446744073709551616
  tree : IW l.tree
  node : IW l.node
  tgt : IW l.tgt
/-- An ensemble's value, and what it says in memory. -/
structure EnsIs (w : World) (v : Value) (e : EE) (bo : Option Addr) (bc : Nat) (no : Option Addr) (nc : Nat) (lo : Option Addr) (lc : Nat) : Prop where
  val : v = .agg #[.int .i64 e.feats, .int .i64 e.tgts, .string ⟨e.agg.toArray⟩, .string ⟨e.post.toArray⟩, .slice bo e.base.length bc, .slice no e.nodes.length nc, .slice lo e.leaves.length lc]
  base : Cells .u64 w bo e.base
  nodes : RowC 8 enC w no e.nodes
  leaves : RowC 4 elC w lo e.leaves
  bl : e.base.length ≤ maxLen
  nl : e.nodes.length ≤ maxLen
  ll : e.leaves.length ≤ maxLen
  bv : ∀ b ∈ e.base, b < 18446744073709551616
  nv : ∀ n ∈ e.nodes, ENW n
  lv : ∀ l ∈ e.leaves, ELW l
theorem EnsIs.below {w w' : World} {v : Value} {e : EE} {bo no lo : Option Addr} {bc nc lc : Nat} (h : EnsIs w v e bo bc no nc lo lc) (hb : Below w.heap.size w w') : EnsIs w' v e bo bc no nc lo lc :=
  ⟨h.val, h.base.below hb, h.nodes.below (B := 0) hb, h.leaves.below (B := 0) hb, h.bl, h.nl, h.ll, h.bv, h.nv, h.lv⟩
theorem BoxL.of8 {w : World} {b : Nat} {x0 x1 x2 x3 x4 x5 x6 x7 : Value} (c0 : w.cell? ⟨b, 0, none⟩ = some x0) (c1 : w.cell? ⟨b, 1, none⟩ = some x1) (c2 : w.cell? ⟨b, 2, none⟩ = some x2) (c3 : w.cell? ⟨b, 3, none⟩ = some x3) (c4 : w.cell? ⟨b, 4, none⟩ = some x4) (c5 : w.cell? ⟨b, 5, none⟩ = some x5) (c6 : w.cell? ⟨b, 6, none⟩ = some x6) (c7 : w.cell? ⟨b, 7, none⟩ = some x7) (f0 : w.frozen? ⟨b, 0, none⟩ = false) (f1 : w.frozen? ⟨b, 1, none⟩ = false) (f2 : w.frozen? ⟨b, 2, none⟩ = false) (f3 : w.frozen? ⟨b, 3, none⟩ = false) (f4 : w.frozen? ⟨b, 4, none⟩ = false) (f5 : w.frozen? ⟨b, 5, none⟩ = false) (f6 : w.frozen? ⟨b, 6, none⟩ = false) (f7 : w.frozen? ⟨b, 7, none⟩ = false) : BoxL w b [x0, x1, x2, x3, x4, x5, x6, x7] := by
  refine ⟨fun i x hi => ?_, fun i hi => ?_, World.block_lt_of_cell? w ⟨b, 0, none⟩ c0⟩
  · match i, hi with
    | 0, hi => simp at hi; subst hi; exact c0
    | 1, hi => simp at hi; subst hi; exact c1
    | 2, hi => simp at hi; subst hi; exact c2
    | 3, hi => simp at hi; subst hi; exact c3
    | 4, hi => simp at hi; subst hi; exact c4
    | 5, hi => simp at hi; subst hi; exact c5
    | 6, hi => simp at hi; subst hi; exact c6
    | 7, hi => simp at hi; subst hi; exact c7
  · match i, hi with
    | 0, hi => exact f0
    | 1, hi => exact f1
    | 2, hi => exact f2
    | 3, hi => exact f3
    | 4, hi => exact f4
    | 5, hi => exact f5
    | 6, hi => exact f6
    | 7, hi => exact f7
/-- A function value that answers p of these, and leaves what was. -/
def PredOn {α : Type} (P : Program) (g : Nat) (lb : Array Value) (enc : α → Value) (p : α → Bool) (w : World) (zs : List α) : Prop :=
  ∀ (W : World) (x : α), x ∈ zs → Below w.heap.size w W → Calls P g (#[enc x] ++ lb) W fun e w' => e = .returned (.bool (p x)) ∧ Below W.heap.size W w'
theorem RowC.get {α : Type} {k : Nat} {enc : α → List Value} {w : World} {b off : Nat} {xs : List α} (h : RowC k enc w (some ⟨b, off, none⟩) xs) {i : Nat} (hi : i < xs.length) :
    b < w.heap.size ∧ ∀ j c, (enc xs[i])[j]? = some c → w.cell? ⟨b, off + i * k + j, none⟩ = some c := by
  rcases h with rfl | ⟨b', off', e, h2, h3⟩
  · simp at hi
  · cases e
    exact ⟨h2, fun j c hj => h3 i _ (List.getElem?_eq_getElem hi) j c hj⟩
theorem RowC.addr {α : Type} {k : Nat} {enc : α → List Value} {w : World} {ao : Option Addr} {xs : List α} (h : RowC k enc w ao xs) {i : Nat} (hi : i < xs.length) : ∃ b off, ao = some ⟨b, off, none⟩ := by
  rcases h with rfl | ⟨b', off', e, h2, h3⟩
  · simp at hi
  · exact ⟨_, _, e⟩
/-- The cells of a node in its row. -/
theorem RowC.c8 {w W : World} {b off : Nat} {xs : List EN} (h : RowC 8 enC w (some ⟨b, off, none⟩) xs) (hb : Below w.heap.size w W) {i : Nat} (hi : i < xs.length) (y : EN) (hy : xs[i] = y) :
    W.cell? ⟨b, off + i * 8, none⟩ = some (.int .i64 y.tree) ∧ W.cell? ⟨b, off + i * 8 + 1, none⟩ = some (.int .i64 y.node) ∧ W.cell? ⟨b, off + i * 8 + 2, none⟩ = some (.int .i64 y.feat) ∧ W.cell? ⟨b, off + i * 8 + 3, none⟩ = some (.int .i64 y.mode) ∧ W.cell? ⟨b, off + i * 8 + 4, none⟩ = some (.int .u64 (y.val : Int)) ∧ W.cell? ⟨b, off + i * 8 + 5, none⟩ = some (.int .i64 y.tru) ∧ W.cell? ⟨b, off + i * 8 + 6, none⟩ = some (.int .i64 y.fls) ∧ W.cell? ⟨b, off + i * 8 + 7, none⟩ = some (.bool y.trk) := by
  obtain ⟨h1, h2⟩ := h.get hi
  rw [hy] at h2
  have h3 : ∀ j c, (enC y)[j]? = some c → W.cell? ⟨b, off + i * 8 + j, none⟩ = some c := fun j c hj => (hb.cell (p := ⟨b, off + i * 8 + j, none⟩) h1).trans (h2 j c hj)
  exact ⟨h3 0 _ rfl, h3 1 _ rfl, h3 2 _ rfl, h3 3 _ rfl, h3 4 _ rfl, h3 5 _ rfl, h3 6 _ rfl, h3 7 _ rfl⟩
theorem RowC.c4 {w W : World} {b off : Nat} {xs : List EL} (h : RowC 4 elC w (some ⟨b, off, none⟩) xs) (hb : Below w.heap.size w W) {i : Nat} (hi : i < xs.length) (y : EL) (hy : xs[i] = y) :
    W.cell? ⟨b, off + i * 4, none⟩ = some (.int .i64 y.tree) ∧ W.cell? ⟨b, off + i * 4 + 1, none⟩ = some (.int .i64 y.node) ∧ W.cell? ⟨b, off + i * 4 + 2, none⟩ = some (.int .i64 y.tgt) ∧ W.cell? ⟨b, off + i * 4 + 3, none⟩ = some (.int .u64 (y.wt : Int)) := by
  obtain ⟨h1, h2⟩ := h.get hi
  rw [hy] at h2
  have h3 : ∀ j c, (elC y)[j]? = some c → W.cell? ⟨b, off + i * 4 + j, none⟩ = some c := fun j c hj => (hb.cell (p := ⟨b, off + i * 4 + j, none⟩) h1).trans (h2 j c hj)
  exact ⟨h3 0 _ rfl, h3 1 _ rfl, h3 2 _ rfl, h3 3 _ rfl⟩
end Go.Proofs.YtieffhkfefimeaaGreatDoor

namespace Go.Proofs
open Go.Shelf
def Tryz.lays189_ren : Go.Shelf.Ren := ⟨fun | 189 => 107 | 125 => 154 | 257 => 153 | 128 => 185 | 129 => 186 | 294 => 176 | 295 => 177 | 296 => 178 | 297 => 179 | 298 => 180 | 299 => 181 | 216 => 182 | 300 => 183 | 301 => 184 | 328 => 193 | 329 => 194 | 330 => 195 | 331 => 196 | 332 => 197 | 215 => 198 | 343 => 204 | n => n, fun | 28 => 41 | 3 => 3 | 46 => 27 | 0 => 0 | 51 => 196 | 53 => 22 | 4 => 4 | 183 => 212 | 182 => 211 | 131 => 71 | 5 => 5 | 9 => 9 | 218 => 228 | 222 => 231 | 228 => 239 | 229 => 92 | n => n, fun | n => n⟩
theorem Tryz.lays189 : Go.Proofs.Lays.n189 Tryz.prog Tryz.lays189_ren := {
  mixed := by kernel_rfl
  f125 := Tryz.func154.trans (congrArg some (by kernel_rfl))
  f128 := Tryz.func185.trans (congrArg some (by kernel_rfl))
  f129 := Tryz.func186.trans (congrArg some (by kernel_rfl))
  f189 := Tryz.func107.trans (congrArg some (by kernel_rfl))
  f215 := Tryz.func198.trans (congrArg some (by kernel_rfl))
  f216 := Tryz.func182.trans (congrArg some (by kernel_rfl))
  f257 := Tryz.func153.trans (congrArg some (by kernel_rfl))
  f294 := Tryz.func176.trans (congrArg some (by kernel_rfl))
  f295 := Tryz.func177.trans (congrArg some (by kernel_rfl))
  f296 := Tryz.func178.trans (congrArg some (by kernel_rfl))
  f297 := Tryz.func179.trans (congrArg some (by kernel_rfl))
  f298 := Tryz.func180.trans (congrArg some (by kernel_rfl))
  f299 := Tryz.func181.trans (congrArg some (by kernel_rfl))
  f300 := Tryz.func183.trans (congrArg some (by kernel_rfl))
  f301 := Tryz.func184.trans (congrArg some (by kernel_rfl))
  f328 := Tryz.func193.trans (congrArg some (by kernel_rfl))
  f329 := Tryz.func194.trans (congrArg some (by kernel_rfl))
  f330 := Tryz.func195.trans (congrArg some (by kernel_rfl))
  f331 := Tryz.func196.trans (congrArg some (by kernel_rfl))
  f332 := Tryz.func197.trans (congrArg some (by kernel_rfl))
  f343 := Tryz.func204.trans (congrArg some (by kernel_rfl))
  t0 := Tryz.underlying0
  a0 := Tryz.isAgg0
  z0 := Tryz.sizeOf0
  v0 := Tryz.zeroValue0
  t3 := Tryz.underlying3
  a3 := Tryz.isAgg3
  z3 := Tryz.sizeOf3
  v3 := Tryz.zeroValue3
  t4 := Tryz.underlying4
  a4 := Tryz.isAgg4
  z4 := Tryz.sizeOf4
  v4 := Tryz.zeroValue4
  t5 := Tryz.underlying5
  a5 := Tryz.isAgg5
  z5 := Tryz.sizeOf5
  v5 := Tryz.zeroValue5
  t9 := Tryz.underlying9
  a9 := Tryz.isAgg9
  z9 := Tryz.sizeOf9
  v9 := Tryz.zeroValue9
  t28 := Tryz.underlying41
  a28 := Tryz.isAgg41
  z28 := Tryz.sizeOf41
  v28 := Tryz.zeroValue41
  t46 := Tryz.underlying27
  a46 := Tryz.isAgg27
  z46 := Tryz.sizeOf27
  v46 := Tryz.zeroValue27
  t51 := Tryz.underlying196
  a51 := Tryz.isAgg196
  z51 := Tryz.sizeOf196
  v51 := Tryz.zeroValue196
  t53 := Tryz.underlying22
  a53 := Tryz.isAgg22
  z53 := Tryz.sizeOf22
  v53 := Tryz.zeroValue22
  t131 := Tryz.underlying71
  a131 := Tryz.isAgg71
  z131 := Tryz.sizeOf71
  v131 := Tryz.zeroValue71
  t182 := Tryz.underlying211
  a182 := Tryz.isAgg211
  z182 := Tryz.sizeOf211
  v182 := Tryz.zeroValue211
  t183 := Tryz.underlying212
  a183 := Tryz.isAgg212
  z183 := Tryz.sizeOf212
  v183 := Tryz.zeroValue212
  t218 := Tryz.underlying228
  a218 := Tryz.isAgg228
  z218 := Tryz.sizeOf228
  v218 := Tryz.zeroValue228
  t222 := Tryz.underlying231
  a222 := Tryz.isAgg231
  z222 := Tryz.sizeOf231
  v222 := Tryz.zeroValue231
  t228 := Tryz.underlying239
  a228 := Tryz.isAgg239
  z228 := Tryz.sizeOf239
  v228 := Tryz.zeroValue239
  t229 := Tryz.underlying92
  a229 := Tryz.isAgg92
  z229 := Tryz.sizeOf92
  v229 := Tryz.zeroValue92 }
open Go.Sort Go.RowKit in
theorem Tryz.slices_Sort_int (blk off cap : Nat) (zs : List Int) (w : World) (hH : Holds (Value.int .i64) w blk off zs.toArray) (hblk : blk < w.heap.size) (hsz : zs.length < 4611686018427387904) :
    Calls Tryz.prog 107 #[.slice (some ⟨blk, off, none⟩) zs.length cap] w fun e w' =>
      e = .returned (.tuple #[]) ∧ ∃ n os, w' = grow (putRow (Value.int .i64) (Sort.ahead w n) blk off (zs.mergeSort fun x y => decide (x ≤ y)).toArray) os := Any.slices_Sort_int Tryz.lays189 blk off cap zs w hH hblk hsz
def Tryz.laysNm220_ren : Go.Shelf.Ren := ⟨fun | 20 => 108 | n => n, fun | 22 => 41 | 3 => 3 | 4 => 4 | 0 => 0 | n => n, fun | n => n⟩
theorem Tryz.laysNm220 : Go.Proofs.Lays2.n20 Tryz.prog Tryz.laysNm220_ren := {
  mixed := by kernel_rfl
  f20 := Tryz.func108.trans (congrArg some (by kernel_rfl))
  t0 := Tryz.underlying0
  a0 := Tryz.isAgg0
  z0 := Tryz.sizeOf0
  v0 := Tryz.zeroValue0
  t3 := Tryz.underlying3
  a3 := Tryz.isAgg3
  z3 := Tryz.sizeOf3
  v3 := Tryz.zeroValue3
  t4 := Tryz.underlying4
  a4 := Tryz.isAgg4
  z4 := Tryz.sizeOf4
  v4 := Tryz.zeroValue4
  t22 := Tryz.underlying41
  a22 := Tryz.isAgg41
  z22 := Tryz.sizeOf41
  v22 := Tryz.zeroValue41
  i3 := by kernel_rfl }
open Go.RowKit Go.Lib Go.Sort in
/-- slices.Compact at []int, over an array: the library's two loops are walked. (LAID: no walk: one application.) -/
theorem Tryz.slices_Compact_int_arr (blk off cap : Nat) (d : Array Int) (w : World) (hH : Holds encI w blk off d) (hsz : d.size ≤ 9223372036854775807) (hcap : d.size ≤ cap) :
    Calls Tryz.prog 108 #[.slice (some ⟨blk, off, none⟩) d.size cap] w fun e w' => e = .returned (.slice (some ⟨blk, off, none⟩) (compactUpTo d d.size).length cap) ∧ ∃ q, w' = putRow encI (Sort.ahead w q) blk off (compactUpTo d d.size ++ List.replicate (d.size - (compactUpTo d d.size).length) 0).toArray := Any.slices_Compact_int_arr Tryz.laysNm220 blk off cap d w hH hsz hcap
open Go.RowKit Go.Lib Go.Sort in
/-- slices.Compact at []int: "Compact replaces consecutive runs of equal elements with a single copy. This is like the uniq command found on Unix. Compact modifies the contents of the slice s and returns the modified slice, which may have a smaller length. Compact zeroes the elements between the new length and the original length. The result preserves the nilness of s.": IT RETURNS THE SLICE CUT TO 'Lib.compact zs'; ITS CELLS HOLD 'Lib.compact zs', THEN ZERO VALUES up to the old length; all else is as it was, but for the count of draws. IN THE WORDS OF slices.Sort's CONTRACT ('Holds', 'putRow'): so the everyday 'slices.Sort(xs); xs = slices.Compact(xs)' goes from the one contract to the other. It asks 'zs.length ≤ cap' (every slice's: the reslicing 's[:k]' looks at it). Length 0, nil: '.._empty'. (LAID: no walk: one application.) -/
theorem Tryz.slices_Compact_int (blk off cap : Nat) (zs : List Int) (w : World) (hH : Holds (Value.int .i64) w blk off zs.toArray) (hsz : zs.length ≤ 9223372036854775807) (hcap : zs.length ≤ cap) :
    Calls Tryz.prog 108 #[.slice (some ⟨blk, off, none⟩) zs.length cap] w fun e w' => e = .returned (.slice (some ⟨blk, off, none⟩) (Lib.compact zs).length cap) ∧ ∃ q, w' = putRow (Value.int .i64) (Sort.ahead w q) blk off (Lib.compact zs ++ List.replicate (zs.length - (Lib.compact zs).length) 0).toArray := Any.slices_Compact_int Tryz.laysNm220 blk off cap zs w hH hsz hcap
open Go.RowKit Go.Lib Go.Sort in
/-- The same at a slice of length 0, a nil one too: it comes back as it is. (LAID: no walk: one application.) -/
theorem Tryz.slices_Compact_int_empty (a : Option Addr) (cap : Nat) (w : World) :
    Calls Tryz.prog 108 #[.slice a 0 cap] w fun e w' => e = .returned (.slice a 0 cap) ∧ w' = w := Any.slices_Compact_int_empty Tryz.laysNm220 a cap w
open Go.RowKit Go.Sort in
/-- .. and plain. (LAID: no walk: one application.) -/
theorem Tryz.slices_Sort_int_none (p : Option Addr) (cap : Nat) (w : World) :
    Calls Tryz.prog 107 #[.slice p 0 cap] w fun e w' => e = .returned (.tuple #[]) ∧ w' = w := Any.slices_Sort_int_none Tryz.lays189 p cap w
end Go.Proofs

namespace Go.Proofs.YtieffhkfefimeaaGreatDoor
open Go.RowKit
set_option linter.unusedVariables false
section
variable {P : Program} {ops : Array Oper} {Q : Exit → Act → World → Prop} {S : World → Prop}
/-- The walk in one order. -/
def wpSeqH (P : Program) (ops : Array Oper) (Q : Exit → Act → World → Prop) (S : World → Prop) : List (Bool × Oper) → Act → World → Prop
  | [], a, w => Q .normal a w
  | (true, o) :: rest, a, w => ∃ v, YieldsIf P ops S o v a ∧ wpSeqH P ops Q S rest (a.put o.dst v) w
  | (false, o) :: rest, a, w => ∀ K : Act → World → Prop, Shut (∀ a w, S w → (S w → wpSeqH P ops Q S rest a w) → K a w) →
      if Region.wanted o (yielded ops a.tmps) = true then Oper.wp P o a w K Q else K (a.put o.dst undef) w
/-- Is the order one that the region allows? -/
def seqOk (ops : Array Oper) : List (Bool × Nat) → Array Bool → Bool
  | [], listed => (Region.ready .any ops listed).isEmpty
  | (true, i) :: r, listed => Region.free .any ops listed i && (Region.ready .any ops listed).contains i && seqOk ops r (listed.setIfInBounds i true)
  | (false, i) :: r, listed => (Region.ready .any ops listed == [i]) && seqOk ops r (listed.setIfInBounds i true)
def pickOps (ops : Array Oper) : List (Bool × Nat) → List (Bool × Oper)
  | [] => []
  | (b, i) :: r => match ops[i]? with
    | some o => (b, o) :: pickOps ops r
    | none => pickOps ops r
theorem wpAnyH_of_seq (hs : Region.noSelect ops = true) (hQ : ∀ d v c a w, Q (.panic c) (a.put d v) w → Q (.panic c) a w) :
    ∀ (l : List (Bool × Nat)) (listed : Array Bool) (a : Act) (w : World), seqOk ops l listed = true → (l.all fun x => decide (x.2 < ops.size)) = true → S w → wpSeqH P ops Q S (pickOps ops l) a w → wpAnyH P .any ops Q S l.length listed a w
  | [], listed, a, w, hk, _, _, h => by
    simp only [seqOk, List.isEmpty_iff] at hk
    exact ⟨hk, h⟩
  | (b, i) :: r, listed, a, w, hk, hlt, hS, h => by
    simp only [List.all_cons, Bool.and_eq_true, decide_eq_true_eq] at hlt
    have hi : ops[i]? = some ops[i] := Array.getElem?_eq_getElem hlt.1
    simp only [pickOps, hi] at h
    cases b with
    | true =>
      simp only [seqOk, Bool.and_eq_true] at hk
      obtain ⟨v, hy, h⟩ := h
      exact wpAnyH_take hi hs hk.1.1 hk.1.2 (fun c a w => hQ _ _ c a w) hy hS (wpAnyH_of_seq hs hQ r _ _ _ hk.2 hlt.2 hS h)
    | false =>
      simp only [seqOk, Bool.and_eq_true, beq_iff_eq] at hk
      refine wpAnyH_ready hk.1 (by simp) (AllReadyH.cons hi (fun K hK => ?_) AllReadyH.nil)
      exact h K (fun a' w' hS' hw => hK.out a' w' hS' fun hS'' => wpAnyH_of_seq hs hQ r _ _ _ hk.2 hlt.2 hS'' (hw hS''))
theorem wp_region_seq {id : Nat} {a : Act} {w : World} (l : List (Bool × Nat)) (hm : P.follows .mixedOrders = true) (hs : Region.noSelect ops = true) (hl : l.length = ops.size) (hlt : (l.all fun x => decide (x.2 < ops.size)) = true)
    (hk : seqOk ops l (Array.replicate ops.size false) = true) (hQ : ∀ d v c a w, Q (.panic c) (a.put d v) w → Q (.panic c) a w) (hS : S w.drew)
    (h : S w.drew → wpSeqH P ops Q S (pickOps ops l) a w.drew) : (Code.region id ops true).wp P Q a w := by
  refine wp_region_held_drew hm hS fun hS' => ?_
  have := wpAnyH_of_seq (P := P) (Q := Q) (S := S) hs hQ l _ _ _ hk hlt hS' (h hS')
  rwa [hl] at this
theorem seq_take {o : Oper} {rest : List (Bool × Oper)} {a : Act} {w : World} {v : Value} (hw : Region.wanted o (yielded ops a.tmps) = true) (hy : ∀ w, S w → (execOp a.eval o).run P w = .ok (.value v) w)
    (h : wpSeqH P ops Q S rest (a.put o.dst v) w) : wpSeqH P ops Q S ((true, o) :: rest) a w := ⟨v, .inl ⟨hw, hy⟩, h⟩
theorem seq_leave {o : Oper} {rest : List (Bool × Oper)} {a : Act} {w : World} (hw : Region.wanted o (yielded ops a.tmps) = false)
    (h : wpSeqH P ops Q S rest (a.put o.dst undef) w) : wpSeqH P ops Q S ((true, o) :: rest) a w := ⟨undef, .inr ⟨hw, rfl⟩, h⟩
theorem seq_step {o : Oper} {rest : List (Bool × Oper)} {a : Act} {w : World} (hw : Region.wanted o (yielded ops a.tmps) = true)
    (h : ∀ K : Act → World → Prop, Shut (∀ a w, S w → (S w → wpSeqH P ops Q S rest a w) → K a w) → Oper.wp P o a w K Q) : wpSeqH P ops Q S ((false, o) :: rest) a w := fun K hK => by
  rw [if_pos hw]; exact h K hK
theorem seq_pass {o : Oper} {rest : List (Bool × Oper)} {a : Act} {w : World} (hw : Region.wanted o (yielded ops a.tmps) = false) (hS : S w)
    (h : wpSeqH P ops Q S rest (a.put o.dst undef) w) : wpSeqH P ops Q S ((false, o) :: rest) a w := fun K hK => by
  rw [if_neg (by rw [hw]; simp)]; exact hK.out _ _ hS fun _ => h
theorem seq_end {a : Act} {w : World} (h : Q .normal a w) : wpSeqH P ops Q S [] a w := h
end
end Go.Proofs.YtieffhkfefimeaaGreatDoor
