/-
  Pc08: MathSp HeapK HeapL HeapM HeapO BookI HeapE (what is needed of them).
-/
import Derived.Test.YtieffhkfefimeaaGreatDoorPc01
import Derived.Test.YtieffhkfefimeaaGreatDoorPc07
import Derived.BigQuiet
import Derived.Deep.LoopGhost
import Derived.Deep.Cut
import Derived.BigRegion
import Derived.WalkKit
import Derived.ProofKit
import Derived.OpenShut
import Derived.Carry
import Derived.ChangeSlices
import Derived.Shelf.SlicesQ.Load
set_option maxRecDepth 100000
set_option linter.unusedVariables false
set_option linter.unusedSimpArgs false

namespace Go.Proofs.YtieffhkfefimeaaGreatDoor
open Go.RowKit


structure CheckOk (e : EE) : Prop where
 size : sizeE e = true
 agg : e.agg ∈ aggW
 post : e.post ∈ postW
 base : baseE e = true
 nums : numsE e.nodes = true
 mode : everyE e.nodes true (fun n => decide (1 ≤ n.mode ∧ n.mode ≤ 7)) = true
 feat : everyE e.nodes false (fun n => decide (0 ≤ n.feat ∧ n.feat < e.feats)) = true
 val : everyE e.nodes false (fun n => finP n.val) = true
 val2 : everyE e.nodes true (fun n => decide (n.val < 4294967296)) = true
 kid : kidE e.nodes = true
 forest : forestE e.nodes = true
 leaf : leafE e = true
 weight : e.leaves.any (fun l => !finP l.wt) = false
theorem checkE_1 {f : EE}  (hb : sizeE f = false) : checkE f = 1 := by
 unfold checkE
 rw [if_pos hb]
theorem checkE_2 {f : EE} (h1 : sizeE f = true) (hb : f.agg ∉ aggW) : checkE f = 2 := by
 unfold checkE
 rw [if_neg (by rw [h1]; simp), if_pos hb]
theorem checkE_3 {f : EE} (h1 : sizeE f = true) (h2 : f.agg ∈ aggW) (hb : f.post ∉ postW) : checkE f = 3 := by
 unfold checkE
 rw [if_neg (by rw [h1]; simp), if_neg (by exact fun h => h h2), if_pos hb]
theorem checkE_4 {f : EE} (h1 : sizeE f = true) (h2 : f.agg ∈ aggW) (h3 : f.post ∈ postW) (hb : baseE f = false) : checkE f = 4 := by
 unfold checkE
 rw [if_neg (by rw [h1]; simp), if_neg (by exact fun h => h h2), if_neg (by exact fun h => h h3), if_pos hb]
theorem checkE_5 {f : EE} (h1 : sizeE f = true) (h2 : f.agg ∈ aggW) (h3 : f.post ∈ postW) (h4 : baseE f = true) (hb : numsE f.nodes = false) : checkE f = 5 := by
 unfold checkE
 rw [if_neg (by rw [h1]; simp), if_neg (by exact fun h => h h2), if_neg (by exact fun h => h h3), if_neg (by rw [h4]; simp), if_pos hb]
theorem checkE_6 {f : EE} (h1 : sizeE f = true) (h2 : f.agg ∈ aggW) (h3 : f.post ∈ postW) (h4 : baseE f = true) (h5 : numsE f.nodes = true) (hb : everyE f.nodes true (fun n => decide (1 ≤ n.mode ∧ n.mode ≤ 7)) = false) : checkE f = 6 := by
 unfold checkE
 rw [if_neg (by rw [h1]; simp), if_neg (by exact fun h => h h2), if_neg (by exact fun h => h h3), if_neg (by rw [h4]; simp), if_neg (by rw [h5]; simp), if_pos hb]
theorem checkE_7 {f : EE} (h1 : sizeE f = true) (h2 : f.agg ∈ aggW) (h3 : f.post ∈ postW) (h4 : baseE f = true) (h5 : numsE f.nodes = true) (h6 : everyE f.nodes true (fun n => decide (1 ≤ n.mode ∧ n.mode ≤ 7)) = true) (hb : everyE f.nodes false (fun n => decide (0 ≤ n.feat ∧ n.feat < f.feats)) = false) : checkE f = 7 := by
 unfold checkE
 rw [if_neg (by rw [h1]; simp), if_neg (by exact fun h => h h2), if_neg (by exact fun h => h h3), if_neg (by rw [h4]; simp), if_neg (by rw [h5]; simp), if_neg (by rw [h6]; simp), if_pos hb]
theorem checkE_8 {f : EE} (h1 : sizeE f = true) (h2 : f.agg ∈ aggW) (h3 : f.post ∈ postW) (h4 : baseE f = true) (h5 : numsE f.nodes = true) (h6 : everyE f.nodes true (fun n => decide (1 ≤ n.mode ∧ n.mode ≤ 7)) = true) (h7 : everyE f.nodes false (fun n => decide (0 ≤ n.feat ∧ n.feat < f.feats)) = true) (hb : everyE f.nodes false (fun n => finP n.val) = false ∨ everyE f.nodes true (fun n => decide (n.val < 4294967296)) = false) : checkE f = 8 := by
 unfold checkE
 rw [if_neg (by rw [h1]; simp), if_neg (by exact fun h => h h2), if_neg (by exact fun h => h h3), if_neg (by rw [h4]; simp), if_neg (by rw [h5]; simp), if_neg (by rw [h6]; simp), if_neg (by rw [h7]; simp), if_pos hb]
theorem checkE_9 {f : EE} (h1 : sizeE f = true) (h2 : f.agg ∈ aggW) (h3 : f.post ∈ postW) (h4 : baseE f = true) (h5 : numsE f.nodes = true) (h6 : everyE f.nodes true (fun n => decide (1 ≤ n.mode ∧ n.mode ≤ 7)) = true) (h7 : everyE f.nodes false (fun n => decide (0 ≤ n.feat ∧ n.feat < f.feats)) = true) (h8 : everyE f.nodes false (fun n => finP n.val) = true ∧ everyE f.nodes true (fun n => decide (n.val < 4294967296)) = true) (hb : kidE f.nodes = false) : checkE f = 9 := by
 unfold checkE
 rw [if_neg (by rw [h1]; simp), if_neg (by exact fun h => h h2), if_neg (by exact fun h => h h3), if_neg (by rw [h4]; simp), if_neg (by rw [h5]; simp), if_neg (by rw [h6]; simp), if_neg (by rw [h7]; simp), if_neg (by rw [h8.1, h8.2]; simp), if_pos hb]
theorem checkE_10 {f : EE} (h1 : sizeE f = true) (h2 : f.agg ∈ aggW) (h3 : f.post ∈ postW) (h4 : baseE f = true) (h5 : numsE f.nodes = true) (h6 : everyE f.nodes true (fun n => decide (1 ≤ n.mode ∧ n.mode ≤ 7)) = true) (h7 : everyE f.nodes false (fun n => decide (0 ≤ n.feat ∧ n.feat < f.feats)) = true) (h8 : everyE f.nodes false (fun n => finP n.val) = true ∧ everyE f.nodes true (fun n => decide (n.val < 4294967296)) = true) (h9 : kidE f.nodes = true) (hb : forestE f.nodes = false) : checkE f = 10 := by
 unfold checkE
 rw [if_neg (by rw [h1]; simp), if_neg (by exact fun h => h h2), if_neg (by exact fun h => h h3), if_neg (by rw [h4]; simp), if_neg (by rw [h5]; simp), if_neg (by rw [h6]; simp), if_neg (by rw [h7]; simp), if_neg (by rw [h8.1, h8.2]; simp), if_neg (by rw [h9]; simp), if_pos hb]
theorem checkE_11 {f : EE} (h1 : sizeE f = true) (h2 : f.agg ∈ aggW) (h3 : f.post ∈ postW) (h4 : baseE f = true) (h5 : numsE f.nodes = true) (h6 : everyE f.nodes true (fun n => decide (1 ≤ n.mode ∧ n.mode ≤ 7)) = true) (h7 : everyE f.nodes false (fun n => decide (0 ≤ n.feat ∧ n.feat < f.feats)) = true) (h8 : everyE f.nodes false (fun n => finP n.val) = true ∧ everyE f.nodes true (fun n => decide (n.val < 4294967296)) = true) (h9 : kidE f.nodes = true) (h10 : forestE f.nodes = true) (hb : leafE f = false) : checkE f = 11 := by
 unfold checkE
 rw [if_neg (by rw [h1]; simp), if_neg (by exact fun h => h h2), if_neg (by exact fun h => h h3), if_neg (by rw [h4]; simp), if_neg (by rw [h5]; simp), if_neg (by rw [h6]; simp), if_neg (by rw [h7]; simp), if_neg (by rw [h8.1, h8.2]; simp), if_neg (by rw [h9]; simp), if_neg (by rw [h10]; simp), if_pos hb]
theorem checkE_12 {f : EE} (h1 : sizeE f = true) (h2 : f.agg ∈ aggW) (h3 : f.post ∈ postW) (h4 : baseE f = true) (h5 : numsE f.nodes = true) (h6 : everyE f.nodes true (fun n => decide (1 ≤ n.mode ∧ n.mode ≤ 7)) = true) (h7 : everyE f.nodes false (fun n => decide (0 ≤ n.feat ∧ n.feat < f.feats)) = true) (h8 : everyE f.nodes false (fun n => finP n.val) = true ∧ everyE f.nodes true (fun n => decide (n.val < 4294967296)) = true) (h9 : kidE f.nodes = true) (h10 : forestE f.nodes = true) (h11 : leafE f = true) (hb : f.leaves.any (fun l => !finP l.wt) = true) : checkE f = 12 := by
 unfold checkE
 rw [if_neg (by rw [h1]; simp), if_neg (by exact fun h => h h2), if_neg (by exact fun h => h h3), if_neg (by rw [h4]; simp), if_neg (by rw [h5]; simp), if_neg (by rw [h6]; simp), if_neg (by rw [h7]; simp), if_neg (by rw [h8.1, h8.2]; simp), if_neg (by rw [h9]; simp), if_neg (by rw [h10]; simp), if_neg (by rw [h11]; simp), if_pos hb]
theorem check_ok {f : EE} (h : checkE f = 0) : CheckOk f := by
 have h1 : sizeE f = true := Bool.not_eq_false _ ▸ fun hb => by rw [checkE_1  hb] at h; cases h
 have h2 : f.agg ∈ aggW := Classical.byContradiction fun hb => by rw [checkE_2 h1 hb] at h; cases h
 have h3 : f.post ∈ postW := Classical.byContradiction fun hb => by rw [checkE_3 h1 h2 hb] at h; cases h
 have h4 : baseE f = true := Bool.not_eq_false _ ▸ fun hb => by rw [checkE_4 h1 h2 h3 hb] at h; cases h
 have h5 : numsE f.nodes = true := Bool.not_eq_false _ ▸ fun hb => by rw [checkE_5 h1 h2 h3 h4 hb] at h; cases h
 have h6 : everyE f.nodes true (fun n => decide (1 ≤ n.mode ∧ n.mode ≤ 7)) = true := Bool.not_eq_false _ ▸ fun hb => by rw [checkE_6 h1 h2 h3 h4 h5 hb] at h; cases h
 have h7 : everyE f.nodes false (fun n => decide (0 ≤ n.feat ∧ n.feat < f.feats)) = true := Bool.not_eq_false _ ▸ fun hb => by rw [checkE_7 h1 h2 h3 h4 h5 h6 hb] at h; cases h
 have h8 : everyE f.nodes false (fun n => finP n.val) = true ∧ everyE f.nodes true (fun n => decide (n.val < 4294967296)) = true := by
  refine ⟨Bool.not_eq_false _ ▸ fun hb => ?_, Bool.not_eq_false _ ▸ fun hb => ?_⟩
  ·rw [checkE_8 h1 h2 h3 h4 h5 h6 h7 (.inl hb)] at h; cases h
  ·rw [checkE_8 h1 h2 h3 h4 h5 h6 h7 (.inr hb)] at h; cases h
 have h9 : kidE f.nodes = true := Bool.not_eq_false _ ▸ fun hb => by rw [checkE_9 h1 h2 h3 h4 h5 h6 h7 h8 hb] at h; cases h
 have h10 : forestE f.nodes = true := Bool.not_eq_false _ ▸ fun hb => by rw [checkE_10 h1 h2 h3 h4 h5 h6 h7 h8 h9 hb] at h; cases h
 have h11 : leafE f = true := Bool.not_eq_false _ ▸ fun hb => by rw [checkE_11 h1 h2 h3 h4 h5 h6 h7 h8 h9 h10 hb] at h; cases h
 have h12 : f.leaves.any (fun l => !finP l.wt) = false := Bool.not_eq_true _ ▸ fun hb => by rw [checkE_12 h1 h2 h3 h4 h5 h6 h7 h8 h9 h10 h11 hb] at h; cases h
 exact ⟨h1, h2, h3, h4, h5, h6, h7, h8.1, h8.2, h9, h10, h11, h12⟩
theorem everyE_bad {ns : List EN} {all : Bool} {p : EN → Bool} {n : EN} (hn : n ∈ ns) (h1 : (all || decide (n.mode ≠ 7)) = true) (h2 : p n = false) : everyE ns all p = false := by
 unfold everyE
 rw [Bool.not_eq_false', List.any_eq_true]
 exact ⟨n, hn, by rw [h1, h2]; rfl⟩
end Go.Proofs.YtieffhkfefimeaaGreatDoor

namespace Go.Proofs.YtieffhkfefimeaaGreatDoor
open Go.RowKit


def OwnsK (K base : Nat) (e : TypeId) (w : World) (v : Value) (n : Nat) (xs : List Value) : Prop := w.ownsRow base e K v n xs
theorem OwnsK.nil (K base : Nat) (e : TypeId) (w : World) : OwnsK K base e w (.slice none 0 0) 0 [] := World.ownsRow_nil _ _ _ _
theorem OwnsK.len {K base : Nat} {e : TypeId} {w : World} {v : Value} {n : Nat} {xs : List Value} (h : OwnsK K base e w v n xs) : xs.length = n * K := h.1
theorem OwnsK.shape {K base : Nat} {e : TypeId} {w : World} {v : Value} {n : Nat} {xs : List Value} (h : OwnsK K base e w v n xs) :
  (v = .slice none 0 0 ∧ n = 0) ∨ ∃ g cap, v = .slice (some ⟨g, 0, none⟩) n cap ∧ base ≤ g ∧ g < w.heap.size ∧ n ≤ cap ∧ cap ≤ maxLen ∧
   (∀ j, j < n * K → w.cell? ⟨g, j, none⟩ = xs[j]?) ∧ (∀ j, w.frozen? ⟨g, j, none⟩ = false) := by
 have h0 := h
 obtain ⟨h1, ⟨rfl, hn⟩ | ⟨g, cap, cur, rfl, h2, h3, h4, h5, h6, h7⟩⟩ := h
 ·exact .inl ⟨rfl, hn⟩
 ·exact .inr ⟨g, cap, rfl, h2, (Array.getElem?_eq_some_iff.1 h3).1, h4, h5, fun j hj => World.ownsRow.cellAt h0 j (by omega), fun j => World.ownsRow.frozenAt h0 j⟩
theorem OwnsK.kept {K base : Nat} {e : TypeId} {w w' : World} {v : Value} {n : Nat} {xs : List Value} (h : OwnsK K base e w v n xs) (hb : Below w.heap.size w w') : OwnsK K base e w' v n xs :=
 World.ownsRow.kept (row := none) h ⟨hb.os, hb.tape, hb.output, hb.size, fun k hk _ => hb.block k hk⟩ (by cases hv : v.ownBlock <;> simp)
theorem OwnsK.alloc {K base : Nat} {e : TypeId} {w : World} {v : Value} {n : Nat} {xs : List Value} (h : OwnsK K base e w v n xs) (o : Obj) : OwnsK K base e (w.alloc o) v n xs := World.ownsRow.alloc h o
structure ElemK (P : Program) (t e : TypeId) (z : Value) (K bytes : Nat) : Prop where
 und : P.underlying t = some (.slice e)
 info : ∃ i, P.info? e = some i ∧ i.zero = some z ∧ i.size = K ∧ i.bytes = bytes
 many : z.cells.size = K
 pos : 0 < K
theorem elemK_of {P : Program} {t e : TypeId} {z : Value} {K bytes : Nat} (h1 : P.underlying t = some (.slice e)) (h2 : (P.info? e).map (fun i => (i.zero, i.size, i.bytes)) = some (some z, K, bytes)) (h3 : z.cells.size = K) (h4 : 0 < K) : ElemK P t e z K bytes :=
 ⟨h1, info_parts h2, h3, h4⟩
end Go.Proofs.YtieffhkfefimeaaGreatDoor

namespace Go.Proofs.YtieffhkfefimeaaGreatDoor
open Go.RowKit


theorem run_appendK {P : Program} {t e : TypeId} {z : Value} {K bytes : Nat} (E : ElemK P t e z K bytes) (ty : TypeId) {w : World} {base n : Nat} {v : Value} {xs : List Value} (hown : OwnsK K base e w v n xs)
  (ad : Addr) (c : Nat) (us : List Value) (hul : us.length = K) (hu : ∀ j u', us[j]? = some u' → w.cell? (ad.add j) = some u') (h1 : ∀ u ∈ us, u.oneCell' = true) (hl : (n + 1) * bytes ≤ 140737488355328) (hm : n + 1 ≤ maxLen) (hbase : base ≤ w.heap.size) :
  ∃ v' w', (Builtin.append_ #[t, t] ty #[v, .slice (some ad) 1 c]).run P w = .ok v' w' ∧ OwnsK K base e w' v' (n + 1) (xs ++ us) ∧ w.grownBy w' v.ownBlock ∧
   (∀ g, v'.ownBlock = some g → v.ownBlock = some g ∨ w.heap.size ≤ g) ∧
   ∀ p : Value → Prop, RowAll p w v → (∀ u ∈ us, p u) → (∀ c ∈ z.cells, p c) → RowAll p w' v' := by
 obtain ⟨i, hi, hz, h4, h5⟩ := E.info
 have hxn := hown.1
 obtain ⟨v', w', hrun, r1, r2, r3⟩ := run_append_own (P := P) w base t ty e i z K bytes E.und hi hz h4 h5 E.many E.pos v n xs hown ad 1 c us (by omega) hu h1 hm hl hbase
 rcases hown.2 with ⟨rfl, hn0⟩ | ⟨g0, cap, cur, rfl, k1, k2, k3, k4, k5, k6⟩
 ·subst hn0
  have hxs : xs = [] := List.eq_nil_of_length_eq_zero (by omega)
  subst hxs
  have hr := run_append_nil (P := P) w t ty e i z E.und hi hz ad 1 c us (by rw [h4]; omega) hu (by omega) (by omega) (by rw [h5]; simp at hl; omega)
  rw [hr] at hrun
  injection hrun with e1 e2
  refine ⟨v', w', by rw [hr, e1, e2], r1, r2, ?_, ?_⟩
  ·intro g hg
   subst e1
   simp [Value.ownBlock] at hg
   exact .inr (by omega)
  ·intro p _ hp hpz g hg j c' hc'
   subst e1
   subst e2
   simp [Value.ownBlock] at hg
   subst hg
   have hm' := cell_mem (heap_alloc_new w.drew _) hc'
   simp only [List.mem_toArray, Array.mem_append] at hm'
   rcases hm' with hm' | hm'
   ·exact hp _ hm'
   ·exact hpz _ (mem_zeroCells hm')
 ·by_cases hroom : n + 1 ≤ cap
  ·have hr := run_append_room (P := P) w t ty e i E.und hi g0 n cap cur k2 ad 1 c us (by rw [h4]; omega) hu h1 hroom (by rw [h4]; have h9 := Nat.mul_le_mul_right K hroom; rw [Nat.add_mul] at h9; omega)
   rw [hr] at hrun
   injection hrun with e1 e2
   refine ⟨v', w', by rw [hr, e1, e2], r1, r2, ?_, ?_⟩
   ·intro g hg
    subst e1
    exact .inl hg
   ·intro p ha hp hpz g hg j c' hc'
    subst e1
    subst e2
    simp [Value.ownBlock] at hg
    subst hg
    have hm' := cell_mem (setRow_heap w g0 cur _ e _ k2) hc'
    have old : ∀ c'' ∈ cur.toList, p c'' := by
     intro c'' hc''
     obtain ⟨j', hj', rfl⟩ := List.mem_iff_getElem.1 hc''
     refine ha g0 rfl j' _ ?_
     unfold World.cell?
     simp [k2]
    simp only [List.mem_toArray, List.mem_append] at hm'
    rcases hm' with (hm' | hm') | hm'
    ·exact old _ (List.mem_of_mem_take hm')
    ·exact hp _ hm'
    ·exact old _ (List.mem_of_mem_drop hm')
  ·have hr := run_append_grow (P := P) w t ty e i z E.und hi hz ⟨g0, 0, none⟩ n cap xs (by rw [h4]; omega) (World.ownsRow.cells hown (g := g0) rfl) ad 1 c us (by rw [h4]; omega) hu (by omega) (by simp only [maxLen] at hm; omega) (growslice_fits (by omega) (by rw [h5]; exact hl))
   rw [hr] at hrun
   injection hrun with e1 e2
   refine ⟨v', w', by rw [hr, e1, e2], r1, r2, ?_, ?_⟩
   ·intro g hg
    subst e1
    simp [Value.ownBlock] at hg
    exact .inr (by omega)
   ·intro p ha hp hpz g hg j c' hc'
    subst e1
    subst e2
    simp [Value.ownBlock] at hg
    subst hg
    have hm' := cell_mem (heap_alloc_new w.drew _) hc'
    have old : ∀ c'' ∈ cur.toList, p c'' := by
     intro c'' hc''
     obtain ⟨j', hj', rfl⟩ := List.mem_iff_getElem.1 hc''
     refine ha g0 rfl j' _ ?_
     unfold World.cell?
     simp [k2]
    simp only [List.mem_toArray, Array.mem_append, List.mem_append] at hm'
    rcases hm' with (hm' | hm') | hm'
    ·exact old _ (by rw [← k6] at hm'; exact List.mem_of_mem_take hm')
    ·exact hp _ hm'
    ·exact hpz _ (mem_zeroCells hm')
theorem append1KAt {P : Program} {t e : TypeId} {z : Value} {K bytes : Nat} (E : ElemK P t e z K bytes) {w : World} {ops : Array Oper} {rest : List Oper} {o : Oper} {a : Act} {Q : Exit → Act → World → Prop} {s x : Operand} {us : Array Value} {base n : Nat} {v : Value} {xs : List Value} {p : Value → Prop}
  (hown : OwnsK K base e w v n xs) (hra : RowAll p w v) (hu : ∀ u ∈ us.toList, p u) (hz : ∀ c ∈ z.cells, p c) (hgd : o.guard = none) (ho : o.op = .call { callee := .builtin .append, args := #[s, x], argTypes := #[t, t] }) (hs : a.eval s = v)
  (hx : a.eval x = .slice (some ⟨w.heap.size, 0, none⟩) 1 1) (hus : us.size = K) (h1 : ∀ u ∈ us.toList, u.oneCell' = true) (hl : (n + 1) * bytes ≤ 140737488355328) (hm : n + 1 ≤ maxLen) (hbase : base ≤ w.heap.size)
  (h : ∀ v' w', OwnsK K base e w' v' (n + 1) (xs ++ us.toList) → Below base w w' → w.grownBy w' v.ownBlock → (∀ g, v'.ownBlock = some g → v.ownBlock = some g ∨ w.heap.size ≤ g) → RowAll p w' v' → wpList P ops Q rest (a.put o.dst v') w') : wpList P ops Q (o :: rest) a (w.alloc (.cells us e)) := by
 have hra' : RowAll p (w.alloc (.cells us e)) v := by
  intro g hg j c hc
  have hlt := World.ownsRow.lt hown g hg
  rw [World.cell?_alloc_past _ _ _ hlt.2] at hc
  exact hra g hg j c hc
 obtain ⟨v', w', hrun, r1, r2, r3, r4⟩ := run_appendK (P := P) E o.type (w := w.alloc (.cells us e)) (hown.alloc _) ⟨w.heap.size, 0, none⟩ 1 us.toList (by simp [hus]) (by
  intro j u' hj
  rw [Addr.add_lit, Nat.zero_add]
  unfold World.cell?
  rw [show (w.alloc (.cells us e)).heap[w.heap.size]? = some (.cells us e) from heap_alloc_new w _]
  simpa using hj) h1 hl hm (by simp; omega)
 refine wpList_plain hgd fun K' hK => ?_
 unfold Oper.wp
 simp [execOp, ho, resolve, invoke, builtin, hs, hx, hrun, Result.andThen]
 have hg : w.grownBy w' v.ownBlock := ⟨r2.os, r2.tape, r2.output, Nat.le_trans (by simp) r2.size, fun k hk hne => (r2.block k (by simp; omega) hne).trans (Below.heap_alloc _ _ _ hk)⟩
 refine hK _ _ (h v' w' r1 ⟨hg.os, hg.tape, hg.output, hg.size, fun k hk => hg.block k (by omega) (fun e' => ?_)⟩ hg ?_ (r4 p hra' hu hz))
 ·have := World.ownsRow.lt hown k e'.symm
  omega
 ·intro g hg'
  rcases r3 g hg' with h4 | h4
  ·exact .inl h4
  ·exact .inr (by simp at h4; omega)
end Go.Proofs.YtieffhkfefimeaaGreatDoor

namespace Go.Proofs.YtieffhkfefimeaaGreatDoor
open Go.RowKit


structure BoxL (w : World) (b : Nat) (xs : List Value) : Prop where
 cell : ∀ (i : Nat) (x : Value), xs[i]? = some x → w.cell? ⟨b, i, none⟩ = some x
 free : ∀ (i : Nat), i < xs.length → w.frozen? ⟨b, i, none⟩ = false
 lt : b < w.heap.size
theorem BoxL.block {w w' : World} {b : Nat} {xs : List Value} (h : BoxL w b xs) (hg : w'.heap[b]? = w.heap[b]?) : BoxL w' b xs :=
 ⟨fun i x hi => (World.cell?_of_block (w := w) (a := ⟨b, i, none⟩) hg).trans (h.cell i x hi), fun i hi => (World.frozen?_of_block (w := w) (a := ⟨b, i, none⟩) hg).trans (h.free i hi), by
  have h1 : w.heap[b]? = some (w.heap[b]'h.lt) := Array.getElem?_eq_getElem h.lt
  rw [← hg] at h1; exact (Array.getElem?_eq_some_iff.1 h1).1⟩
theorem BoxL.kept {w w' : World} {b : Nat} {xs : List Value} (h : BoxL w b xs) (hb : Below w.heap.size w w') : BoxL w' b xs := h.block (hb.block b h.lt)
theorem BoxL.below {w w' : World} {b B : Nat} {xs : List Value} (h : BoxL w b xs) (hb : Below B w w') (hB : b < B) : BoxL w' b xs := h.block (hb.block b hB)
theorem BoxL.drew {w : World} {b : Nat} {xs : List Value} (h : BoxL w b xs) : BoxL w.drew b xs := ⟨h.cell, h.free, h.lt⟩
theorem BoxL.new (w : World) (xs : List Value) (t : TypeId) : BoxL (w.alloc (.cells xs.toArray t)) w.heap.size xs := by
 refine ⟨fun i x hi => ?_, fun i hi => ?_, by simp⟩
 ·unfold World.cell?
  rw [show (w.alloc (.cells xs.toArray t)).heap[w.heap.size]? = some (.cells xs.toArray t) from heap_alloc_new w _]
  simpa using hi
 ·unfold World.frozen?
  rw [show (w.alloc (.cells xs.toArray t)).heap[w.heap.size]? = some (.cells xs.toArray t) from heap_alloc_new w _]
  simp
theorem BoxL.set {w : World} {b : Nat} {xs : List Value} (h : BoxL w b xs) (i : Nat) (u : Value) (hi : i < xs.length) : BoxL (w.setCell ⟨b, i, none⟩ u) b (xs.set i u) := by
 refine ⟨fun j x hj => ?_, fun j hj => ?_, by simpa [World.setCell] using h.lt⟩
 ·by_cases e : j = i
  ·subst e
   rw [List.getElem?_set_self hi] at hj
   cases hj
   exact cell_set (h.cell j (xs[j]'hi) (List.getElem?_eq_getElem hi))
  ·rw [List.getElem?_set_ne (fun h => e h.symm)] at hj
   rw [World.cell?_setCell_other]
   ·exact h.cell j x hj
   ·intro e'; have h2 : i = j := by injection e'
    exact e h2.symm
 ·rw [World.frozen?_setCell]
  exact h.free j (by simpa using hj)
theorem BoxL.setOther {w : World} {b g : Nat} {xs : List Value} (h : BoxL w b xs) (hne : b ≠ g) (j : Nat) (u : Value) : BoxL (w.setCell ⟨g, j, none⟩ u) b xs :=
 h.block ((grownBy_set (grownBy_refl w (some g)) j u).block b h.lt (by simpa using hne))
theorem BoxL.of4 {w : World} {b : Nat} {x0 x1 x2 x3 : Value} (c0 : w.cell? ⟨b, 0, none⟩ = some x0) (c1 : w.cell? ⟨b, 1, none⟩ = some x1) (c2 : w.cell? ⟨b, 2, none⟩ = some x2) (c3 : w.cell? ⟨b, 3, none⟩ = some x3) (f0 : w.frozen? ⟨b, 0, none⟩ = false) (f1 : w.frozen? ⟨b, 1, none⟩ = false) (f2 : w.frozen? ⟨b, 2, none⟩ = false) (f3 : w.frozen? ⟨b, 3, none⟩ = false) : BoxL w b [x0, x1, x2, x3] := by
 refine ⟨fun i x hi => ?_, fun i hi => ?_, World.block_lt_of_cell? w ⟨b, 0, none⟩ c0⟩
 ·match i, hi with
  | 0, hi => simp at hi; subst hi; exact c0
  | 1, hi => simp at hi; subst hi; exact c1
  | 2, hi => simp at hi; subst hi; exact c2
  | 3, hi => simp at hi; subst hi; exact c3
 ·match i, hi with
  | 0, hi => exact f0
  | 1, hi => exact f1
  | 2, hi => exact f2
  | 3, hi => exact f3
theorem BoxL.of7 {w : World} {b : Nat} {x0 x1 x2 x3 x4 x5 x6 : Value} (c0 : w.cell? ⟨b, 0, none⟩ = some x0) (c1 : w.cell? ⟨b, 1, none⟩ = some x1) (c2 : w.cell? ⟨b, 2, none⟩ = some x2) (c3 : w.cell? ⟨b, 3, none⟩ = some x3) (c4 : w.cell? ⟨b, 4, none⟩ = some x4) (c5 : w.cell? ⟨b, 5, none⟩ = some x5) (c6 : w.cell? ⟨b, 6, none⟩ = some x6) (f0 : w.frozen? ⟨b, 0, none⟩ = false) (f1 : w.frozen? ⟨b, 1, none⟩ = false) (f2 : w.frozen? ⟨b, 2, none⟩ = false) (f3 : w.frozen? ⟨b, 3, none⟩ = false) (f4 : w.frozen? ⟨b, 4, none⟩ = false) (f5 : w.frozen? ⟨b, 5, none⟩ = false) (f6 : w.frozen? ⟨b, 6, none⟩ = false) : BoxL w b [x0, x1, x2, x3, x4, x5, x6] := by
 refine ⟨fun i x hi => ?_, fun i hi => ?_, World.block_lt_of_cell? w ⟨b, 0, none⟩ c0⟩
 ·match i, hi with
  | 0, hi => simp at hi; subst hi; exact c0
  | 1, hi => simp at hi; subst hi; exact c1
  | 2, hi => simp at hi; subst hi; exact c2
  | 3, hi => simp at hi; subst hi; exact c3
  | 4, hi => simp at hi; subst hi; exact c4
  | 5, hi => simp at hi; subst hi; exact c5
  | 6, hi => simp at hi; subst hi; exact c6
 ·match i, hi with
  | 0, hi => exact f0
  | 1, hi => exact f1
  | 2, hi => exact f2
  | 3, hi => exact f3
  | 4, hi => exact f4
  | 5, hi => exact f5
  | 6, hi => exact f6
theorem BoxL.c7 {w : World} {b : Nat} {x0 x1 x2 x3 x4 x5 x6 : Value} (h : BoxL w b [x0, x1, x2, x3, x4, x5, x6]) : w.cell? ⟨b, 0, none⟩ = some x0 ∧ w.cell? ⟨b, 1, none⟩ = some x1 ∧ w.cell? ⟨b, 2, none⟩ = some x2 ∧ w.cell? ⟨b, 3, none⟩ = some x3 ∧ w.cell? ⟨b, 4, none⟩ = some x4 ∧ w.cell? ⟨b, 5, none⟩ = some x5 ∧ w.cell? ⟨b, 6, none⟩ = some x6 := ⟨h.cell 0 _ rfl, h.cell 1 _ rfl, h.cell 2 _ rfl, h.cell 3 _ rfl, h.cell 4 _ rfl, h.cell 5 _ rfl, h.cell 6 _ rfl⟩
theorem BoxL.c8 {w : World} {b : Nat} {x0 x1 x2 x3 x4 x5 x6 x7 : Value} (h : BoxL w b [x0, x1, x2, x3, x4, x5, x6, x7]) : w.cell? ⟨b, 0, none⟩ = some x0 ∧ w.cell? ⟨b, 1, none⟩ = some x1 ∧ w.cell? ⟨b, 2, none⟩ = some x2 ∧ w.cell? ⟨b, 3, none⟩ = some x3 ∧ w.cell? ⟨b, 4, none⟩ = some x4 ∧ w.cell? ⟨b, 5, none⟩ = some x5 ∧ w.cell? ⟨b, 6, none⟩ = some x6 ∧ w.cell? ⟨b, 7, none⟩ = some x7 := ⟨h.cell 0 _ rfl, h.cell 1 _ rfl, h.cell 2 _ rfl, h.cell 3 _ rfl, h.cell 4 _ rfl, h.cell 5 _ rfl, h.cell 6 _ rfl, h.cell 7 _ rfl⟩
end Go.Proofs.YtieffhkfefimeaaGreatDoor

namespace Go.Proofs.YtieffhkfefimeaaGreatDoor
open Go.RowKit


theorem OwnsK.block {K base : Nat} {e : TypeId} {w w' : World} {v : Value} {n : Nat} {xs : List Value} (h : OwnsK K base e w v n xs) (hb : ∀ g, v.ownBlock = some g → w'.heap[g]? = w.heap[g]?) : OwnsK K base e w' v n xs := by
 obtain ⟨h1, h2 | ⟨g, cap, cur, rfl, h3, h4, h5⟩⟩ := h
 ·exact ⟨h1, .inl h2⟩
 ·exact ⟨h1, .inr ⟨g, cap, cur, rfl, h3, (hb g rfl).trans h4, h5⟩⟩
theorem OwnsK.lt {K base : Nat} {e : TypeId} {w : World} {v : Value} {n : Nat} {xs : List Value} (h : OwnsK K base e w v n xs) : ∀ g, v.ownBlock = some g → base ≤ g ∧ g < w.heap.size := World.ownsRow.lt h
theorem OwnsK.slice {K base : Nat} {e : TypeId} {w : World} {v : Value} {n : Nat} {xs : List Value} (h : OwnsK K base e w v n xs) : ∃ ao cap, v = .slice ao n cap ∧ n ≤ cap ∧ cap ≤ maxLen ∧ (ao = none → cap = 0) := by
 rcases h.shape with ⟨rfl, rfl⟩ | ⟨g, cap, rfl, _, _, h4, h5, _, _⟩
 ·exact ⟨_, _, rfl, Nat.le_refl _, Nat.zero_le _, fun _ => rfl⟩
 ·exact ⟨_, _, rfl, h4, h5, fun h => by cases h⟩
end Go.Proofs.YtieffhkfefimeaaGreatDoor

namespace Go.Proofs.YtieffhkfefimeaaGreatDoor
open Go.ChangeShapes Go.WideShapes Go.ChangeAt Go.RowKit


def IntsI (k : IntKind) (w : World) (v : Value) (ns : List Int) : Prop :=
 ∃ ao cap, v = .slice ao ns.length cap ∧ ns.length ≤ cap ∧ cap ≤ maxLen ∧ (ns = [] ∨ ∃ b off, ao = some ⟨b, off, none⟩ ∧ b < w.heap.size ∧ ∀ i, i < ns.length → w.cell? ⟨b, off + i, none⟩ = some (.int k (ns[i]?.getD 0)))
theorem IntsI.below {k : IntKind} {w w' : World} {v : Value} {ns : List Int} (h : IntsI k w v ns) (hb : Below w.heap.size w w') : IntsI k w' v ns := by
 obtain ⟨ao, cap, h1, h2, h3, h4⟩ := h
 refine ⟨ao, cap, h1, h2, h3, ?_⟩
 rcases h4 with h4 | ⟨b, off, h5, h6, h7⟩
 ·exact .inl h4
 ·exact .inr ⟨b, off, h5, Nat.lt_of_lt_of_le h6 hb.size, fun i hi => (hb.cell (p := ⟨b, off + i, none⟩) h6).trans (h7 i hi)⟩
def IntsN (k : IntKind) (w : World) (v : Value) (ns : List Int) : Prop := IntsI k w v ns ∧ ∀ l c, v = .slice none l c → c = 0
def ivals (k : IntKind) (ns : List Int) : List Value := ns.map fun n => .int k n
theorem ivals_length (k : IntKind) (ns : List Int) : (ivals k ns).length = ns.length := by simp [ivals]
theorem ivals_get {k : IntKind} {ns : List Int} {i : Nat} (hi : i < ns.length) : (ivals k ns)[i]? = some (.int k (ns[i]?.getD 0)) := by
 simp [ivals, List.getElem?_eq_getElem hi]
theorem ints_of_owns {k : IntKind} {B : Nat} {e : TypeId} {W : World} {v : Value} {ns : List Int} (h : Owns B e W v (ivals k ns)) : IntsN k W v ns := by
 rcases h.shape with ⟨e1, h1⟩ | ⟨g, cap, e1, h2, h3, h4, h5, h6, h7⟩
 ·have hn : ns = [] := by cases ns <;> simp [ivals] at h1 ⊢
  subst hn
  exact ⟨⟨none, 0, e1, Nat.le_refl _, Nat.zero_le _, .inl rfl⟩, fun l c e => by rw [e1] at e; cases e; rfl⟩
 ·rw [ivals_length] at h4 h6 e1
  exact ⟨⟨some ⟨g, 0, none⟩, cap, e1, h4, h5, .inr ⟨g, 0, rfl, h3, fun i hi => by rw [Nat.zero_add, h6 i hi, ivals_get hi]⟩⟩, fun l c e => by rw [e1] at e; cases e⟩
theorem ints_of_trodK {k : IntKind} {t e : TypeId} {H : Type} {enc : TypeId × Value → H} {W : World} {base : Nat} {v : Value} {d : DataW H} {p : List MemPlace} (ht : Tryz.prog.underlying t = some (.slice e)) (he : Tryz.prog.underlying e = some (.int k)) (hc : Tryz.prog.cellsOf e = 1)
  (hok : Value.okWide Tryz.prog W .any base t v) (h : DataW.Trod enc Tryz.prog W 0 (fun _ => true) true t v d p) :
  ∃ ns, IntsN k W v ns ∧ ∀ n ∈ ns, (Lit.int k n).wf = true := by
 obtain ⟨a0, len, cap, rfl⟩ := okWide_slice ht hok
 obtain ⟨fuel, hf⟩ := h
 rcases ChangeShapes.open_ints ht he hc hf with ⟨hcs, hx⟩ | ⟨a, len', cap', ss, hcs, _, hl, hm, hz, hx, hcell, hws⟩
 ·simp [Value.cells] at hcs
  obtain ⟨rfl, rfl, rfl⟩ := hcs
  exact ⟨[], ⟨⟨none, 0, rfl, Nat.le_refl _, Nat.zero_le _, .inl rfl⟩, fun l c e => by cases e; rfl⟩, by simp⟩
 ·simp [Value.cells] at hcs
  obtain ⟨rfl, rfl, rfl⟩ := hcs
  simp only [if_true] at hz
  have hlen : (ss.take len).length = len := by simp; omega
  refine ⟨ss.take len, ⟨⟨some a, cap, by rw [hlen], by rw [hlen]; exact hl, hm, ?_⟩, fun l c e => by cases e⟩, ?_⟩
  ·rcases Nat.eq_zero_or_pos len with h0 | h0
   ·left; subst h0; simp
   ·right
    obtain ⟨blk, off, spot⟩ := a
    have hc0 := hcell 0 (by omega)
    have hsp : spot = none := by
     unfold World.cell? at hc0
     split at hc0
     ·cases spot with
      | none => rfl
      | some x => simp [Addr.add] at hc0
     ·cases hc0
    subst hsp
    refine ⟨blk, off, rfl, World.block_lt_of_cell? W _ hc0, fun i hi => ?_⟩
    rw [hlen] at hi
    have hc := hcell i (by omega)
    rw [Addr.add_lit] at hc
    rw [hc, List.getElem?_take, if_pos hi]
    rfl
  ·intro l hl'
   exact hws l (List.mem_of_mem_take hl')
theorem E_ints : Elem Tryz.prog 41 3 (.int .i64 0) 8 := elem_of Tryz.underlying41 (by kernel_rfl) rfl
theorem pats_of_trod {H : Type} {enc : TypeId × Value → H} {W : World} {base : Nat} {v : Value} {d : DataW H} {p : List MemPlace} (hok : Value.okWide Tryz.prog W .any base 29 v) (h : DataW.Trod enc Tryz.prog W 0 (fun _ => true) true 29 v d p) :
  ∃ ns, IntsN .u64 W v ns ∧ ∀ n ∈ ns, (Lit.int .u64 n).wf = true := ints_of_trodK Tryz.underlying29 Tryz.underlying22 (by kernel_rfl) hok h
end Go.Proofs.YtieffhkfefimeaaGreatDoor

namespace Go.Proofs.YtieffhkfefimeaaGreatDoor
open Go.RowKit


def RowC {α : Type} (k : Nat) (enc : α → List Value) (w : World) (ao : Option Addr) (xs : List α) : Prop :=
 xs = [] ∨ ∃ b off, ao = some ⟨b, off, none⟩ ∧ b < w.heap.size ∧ ∀ i x, xs[i]? = some x → ∀ j c, (enc x)[j]? = some c → w.cell? ⟨b, off + i * k + j, none⟩ = some c
theorem RowC.below {α : Type} {k B : Nat} {enc : α → List Value} {w w' : World} {ao : Option Addr} {xs : List α} (h : RowC k enc w ao xs) (hb : Below w.heap.size w w') : RowC k enc w' ao xs := by
 rcases h with h | ⟨b, off, h1, h2, h3⟩
 ·exact .inl h
 ·exact .inr ⟨b, off, h1, Nat.lt_of_lt_of_le h2 hb.size, fun i x hi j c hj => (hb.cell (p := ⟨b, off + i * k + j, none⟩) h2).trans (h3 i x hi j c hj)⟩
def enC (n : EN) : List Value := [.int .i64 n.tree, .int .i64 n.node, .int .i64 n.feat, .int .i64 n.mode, .int .u64 (n.val : Int), .int .i64 n.tru, .int .i64 n.fls, .bool n.trk]
def elC (l : EL) : List Value := [.int .i64 l.tree, .int .i64 l.node, .int .i64 l.tgt, .int .u64 (l.wt : Int)]
theorem enC_len (x : EN) : (enC x).length = 8 := rfl
theorem elC_len (x : EL) : (elC x).length = 4 := rfl
def IW (x : Int) : Prop := (Lit.int .i64 x).wf = true
structure ENW (n : EN) : Prop where
 v : n.val < 18446744073709551616
 tree : IW n.tree
 node : IW n.node
 feat : IW n.feat
 mode : IW n.mode
 tru : IW n.tru
 fls : IW n.fls
structure ELW (l : EL) : Prop where
 v : l.wt < 18446744073709551616
 tree : IW l.tree
 node : IW l.node
 tgt : IW l.tgt
structure EnsIs (w : World) (v : Value) (e : EE) (bo : Option Addr) (bc : Nat) (no : Option Addr) (nc : Nat) (lo : Option Addr) (lc : Nat) : Prop where
 val : v = .agg #[.int .i64 e.feats, .int .i64 e.tgts, .string ⟨e.agg.toArray⟩, .string ⟨e.post.toArray⟩, .slice bo e.base.length bc, .slice no e.nodes.length nc, .slice lo e.leaves.length lc]
 base : Cells .u64 w bo e.base
 nodes : RowC 8 enC w no e.nodes
 leaves : RowC 4 elC w lo e.leaves
 bl : e.base.length ≤ maxLen
 nl : e.nodes.length ≤ maxLen
 ll : e.leaves.length ≤ maxLen
 bv : ∀ b ∈ e.base, b < 18446744073709551616
 nv : ∀ n ∈ e.nodes, ENW n
 lv : ∀ l ∈ e.leaves, ELW l
theorem EnsIs.below {w w' : World} {v : Value} {e : EE} {bo no lo : Option Addr} {bc nc lc : Nat} (h : EnsIs w v e bo bc no nc lo lc) (hb : Below w.heap.size w w') : EnsIs w' v e bo bc no nc lo lc :=
 ⟨h.val, h.base.below hb, h.nodes.below (B := 0) hb, h.leaves.below (B := 0) hb, h.bl, h.nl, h.ll, h.bv, h.nv, h.lv⟩
theorem BoxL.of8 {w : World} {b : Nat} {x0 x1 x2 x3 x4 x5 x6 x7 : Value} (c0 : w.cell? ⟨b, 0, none⟩ = some x0) (c1 : w.cell? ⟨b, 1, none⟩ = some x1) (c2 : w.cell? ⟨b, 2, none⟩ = some x2) (c3 : w.cell? ⟨b, 3, none⟩ = some x3) (c4 : w.cell? ⟨b, 4, none⟩ = some x4) (c5 : w.cell? ⟨b, 5, none⟩ = some x5) (c6 : w.cell? ⟨b, 6, none⟩ = some x6) (c7 : w.cell? ⟨b, 7, none⟩ = some x7) (f0 : w.frozen? ⟨b, 0, none⟩ = false) (f1 : w.frozen? ⟨b, 1, none⟩ = false) (f2 : w.frozen? ⟨b, 2, none⟩ = false) (f3 : w.frozen? ⟨b, 3, none⟩ = false) (f4 : w.frozen? ⟨b, 4, none⟩ = false) (f5 : w.frozen? ⟨b, 5, none⟩ = false) (f6 : w.frozen? ⟨b, 6, none⟩ = false) (f7 : w.frozen? ⟨b, 7, none⟩ = false) : BoxL w b [x0, x1, x2, x3, x4, x5, x6, x7] := by
 refine ⟨fun i x hi => ?_, fun i hi => ?_, World.block_lt_of_cell? w ⟨b, 0, none⟩ c0⟩
 ·match i, hi with
  | 0, hi => simp at hi; subst hi; exact c0
  | 1, hi => simp at hi; subst hi; exact c1
  | 2, hi => simp at hi; subst hi; exact c2
  | 3, hi => simp at hi; subst hi; exact c3
  | 4, hi => simp at hi; subst hi; exact c4
  | 5, hi => simp at hi; subst hi; exact c5
  | 6, hi => simp at hi; subst hi; exact c6
  | 7, hi => simp at hi; subst hi; exact c7
 ·match i, hi with
  | 0, hi => exact f0
  | 1, hi => exact f1
  | 2, hi => exact f2
  | 3, hi => exact f3
  | 4, hi => exact f4
  | 5, hi => exact f5
  | 6, hi => exact f6
  | 7, hi => exact f7
def PredOn {α : Type} (P : Program) (g : Nat) (lb : Array Value) (enc : α → Value) (p : α → Bool) (w : World) (zs : List α) : Prop :=
 ∀ (W : World) (x : α), x ∈ zs → Below w.heap.size w W → Calls P g (#[enc x] ++ lb) W fun e w' => e = .returned (.bool (p x)) ∧ Below W.heap.size W w'
theorem RowC.get {α : Type} {k : Nat} {enc : α → List Value} {w : World} {b off : Nat} {xs : List α} (h : RowC k enc w (some ⟨b, off, none⟩) xs) {i : Nat} (hi : i < xs.length) :
  b < w.heap.size ∧ ∀ j c, (enc xs[i])[j]? = some c → w.cell? ⟨b, off + i * k + j, none⟩ = some c := by
 rcases h with rfl | ⟨b', off', e, h2, h3⟩
 ·simp at hi
 ·cases e
  exact ⟨h2, fun j c hj => h3 i _ (List.getElem?_eq_getElem hi) j c hj⟩
theorem RowC.addr {α : Type} {k : Nat} {enc : α → List Value} {w : World} {ao : Option Addr} {xs : List α} (h : RowC k enc w ao xs) {i : Nat} (hi : i < xs.length) : ∃ b off, ao = some ⟨b, off, none⟩ := by
 rcases h with rfl | ⟨b', off', e, h2, h3⟩
 ·simp at hi
 ·exact ⟨_, _, e⟩
theorem RowC.c8 {w W : World} {b off : Nat} {xs : List EN} (h : RowC 8 enC w (some ⟨b, off, none⟩) xs) (hb : Below w.heap.size w W) {i : Nat} (hi : i < xs.length) (y : EN) (hy : xs[i] = y) :
  W.cell? ⟨b, off + i * 8, none⟩ = some (.int .i64 y.tree) ∧ W.cell? ⟨b, off + i * 8 + 1, none⟩ = some (.int .i64 y.node) ∧ W.cell? ⟨b, off + i * 8 + 2, none⟩ = some (.int .i64 y.feat) ∧ W.cell? ⟨b, off + i * 8 + 3, none⟩ = some (.int .i64 y.mode) ∧ W.cell? ⟨b, off + i * 8 + 4, none⟩ = some (.int .u64 (y.val : Int)) ∧ W.cell? ⟨b, off + i * 8 + 5, none⟩ = some (.int .i64 y.tru) ∧ W.cell? ⟨b, off + i * 8 + 6, none⟩ = some (.int .i64 y.fls) ∧ W.cell? ⟨b, off + i * 8 + 7, none⟩ = some (.bool y.trk) := by
 obtain ⟨h1, h2⟩ := h.get hi
 rw [hy] at h2
 have h3 : ∀ j c, (enC y)[j]? = some c → W.cell? ⟨b, off + i * 8 + j, none⟩ = some c := fun j c hj => (hb.cell (p := ⟨b, off + i * 8 + j, none⟩) h1).trans (h2 j c hj)
 exact ⟨h3 0 _ rfl, h3 1 _ rfl, h3 2 _ rfl, h3 3 _ rfl, h3 4 _ rfl, h3 5 _ rfl, h3 6 _ rfl, h3 7 _ rfl⟩
theorem RowC.c4 {w W : World} {b off : Nat} {xs : List EL} (h : RowC 4 elC w (some ⟨b, off, none⟩) xs) (hb : Below w.heap.size w W) {i : Nat} (hi : i < xs.length) (y : EL) (hy : xs[i] = y) :
  W.cell? ⟨b, off + i * 4, none⟩ = some (.int .i64 y.tree) ∧ W.cell? ⟨b, off + i * 4 + 1, none⟩ = some (.int .i64 y.node) ∧ W.cell? ⟨b, off + i * 4 + 2, none⟩ = some (.int .i64 y.tgt) ∧ W.cell? ⟨b, off + i * 4 + 3, none⟩ = some (.int .u64 (y.wt : Int)) := by
 obtain ⟨h1, h2⟩ := h.get hi
 rw [hy] at h2
 have h3 : ∀ j c, (elC y)[j]? = some c → W.cell? ⟨b, off + i * 4 + j, none⟩ = some c := fun j c hj => (hb.cell (p := ⟨b, off + i * 4 + j, none⟩) h1).trans (h2 j c hj)
 exact ⟨h3 0 _ rfl, h3 1 _ rfl, h3 2 _ rfl, h3 3 _ rfl⟩
theorem boxE (w : World) (e : EE) (bo : Option Addr) (bc : Nat) (no : Option Addr) (nc : Nat) (lo : Option Addr) (lc : Nat) : ∃ w0, w0 = (w.alloc (.cells #[.int .i64 e.feats, .int .i64 e.tgts, .string ⟨e.agg.toArray⟩, .string ⟨e.post.toArray⟩, .slice bo e.base.length bc, .slice no e.nodes.length nc, .slice lo e.leaves.length lc] 33)) ∧ Below w.heap.size w w0 ∧ ∃ pe, pe = w.heap.size ∧ BoxL w0 pe [.int .i64 e.feats, .int .i64 e.tgts, .string ⟨e.agg.toArray⟩, .string ⟨e.post.toArray⟩, .slice bo e.base.length bc, .slice no e.nodes.length nc, .slice lo e.leaves.length lc] :=
 ⟨_, rfl, (Below.refl _ w).alloc (Nat.le_refl _) _, _, rfl, BoxL.new w [.int .i64 e.feats, .int .i64 e.tgts, .string ⟨e.agg.toArray⟩, .string ⟨e.post.toArray⟩, .slice bo e.base.length bc, .slice no e.nodes.length nc, .slice lo e.leaves.length lc] _⟩
theorem boxN (w : World) (y : EN) : ∃ W, W = w.alloc (.cells #[.int .i64 y.tree, .int .i64 y.node, .int .i64 y.feat, .int .i64 y.mode, .int .u64 (y.val : Int), .int .i64 y.tru, .int .i64 y.fls, .bool y.trk] 55) ∧ Below w.heap.size w W ∧ ∃ p, p = w.heap.size ∧ BoxL W p [.int .i64 y.tree, .int .i64 y.node, .int .i64 y.feat, .int .i64 y.mode, .int .u64 (y.val : Int), .int .i64 y.tru, .int .i64 y.fls, .bool y.trk] :=
 ⟨_, rfl, (Below.refl _ w).alloc (Nat.le_refl _) _, _, rfl, BoxL.new w [.int .i64 y.tree, .int .i64 y.node, .int .i64 y.feat, .int .i64 y.mode, .int .u64 (y.val : Int), .int .i64 y.tru, .int .i64 y.fls, .bool y.trk] _⟩
end Go.Proofs.YtieffhkfefimeaaGreatDoor
