/-
  Pk09: HeapL HeapM HeapO BookI HeapE SortN (what is needed of them).
-/
import Derived.Test.YtcpfanpcdkoiaaaGreatPk01
import Derived.Test.YtcpfanpcdkoiaaaGreatPk07
import Derived.Test.YtcpfanpcdkoiaaaGreatPk08
import Derived.BigQuiet
import Derived.Deep.LoopGhost
import Derived.Deep.Cut
import Derived.BigRegion
import Derived.WalkKit
import Derived.ProofKit
import Derived.OpenShut
import Derived.Carry
import Derived.ChangeSlices
import Derived.Shelf.SlicesQ.Load
import Derived.Shelf.Sort.Plain
import Derived.Ground.Names2Prog
import Derived.Shelf.Slices.CompactI
import Derived.Shelf.Slices.In.SortNone
import Derived.Test.YtcpfanpcdkoiaaaGreatProg
set_option maxRecDepth 100000
set_option linter.unusedVariables false
set_option linter.unusedSimpArgs false

namespace Go.Proofs.YtcpfanpcdkoiaaaGreat
open Go.RowKit


theorem run_appendK {P : Program} {t e : TypeId} {z : Value} {K bytes : Nat} (E : ElemK P t e z K bytes) (ty : TypeId) {w : World} {base n : Nat} {v : Value} {xs : List Value} (hown : OwnsK K base e w v n xs)
  (ad : Addr) (c : Nat) (us : List Value) (hul : us.length = K) (hu : ∀ j u', us[j]? = some u' → w.cell? (ad.add j) = some u') (h1 : ∀ u ∈ us, u.oneCell' = true) (hl : (n + 1) * bytes ≤ 140737488355328) (hm : n + 1 ≤ maxLen) (hbase : base ≤ w.heap.size) :
  ∃ v' w', (Builtin.append_ #[t, t] ty #[v, .slice (some ad) 1 c]).run P w = .ok v' w' ∧ OwnsK K base e w' v' (n + 1) (xs ++ us) ∧ w.grownBy w' v.ownBlock ∧
   (∀ g, v'.ownBlock = some g → v.ownBlock = some g ∨ w.heap.size ≤ g) ∧
   ∀ p : Value → Prop, RowAll p w v → (∀ u ∈ us, p u) → (∀ c ∈ z.cells, p c) → RowAll p w' v' := by
 obtain ⟨i, hi, hz, h4, h5⟩ := E.info
 have hxn := hown.1
 obtain ⟨v', w', hrun, r1, r2, r3⟩ := run_append_own (P := P) w base t ty e i z K bytes E.und hi hz h4 h5 E.many E.pos v n xs hown ad 1 c us (by omega) hu h1 hm hl hbase
 rcases hown.2 with ⟨rfl, hn0⟩ | ⟨g0, cap, cur, rfl, k1, k2, k3, k4, k5, k6⟩
 ·subst hn0
  have hxs : xs = [] := List.eq_nil_of_length_eq_zero (by omega)
  subst hxs
  have hr := run_append_nil (P := P) w t ty e i z E.und hi hz ad 1 c us (by rw [h4]; omega) hu (by omega) (by omega) (by rw [h5]; simp at hl; omega)
  rw [hr] at hrun
  injection hrun with e1 e2
  refine ⟨v', w', by rw [hr, e1, e2], r1, r2, ?_, ?_⟩
  ·intro g hg
   subst e1
   simp [Value.ownBlock] at hg
   exact .inr (by omega)
  ·intro p _ hp hpz g hg j c' hc'
   subst e1
   subst e2
   simp [Value.ownBlock] at hg
   subst hg
   have hm' := cell_mem (heap_alloc_new w.drew _) hc'
   simp only [List.mem_toArray, Array.mem_append] at hm'
   rcases hm' with hm' | hm'
   ·exact hp _ hm'
   ·exact hpz _ (mem_zeroCells hm')
 ·by_cases hroom : n + 1 ≤ cap
  ·have hr := run_append_room (P := P) w t ty e i E.und hi g0 n cap cur k2 ad 1 c us (by rw [h4]; omega) hu h1 hroom (by rw [h4]; have h9 := Nat.mul_le_mul_right K hroom; rw [Nat.add_mul] at h9; omega)
   rw [hr] at hrun
   injection hrun with e1 e2
   refine ⟨v', w', by rw [hr, e1, e2], r1, r2, ?_, ?_⟩
   ·intro g hg
    subst e1
    exact .inl hg
   ·intro p ha hp hpz g hg j c' hc'
    subst e1
    subst e2
    simp [Value.ownBlock] at hg
    subst hg
    have hm' := cell_mem (setRow_heap w g0 cur _ e _ k2) hc'
    have old : ∀ c'' ∈ cur.toList, p c'' := by
     intro c'' hc''
     obtain ⟨j', hj', rfl⟩ := List.mem_iff_getElem.1 hc''
     refine ha g0 rfl j' _ ?_
     unfold World.cell?
     simp [k2]
    simp only [List.mem_toArray, List.mem_append] at hm'
    rcases hm' with (hm' | hm') | hm'
    ·exact old _ (List.mem_of_mem_take hm')
    ·exact hp _ hm'
    ·exact old _ (List.mem_of_mem_drop hm')
  ·have hr := run_append_grow (P := P) w t ty e i z E.und hi hz ⟨g0, 0, none⟩ n cap xs (by rw [h4]; omega) (World.ownsRow.cells hown (g := g0) rfl) ad 1 c us (by rw [h4]; omega) hu (by omega) (by simp only [maxLen] at hm; omega) (growslice_fits (by omega) (by rw [h5]; exact hl))
   rw [hr] at hrun
   injection hrun with e1 e2
   refine ⟨v', w', by rw [hr, e1, e2], r1, r2, ?_, ?_⟩
   ·intro g hg
    subst e1
    simp [Value.ownBlock] at hg
    exact .inr (by omega)
   ·intro p ha hp hpz g hg j c' hc'
    subst e1
    subst e2
    simp [Value.ownBlock] at hg
    subst hg
    have hm' := cell_mem (heap_alloc_new w.drew _) hc'
    have old : ∀ c'' ∈ cur.toList, p c'' := by
     intro c'' hc''
     obtain ⟨j', hj', rfl⟩ := List.mem_iff_getElem.1 hc''
     refine ha g0 rfl j' _ ?_
     unfold World.cell?
     simp [k2]
    simp only [List.mem_toArray, Array.mem_append, List.mem_append] at hm'
    rcases hm' with (hm' | hm') | hm'
    ·exact old _ (by rw [← k6] at hm'; exact List.mem_of_mem_take hm')
    ·exact hp _ hm'
    ·exact hpz _ (mem_zeroCells hm')
theorem append1KAt {P : Program} {t e : TypeId} {z : Value} {K bytes : Nat} (E : ElemK P t e z K bytes) {w : World} {ops : Array Oper} {rest : List Oper} {o : Oper} {a : Act} {Q : Exit → Act → World → Prop} {s x : Operand} {us : Array Value} {base n : Nat} {v : Value} {xs : List Value} {p : Value → Prop}
  (hown : OwnsK K base e w v n xs) (hra : RowAll p w v) (hu : ∀ u ∈ us.toList, p u) (hz : ∀ c ∈ z.cells, p c) (hgd : o.guard = none) (ho : o.op = .call { callee := .builtin .append, args := #[s, x], argTypes := #[t, t] }) (hs : a.eval s = v)
  (hx : a.eval x = .slice (some ⟨w.heap.size, 0, none⟩) 1 1) (hus : us.size = K) (h1 : ∀ u ∈ us.toList, u.oneCell' = true) (hl : (n + 1) * bytes ≤ 140737488355328) (hm : n + 1 ≤ maxLen) (hbase : base ≤ w.heap.size)
  (h : ∀ v' w', OwnsK K base e w' v' (n + 1) (xs ++ us.toList) → Below base w w' → w.grownBy w' v.ownBlock → (∀ g, v'.ownBlock = some g → v.ownBlock = some g ∨ w.heap.size ≤ g) → RowAll p w' v' → wpList P ops Q rest (a.put o.dst v') w') : wpList P ops Q (o :: rest) a (w.alloc (.cells us e)) := by
 have hra' : RowAll p (w.alloc (.cells us e)) v := by
  intro g hg j c hc
  have hlt := World.ownsRow.lt hown g hg
  rw [World.cell?_alloc_past _ _ _ hlt.2] at hc
  exact hra g hg j c hc
 obtain ⟨v', w', hrun, r1, r2, r3, r4⟩ := run_appendK (P := P) E o.type (w := w.alloc (.cells us e)) (hown.alloc _) ⟨w.heap.size, 0, none⟩ 1 us.toList (by simp [hus]) (by
  intro j u' hj
  rw [Addr.add_lit, Nat.zero_add]
  unfold World.cell?
  rw [show (w.alloc (.cells us e)).heap[w.heap.size]? = some (.cells us e) from heap_alloc_new w _]
  simpa using hj) h1 hl hm (by simp; omega)
 refine wpList_plain hgd fun K' hK => ?_
 unfold Oper.wp
 simp [execOp, ho, resolve, invoke, builtin, hs, hx, hrun, Result.andThen]
 have hg : w.grownBy w' v.ownBlock := ⟨r2.os, r2.tape, r2.output, Nat.le_trans (by simp) r2.size, fun k hk hne => (r2.block k (by simp; omega) hne).trans (Below.heap_alloc _ _ _ hk)⟩
 refine hK _ _ (h v' w' r1 ⟨hg.os, hg.tape, hg.output, hg.size, fun k hk => hg.block k (by omega) (fun e' => ?_)⟩ hg ?_ (r4 p hra' hu hz))
 ·have := World.ownsRow.lt hown k e'.symm
  omega
 ·intro g hg'
  rcases r3 g hg' with h4 | h4
  ·exact .inl h4
  ·exact .inr (by simp at h4; omega)
end Go.Proofs.YtcpfanpcdkoiaaaGreat

namespace Go.Proofs.YtcpfanpcdkoiaaaGreat
open Go.RowKit


structure BoxL (w : World) (b : Nat) (xs : List Value) : Prop where
 cell : ∀ (i : Nat) (x : Value), xs[i]? = some x → w.cell? ⟨b, i, none⟩ = some x
 free : ∀ (i : Nat), i < xs.length → w.frozen? ⟨b, i, none⟩ = false
 lt : b < w.heap.size
theorem BoxL.block {w w' : World} {b : Nat} {xs : List Value} (h : BoxL w b xs) (hg : w'.heap[b]? = w.heap[b]?) : BoxL w' b xs :=
 ⟨fun i x hi => (World.cell?_of_block (w := w) (a := ⟨b, i, none⟩) hg).trans (h.cell i x hi), fun i hi => (World.frozen?_of_block (w := w) (a := ⟨b, i, none⟩) hg).trans (h.free i hi), by
  have h1 : w.heap[b]? = some (w.heap[b]'h.lt) := Array.getElem?_eq_getElem h.lt
  rw [← hg] at h1; exact (Array.getElem?_eq_some_iff.1 h1).1⟩
theorem BoxL.kept {w w' : World} {b : Nat} {xs : List Value} (h : BoxL w b xs) (hb : Below w.heap.size w w') : BoxL w' b xs := h.block (hb.block b h.lt)
theorem BoxL.below {w w' : World} {b B : Nat} {xs : List Value} (h : BoxL w b xs) (hb : Below B w w') (hB : b < B) : BoxL w' b xs := h.block (hb.block b hB)
theorem BoxL.drew {w : World} {b : Nat} {xs : List Value} (h : BoxL w b xs) : BoxL w.drew b xs := ⟨h.cell, h.free, h.lt⟩
theorem BoxL.new (w : World) (xs : List Value) (t : TypeId) : BoxL (w.alloc (.cells xs.toArray t)) w.heap.size xs := by
 refine ⟨fun i x hi => ?_, fun i hi => ?_, by simp⟩
 ·unfold World.cell?
  rw [show (w.alloc (.cells xs.toArray t)).heap[w.heap.size]? = some (.cells xs.toArray t) from heap_alloc_new w _]
  simpa using hi
 ·unfold World.frozen?
  rw [show (w.alloc (.cells xs.toArray t)).heap[w.heap.size]? = some (.cells xs.toArray t) from heap_alloc_new w _]
  simp
theorem BoxL.set {w : World} {b : Nat} {xs : List Value} (h : BoxL w b xs) (i : Nat) (u : Value) (hi : i < xs.length) : BoxL (w.setCell ⟨b, i, none⟩ u) b (xs.set i u) := by
 refine ⟨fun j x hj => ?_, fun j hj => ?_, by simpa [World.setCell] using h.lt⟩
 ·by_cases e : j = i
  ·subst e
   rw [List.getElem?_set_self hi] at hj
   cases hj
   exact cell_set (h.cell j (xs[j]'hi) (List.getElem?_eq_getElem hi))
  ·rw [List.getElem?_set_ne (fun h => e h.symm)] at hj
   rw [World.cell?_setCell_other]
   ·exact h.cell j x hj
   ·intro e'; have h2 : i = j := by injection e'
    exact e h2.symm
 ·rw [World.frozen?_setCell]
  exact h.free j (by simpa using hj)
theorem BoxL.setOther {w : World} {b g : Nat} {xs : List Value} (h : BoxL w b xs) (hne : b ≠ g) (j : Nat) (u : Value) : BoxL (w.setCell ⟨g, j, none⟩ u) b xs :=
 h.block ((grownBy_set (grownBy_refl w (some g)) j u).block b h.lt (by simpa using hne))
theorem BoxL.of4 {w : World} {b : Nat} {x0 x1 x2 x3 : Value} (c0 : w.cell? ⟨b, 0, none⟩ = some x0) (c1 : w.cell? ⟨b, 1, none⟩ = some x1) (c2 : w.cell? ⟨b, 2, none⟩ = some x2) (c3 : w.cell? ⟨b, 3, none⟩ = some x3) (f0 : w.frozen? ⟨b, 0, none⟩ = false) (f1 : w.frozen? ⟨b, 1, none⟩ = false) (f2 : w.frozen? ⟨b, 2, none⟩ = false) (f3 : w.frozen? ⟨b, 3, none⟩ = false) : BoxL w b [x0, x1, x2, x3] := by
 refine ⟨fun i x hi => ?_, fun i hi => ?_, World.block_lt_of_cell? w ⟨b, 0, none⟩ c0⟩
 ·match i, hi with
  | 0, hi => simp at hi; subst hi; exact c0
  | 1, hi => simp at hi; subst hi; exact c1
  | 2, hi => simp at hi; subst hi; exact c2
  | 3, hi => simp at hi; subst hi; exact c3
 ·match i, hi with
  | 0, hi => exact f0
  | 1, hi => exact f1
  | 2, hi => exact f2
  | 3, hi => exact f3
theorem BoxL.of7 {w : World} {b : Nat} {x0 x1 x2 x3 x4 x5 x6 : Value} (c0 : w.cell? ⟨b, 0, none⟩ = some x0) (c1 : w.cell? ⟨b, 1, none⟩ = some x1) (c2 : w.cell? ⟨b, 2, none⟩ = some x2) (c3 : w.cell? ⟨b, 3, none⟩ = some x3) (c4 : w.cell? ⟨b, 4, none⟩ = some x4) (c5 : w.cell? ⟨b, 5, none⟩ = some x5) (c6 : w.cell? ⟨b, 6, none⟩ = some x6) (f0 : w.frozen? ⟨b, 0, none⟩ = false) (f1 : w.frozen? ⟨b, 1, none⟩ = false) (f2 : w.frozen? ⟨b, 2, none⟩ = false) (f3 : w.frozen? ⟨b, 3, none⟩ = false) (f4 : w.frozen? ⟨b, 4, none⟩ = false) (f5 : w.frozen? ⟨b, 5, none⟩ = false) (f6 : w.frozen? ⟨b, 6, none⟩ = false) : BoxL w b [x0, x1, x2, x3, x4, x5, x6] := by
 refine ⟨fun i x hi => ?_, fun i hi => ?_, World.block_lt_of_cell? w ⟨b, 0, none⟩ c0⟩
 ·match i, hi with
  | 0, hi => simp at hi; subst hi; exact c0
  | 1, hi => simp at hi; subst hi; exact c1
  | 2, hi => simp at hi; subst hi; exact c2
  | 3, hi => simp at hi; subst hi; exact c3
  | 4, hi => simp at hi; subst hi; exact c4
  | 5, hi => simp at hi; subst hi; exact c5
  | 6, hi => simp at hi; subst hi; exact c6
 ·match i, hi with
  | 0, hi => exact f0
  | 1, hi => exact f1
  | 2, hi => exact f2
  | 3, hi => exact f3
  | 4, hi => exact f4
  | 5, hi => exact f5
  | 6, hi => exact f6
structure Keep (S : Nat → Prop) (w w' : World) : Prop where
 os : w'.os = w.os
 tape : w'.tape = w.tape
 output : w'.output = w.output
 size : w.heap.size ≤ w'.heap.size
 same : ∀ k, k < w.heap.size → ¬ S k → w'.heap[k]? = w.heap[k]?
theorem Keep.refl (S : Nat → Prop) (w : World) : Keep S w w := ⟨rfl, rfl, rfl, Nat.le_refl _, fun _ _ _ => rfl⟩
theorem Keep.of_below {S : Nat → Prop} {w w' : World} (h : Below w.heap.size w w') : Keep S w w' := ⟨h.os, h.tape, h.output, h.size, fun k hk _ => h.block k hk⟩
theorem Keep.trans {S S' : Nat → Prop} {a b c : World} (h : Keep S a b) (h' : Keep S' b c) (hS : ∀ k, k < a.heap.size → S' k → S k) : Keep S a c :=
 ⟨h'.os.trans h.os, h'.tape.trans h.tape, h'.output.trans h.output, Nat.le_trans h.size h'.size, fun k hk hs => (h'.same k (Nat.lt_of_lt_of_le hk h.size) (fun h2 => hs (hS k hk h2))).trans (h.same k hk hs)⟩
theorem Keep.then_below {S : Nat → Prop} {a b c : World} (h : Keep S a b) (h' : Below b.heap.size b c) : Keep S a c := h.trans (Keep.of_below (S := fun _ => False) h') (fun _ _ h => h.elim)
theorem Keep.mono {S S' : Nat → Prop} {a b : World} (h : Keep S a b) (hS : ∀ k, k < a.heap.size → S k → S' k) : Keep S' a b := ⟨h.os, h.tape, h.output, h.size, fun k hk hs => h.same k hk (fun h2 => hs (hS k hk h2))⟩
theorem Keep.below {S : Nat → Prop} {a b : World} {B : Nat} (h : Keep S a b) (hS : ∀ k, S k → B ≤ k) (hB : B ≤ a.heap.size) : Below B a b :=
 ⟨h.os, h.tape, h.output, h.size, fun k hk => h.same k (by omega) (fun h2 => by have := hS k h2; omega)⟩
theorem Keep.set {S : Nat → Prop} {a b : World} (h : Keep S a b) (g j : Nat) (u : Value) (hg : S g ∨ a.heap.size ≤ g) : Keep S a (b.setCell ⟨g, j, none⟩ u) := by
 have hs := grownBy_set (grownBy_refl b (some g)) j u
 exact ⟨hs.os.trans h.os, hs.tape.trans h.tape, hs.output.trans h.output, Nat.le_trans h.size hs.size, fun k hk hs2 => (hs.block k (Nat.lt_of_lt_of_le hk h.size) (fun e => by
  cases e
  rcases hg with h1 | h1
  ·exact hs2 h1
  ·omega)).trans (h.same k hk hs2)⟩
theorem BoxL.keep {S : Nat → Prop} {w w' : World} {b : Nat} {xs : List Value} (h : BoxL w b xs) (hk : Keep S w w') (hs : ¬ S b) : BoxL w' b xs := h.block (hk.same b h.lt hs)
theorem BoxL.c7 {w : World} {b : Nat} {x0 x1 x2 x3 x4 x5 x6 : Value} (h : BoxL w b [x0, x1, x2, x3, x4, x5, x6]) : w.cell? ⟨b, 0, none⟩ = some x0 ∧ w.cell? ⟨b, 1, none⟩ = some x1 ∧ w.cell? ⟨b, 2, none⟩ = some x2 ∧ w.cell? ⟨b, 3, none⟩ = some x3 ∧ w.cell? ⟨b, 4, none⟩ = some x4 ∧ w.cell? ⟨b, 5, none⟩ = some x5 ∧ w.cell? ⟨b, 6, none⟩ = some x6 := ⟨h.cell 0 _ rfl, h.cell 1 _ rfl, h.cell 2 _ rfl, h.cell 3 _ rfl, h.cell 4 _ rfl, h.cell 5 _ rfl, h.cell 6 _ rfl⟩
theorem BoxL.c8 {w : World} {b : Nat} {x0 x1 x2 x3 x4 x5 x6 x7 : Value} (h : BoxL w b [x0, x1, x2, x3, x4, x5, x6, x7]) : w.cell? ⟨b, 0, none⟩ = some x0 ∧ w.cell? ⟨b, 1, none⟩ = some x1 ∧ w.cell? ⟨b, 2, none⟩ = some x2 ∧ w.cell? ⟨b, 3, none⟩ = some x3 ∧ w.cell? ⟨b, 4, none⟩ = some x4 ∧ w.cell? ⟨b, 5, none⟩ = some x5 ∧ w.cell? ⟨b, 6, none⟩ = some x6 ∧ w.cell? ⟨b, 7, none⟩ = some x7 := ⟨h.cell 0 _ rfl, h.cell 1 _ rfl, h.cell 2 _ rfl, h.cell 3 _ rfl, h.cell 4 _ rfl, h.cell 5 _ rfl, h.cell 6 _ rfl, h.cell 7 _ rfl⟩
end Go.Proofs.YtcpfanpcdkoiaaaGreat

namespace Go.Proofs.YtcpfanpcdkoiaaaGreat
open Go.RowKit


theorem append1KO {P : Program} {t e : TypeId} {z : Value} {K bytes : Nat} (E : ElemK P t e z K bytes) {w : World} {ops : Array Oper} {rest : List Oper} {o : Oper} {a : Act} {Q : Exit → Act → World → Prop} {s x : Operand} {us : Array Value} {base n : Nat} {v : Value} {xs : List Value}
  (hown : OwnsK K base e w v n xs) (hgd : o.guard = none) (ho : o.op = .call { callee := .builtin .append, args := #[s, x], argTypes := #[t, t] }) (hs : a.eval s = v)
  (hx : a.eval x = .slice (some ⟨w.heap.size, 0, none⟩) 1 1) (hus : us.size = K) (h1 : ∀ u ∈ us.toList, u.oneCell' = true) (hl : (n + 1) * bytes ≤ 140737488355328) (hm : n + 1 ≤ maxLen) (hbase : base ≤ w.heap.size)
  (h : ∀ v' w', OwnsK K base e w' v' (n + 1) (xs ++ us.toList) → Below base w w' → w.grownBy w' v.ownBlock → (∀ g, v'.ownBlock = some g → v.ownBlock = some g ∨ w.heap.size ≤ g) → wpList P ops Q rest (a.put o.dst v') w') :
  wpList P ops Q (o :: rest) a (w.alloc (.cells us e)) :=
 append1KAt (p := fun _ => True) E hown (fun _ _ _ _ _ => trivial) (fun _ _ => trivial) (fun _ _ => trivial) hgd ho hs hx hus h1 hl hm hbase (fun v' w' a b c d _ => h v' w' a b c d)
theorem OwnsK.block {K base : Nat} {e : TypeId} {w w' : World} {v : Value} {n : Nat} {xs : List Value} (h : OwnsK K base e w v n xs) (hb : ∀ g, v.ownBlock = some g → w'.heap[g]? = w.heap[g]?) : OwnsK K base e w' v n xs := by
 obtain ⟨h1, h2 | ⟨g, cap, cur, rfl, h3, h4, h5⟩⟩ := h
 ·exact ⟨h1, .inl h2⟩
 ·exact ⟨h1, .inr ⟨g, cap, cur, rfl, h3, (hb g rfl).trans h4, h5⟩⟩
theorem OwnsK.lt {K base : Nat} {e : TypeId} {w : World} {v : Value} {n : Nat} {xs : List Value} (h : OwnsK K base e w v n xs) : ∀ g, v.ownBlock = some g → base ≤ g ∧ g < w.heap.size := World.ownsRow.lt h
theorem OwnsK.keep {S : Nat → Prop} {K base : Nat} {e : TypeId} {w w' : World} {v : Value} {n : Nat} {xs : List Value} (h : OwnsK K base e w v n xs) (hk : Keep S w w') (hs : ∀ g, v.ownBlock = some g → ¬ S g) : OwnsK K base e w' v n xs :=
 h.block fun g hg => hk.same g (h.lt g hg).2 (hs g hg)
theorem OwnsK.at_cells {K base : Nat} {e : TypeId} {w : World} {v : Value} {n : Nat} {xs : List Value} (h : OwnsK K base e w v n xs) : ∀ g, v.ownBlock = some g → ∃ o : Obj, w.heap[g]? = some o ∧ o.isCells = true := by
 intro g hg
 obtain ⟨h1, ⟨rfl, _⟩ | ⟨g', cap, cur, rfl, h3, h4, h5⟩⟩ := h
 ·simp [Value.ownBlock] at hg
 ·simp [Value.ownBlock] at hg; subst hg; exact ⟨_, h4, rfl⟩
theorem OwnsK.ext {K B base : Nat} {e : TypeId} {w w' : World} {v : Value} {n : Nat} {xs : List Value} (h : OwnsK K base e w v n xs) (hx : Ext B w w') : OwnsK K base e w' v n xs :=
 h.block fun g hg => by
  obtain ⟨o, h1, h2⟩ := h.at_cells g hg
  rw [h1]; exact hx.cells g o h1 h2
theorem BoxL.ext {B : Nat} {w w' : World} {b : Nat} {xs : List Value} (h : BoxL w b xs) (hx : Ext B w w') (hne : 0 < xs.length) : BoxL w' b xs := by
 have h0 := h.cell 0 (xs[0]'hne) (List.getElem?_eq_getElem hne)
 have h1 : ∃ o : Obj, w.heap[b]? = some o ∧ o.isCells = true := by
  unfold World.cell? at h0
  split at h0
  ·rename_i hb; exact ⟨_, hb, rfl⟩
  ·cases h0
 obtain ⟨o, h2, h3⟩ := h1
 exact h.block (by rw [h2]; exact hx.cells b o h2 h3)
theorem OwnsK.slice {K base : Nat} {e : TypeId} {w : World} {v : Value} {n : Nat} {xs : List Value} (h : OwnsK K base e w v n xs) : ∃ ao cap, v = .slice ao n cap ∧ n ≤ cap ∧ cap ≤ maxLen ∧ (ao = none → cap = 0) := by
 rcases h.shape with ⟨rfl, rfl⟩ | ⟨g, cap, rfl, _, _, h4, h5, _, _⟩
 ·exact ⟨_, _, rfl, Nat.le_refl _, Nat.zero_le _, fun _ => rfl⟩
 ·exact ⟨_, _, rfl, h4, h5, fun h => by cases h⟩
end Go.Proofs.YtcpfanpcdkoiaaaGreat

namespace Go.Proofs.YtcpfanpcdkoiaaaGreat
open Go.ChangeShapes Go.WideShapes Go.ChangeAt Go.RowKit


def IntsI (k : IntKind) (w : World) (v : Value) (ns : List Int) : Prop :=
 ∃ ao cap, v = .slice ao ns.length cap ∧ ns.length ≤ cap ∧ cap ≤ maxLen ∧ (ns = [] ∨ ∃ b off, ao = some ⟨b, off, none⟩ ∧ b < w.heap.size ∧ ∀ i, i < ns.length → w.cell? ⟨b, off + i, none⟩ = some (.int k (ns[i]?.getD 0)))
theorem IntsI.below {k : IntKind} {w w' : World} {v : Value} {ns : List Int} (h : IntsI k w v ns) (hb : Below w.heap.size w w') : IntsI k w' v ns := by
 obtain ⟨ao, cap, h1, h2, h3, h4⟩ := h
 refine ⟨ao, cap, h1, h2, h3, ?_⟩
 rcases h4 with h4 | ⟨b, off, h5, h6, h7⟩
 ·exact .inl h4
 ·exact .inr ⟨b, off, h5, Nat.lt_of_lt_of_le h6 hb.size, fun i hi => (hb.cell (p := ⟨b, off + i, none⟩) h6).trans (h7 i hi)⟩
def IntsN (k : IntKind) (w : World) (v : Value) (ns : List Int) : Prop := IntsI k w v ns ∧ ∀ l c, v = .slice none l c → c = 0
theorem IntsN.below {k : IntKind} {w w' : World} {v : Value} {ns : List Int} (h : IntsN k w v ns) (hb : Below w.heap.size w w') : IntsN k w' v ns := ⟨h.1.below hb, h.2⟩
def ivals (k : IntKind) (ns : List Int) : List Value := ns.map fun n => .int k n
theorem ivals_length (k : IntKind) (ns : List Int) : (ivals k ns).length = ns.length := by simp [ivals]
theorem ivals_get {k : IntKind} {ns : List Int} {i : Nat} (hi : i < ns.length) : (ivals k ns)[i]? = some (.int k (ns[i]?.getD 0)) := by
 simp [ivals, List.getElem?_eq_getElem hi]
theorem ints_of_owns {k : IntKind} {B : Nat} {e : TypeId} {W : World} {v : Value} {ns : List Int} (h : Owns B e W v (ivals k ns)) : IntsN k W v ns := by
 rcases h.shape with ⟨e1, h1⟩ | ⟨g, cap, e1, h2, h3, h4, h5, h6, h7⟩
 ·have hn : ns = [] := by cases ns <;> simp [ivals] at h1 ⊢
  subst hn
  exact ⟨⟨none, 0, e1, Nat.le_refl _, Nat.zero_le _, .inl rfl⟩, fun l c e => by rw [e1] at e; cases e; rfl⟩
 ·rw [ivals_length] at h4 h6 e1
  exact ⟨⟨some ⟨g, 0, none⟩, cap, e1, h4, h5, .inr ⟨g, 0, rfl, h3, fun i hi => by rw [Nat.zero_add, h6 i hi, ivals_get hi]⟩⟩, fun l c e => by rw [e1] at e; cases e⟩
structure LentI (k : IntKind) (mark : Int) (B : Nat) (W : World) (v : Value) (ns : List Int) : Prop where
 row : ∃ g cap, v = .slice (some ⟨g, 0, none⟩) ns.length cap ∧ B ≤ g ∧ g < W.heap.size ∧ ns.length + 1 ≤ cap ∧ cap ≤ maxLen ∧ (∀ i, i < ns.length → W.cell? ⟨g, i, none⟩ = some (.int k (ns[i]?.getD 0))) ∧ W.cell? ⟨g, ns.length, none⟩ = some (.int k mark)
theorem LentI.below {k : IntKind} {mark : Int} {B : Nat} {w w' : World} {v : Value} {ns : List Int} (h : LentI k mark B w v ns) (hb : Below w.heap.size w w') : LentI k mark B w' v ns := by
 obtain ⟨g, cap, h1, h2, h3, h4, h5, h6, h7⟩ := h.row
 exact ⟨g, cap, h1, h2, Nat.lt_of_lt_of_le h3 hb.size, h4, h5, fun i hi => (hb.cell (p := ⟨g, i, none⟩) h3).trans (h6 i hi), (hb.cell (p := ⟨g, ns.length, none⟩) h3).trans h7⟩
theorem LentI.ints {k : IntKind} {mark : Int} {B : Nat} {w : World} {v : Value} {ns : List Int} (h : LentI k mark B w v ns) : IntsI k w v ns := by
 obtain ⟨g, cap, h1, h2, h3, h4, h5, h6, h7⟩ := h.row
 exact ⟨some ⟨g, 0, none⟩, cap, h1, by omega, h5, .inr ⟨g, 0, rfl, h3, fun i hi => by rw [Nat.zero_add]; exact h6 i hi⟩⟩
theorem E_ints : Elem Tryz.prog 53 3 (.int .i64 0) 8 := elem_of Tryz.underlying53 (by kernel_rfl) rfl
set_option maxHeartbeats 1000000 in
theorem same_ints (va vb : Value) (ns : List Int) (w : World) (ha : IntsI .i64 w va ns) (hb : IntsI .i64 w vb ns) :
  Calls Tryz.prog 23 #[va, vb] w fun e w' => e = .returned (.bool true) ∧ Below w.heap.size w w' := by
 obtain ⟨ao, ca, rfl, ha1, ha2, ha3⟩ := ha
 obtain ⟨bo, cb, rfl, hb1, hb2, hb3⟩ := hb
 unfold maxLen at ha2 hb2
 go_enter Tryz.func23, Tryz.ntmps23
 go_wp2_with fail
 go_loopg [5] ns.length (fun gg iv wr => ∃ i : Nat, i + gg = ns.length ∧ iv = .int .i64 (i : Int) ∧ Below w.heap.size w wr)
 case atStart => exact ⟨0, by omega, rfl, Below.refl _ _⟩
 case round =>
  obtain ⟨i, hi, rfl, hbr⟩ := hrel
  by_cases hil : i < ns.length
  ·rcases ha3 with h | ⟨ga, oa, rfl, hga, hca⟩
   ·rw [h] at hil; simp at hil
   rcases hb3 with h | ⟨gb, ob, rfl, hgb, hcb⟩
   ·rw [h] at hil; simp at hil
   have ea := (hbr.cell (p := ⟨ga, oa + i, none⟩) hga).trans (hca i hil)
   have eb := (hbr.cell (p := ⟨gb, ob + i, none⟩) hgb).trans (hcb i hil)
   clear hca hcb
   generalize ns[i]?.getD 0 = s at *
   have hss : (s == s) = true := beq_self_eq_true _
   have q1 : (i : Int) < (ns.length : Int) := by omega
   have q2 : (0 : Int) ≤ (i : Int) := by omega
   go_wp2_with fail
   go_quiet (fail)
   go_wp2_with fail
   go_roundg (gk - 1)
   case measure => omega
   case rel => exact ⟨i + 1, by omega, by first | rfl | go_num, ⟨hbr.os, hbr.tape, hbr.output, hbr.size, hbr.block⟩⟩
  ·have q1 : ¬ (i : Int) < (ns.length : Int) := by omega
   go_wp2_with fail
   go_ret
   exact ⟨rfl, hbr⟩
set_option maxHeartbeats 1000000 in
theorem same_pats (va vb : Value) (ns : List Int) (w : World) (ha : IntsI .u64 w va ns) (hb : IntsI .u64 w vb ns) :
  Calls Tryz.prog 24 #[va, vb] w fun e w' => e = .returned (.bool true) ∧ Below w.heap.size w w' := by
 obtain ⟨ao, ca, rfl, ha1, ha2, ha3⟩ := ha
 obtain ⟨bo, cb, rfl, hb1, hb2, hb3⟩ := hb
 unfold maxLen at ha2 hb2
 go_enter Tryz.func24, Tryz.ntmps24
 go_wp2_with fail
 go_loopg [5] ns.length (fun gg iv wr => ∃ i : Nat, i + gg = ns.length ∧ iv = .int .i64 (i : Int) ∧ Below w.heap.size w wr)
 case atStart => exact ⟨0, by omega, rfl, Below.refl _ _⟩
 case round =>
  obtain ⟨i, hi, rfl, hbr⟩ := hrel
  by_cases hil : i < ns.length
  ·rcases ha3 with h | ⟨ga, oa, rfl, hga, hca⟩
   ·rw [h] at hil; simp at hil
   rcases hb3 with h | ⟨gb, ob, rfl, hgb, hcb⟩
   ·rw [h] at hil; simp at hil
   have ea := (hbr.cell (p := ⟨ga, oa + i, none⟩) hga).trans (hca i hil)
   have eb := (hbr.cell (p := ⟨gb, ob + i, none⟩) hgb).trans (hcb i hil)
   clear hca hcb
   generalize ns[i]?.getD 0 = s at *
   have hss : (s == s) = true := beq_self_eq_true _
   have q1 : (i : Int) < (ns.length : Int) := by omega
   have q2 : (0 : Int) ≤ (i : Int) := by omega
   go_wp2_with fail
   go_quiet (fail)
   go_wp2_with fail
   go_roundg (gk - 1)
   case measure => omega
   case rel => exact ⟨i + 1, by omega, by first | rfl | go_num, ⟨hbr.os, hbr.tape, hbr.output, hbr.size, hbr.block⟩⟩
  ·have q1 : ¬ (i : Int) < (ns.length : Int) := by omega
   go_wp2_with fail
   go_ret
   exact ⟨rfl, hbr⟩
end Go.Proofs.YtcpfanpcdkoiaaaGreat

namespace Go.Proofs.YtcpfanpcdkoiaaaGreat
open Go.RowKit


def RowC {α : Type} (k : Nat) (enc : α → List Value) (w : World) (ao : Option Addr) (xs : List α) : Prop :=
 xs = [] ∨ ∃ b off, ao = some ⟨b, off, none⟩ ∧ b < w.heap.size ∧ ∀ i x, xs[i]? = some x → ∀ j c, (enc x)[j]? = some c → w.cell? ⟨b, off + i * k + j, none⟩ = some c
theorem RowC.below {α : Type} {k B : Nat} {enc : α → List Value} {w w' : World} {ao : Option Addr} {xs : List α} (h : RowC k enc w ao xs) (hb : Below w.heap.size w w') : RowC k enc w' ao xs := by
 rcases h with h | ⟨b, off, h1, h2, h3⟩
 ·exact .inl h
 ·exact .inr ⟨b, off, h1, Nat.lt_of_lt_of_le h2 hb.size, fun i x hi j c hj => (hb.cell (p := ⟨b, off + i * k + j, none⟩) h2).trans (h3 i x hi j c hj)⟩
def enC (n : EN) : List Value := [.int .i64 n.tree, .int .i64 n.node, .int .i64 n.feat, .int .i64 n.mode, .int .u64 (n.val : Int), .int .i64 n.tru, .int .i64 n.fls, .bool n.trk]
def elC (l : EL) : List Value := [.int .i64 l.tree, .int .i64 l.node, .int .i64 l.tgt, .int .u64 (l.wt : Int)]
theorem enC_len (x : EN) : (enC x).length = 8 := rfl
theorem elC_len (x : EL) : (elC x).length = 4 := rfl
def IW (x : Int) : Prop := (Lit.int .i64 x).wf = true
structure ENW (n : EN) : Prop where
 v : n.val < 18446744073709551616
 tree : IW n.tree
 node : IW n.node
 feat : IW n.feat
 mode : IW n.mode
 tru : IW n.tru
 fls : IW n.fls
structure ELW (l : EL) : Prop where
 v : l.wt < 18446744073709551616
 tree : IW l.tree
 node : IW l.node
 tgt : IW l.tgt
structure EnsIs (w : World) (v : Value) (e : EE) (bo : Option Addr) (bc : Nat) (no : Option Addr) (nc : Nat) (lo : Option Addr) (lc : Nat) : Prop where
 val : v = .agg #[.int .i64 e.feats, .int .i64 e.tgts, .string ⟨e.agg.toArray⟩, .string ⟨e.post.toArray⟩, .slice bo e.base.length bc, .slice no e.nodes.length nc, .slice lo e.leaves.length lc]
 base : Cells .u64 w bo e.base
 nodes : RowC 8 enC w no e.nodes
 leaves : RowC 4 elC w lo e.leaves
 bl : e.base.length ≤ maxLen
 nl : e.nodes.length ≤ maxLen
 ll : e.leaves.length ≤ maxLen
 bv : ∀ b ∈ e.base, b < 18446744073709551616
 nv : ∀ n ∈ e.nodes, ENW n
 lv : ∀ l ∈ e.leaves, ELW l
theorem EnsIs.below {w w' : World} {v : Value} {e : EE} {bo no lo : Option Addr} {bc nc lc : Nat} (h : EnsIs w v e bo bc no nc lo lc) (hb : Below w.heap.size w w') : EnsIs w' v e bo bc no nc lo lc :=
 ⟨h.val, h.base.below hb, h.nodes.below (B := 0) hb, h.leaves.below (B := 0) hb, h.bl, h.nl, h.ll, h.bv, h.nv, h.lv⟩
theorem BoxL.of8 {w : World} {b : Nat} {x0 x1 x2 x3 x4 x5 x6 x7 : Value} (c0 : w.cell? ⟨b, 0, none⟩ = some x0) (c1 : w.cell? ⟨b, 1, none⟩ = some x1) (c2 : w.cell? ⟨b, 2, none⟩ = some x2) (c3 : w.cell? ⟨b, 3, none⟩ = some x3) (c4 : w.cell? ⟨b, 4, none⟩ = some x4) (c5 : w.cell? ⟨b, 5, none⟩ = some x5) (c6 : w.cell? ⟨b, 6, none⟩ = some x6) (c7 : w.cell? ⟨b, 7, none⟩ = some x7) (f0 : w.frozen? ⟨b, 0, none⟩ = false) (f1 : w.frozen? ⟨b, 1, none⟩ = false) (f2 : w.frozen? ⟨b, 2, none⟩ = false) (f3 : w.frozen? ⟨b, 3, none⟩ = false) (f4 : w.frozen? ⟨b, 4, none⟩ = false) (f5 : w.frozen? ⟨b, 5, none⟩ = false) (f6 : w.frozen? ⟨b, 6, none⟩ = false) (f7 : w.frozen? ⟨b, 7, none⟩ = false) : BoxL w b [x0, x1, x2, x3, x4, x5, x6, x7] := by
 refine ⟨fun i x hi => ?_, fun i hi => ?_, World.block_lt_of_cell? w ⟨b, 0, none⟩ c0⟩
 ·match i, hi with
  | 0, hi => simp at hi; subst hi; exact c0
  | 1, hi => simp at hi; subst hi; exact c1
  | 2, hi => simp at hi; subst hi; exact c2
  | 3, hi => simp at hi; subst hi; exact c3
  | 4, hi => simp at hi; subst hi; exact c4
  | 5, hi => simp at hi; subst hi; exact c5
  | 6, hi => simp at hi; subst hi; exact c6
  | 7, hi => simp at hi; subst hi; exact c7
 ·match i, hi with
  | 0, hi => exact f0
  | 1, hi => exact f1
  | 2, hi => exact f2
  | 3, hi => exact f3
  | 4, hi => exact f4
  | 5, hi => exact f5
  | 6, hi => exact f6
  | 7, hi => exact f7
def PredOn {α : Type} (P : Program) (g : Nat) (lb : Array Value) (enc : α → Value) (p : α → Bool) (w : World) (zs : List α) : Prop :=
 ∀ (W : World) (x : α), x ∈ zs → Below w.heap.size w W → Calls P g (#[enc x] ++ lb) W fun e w' => e = .returned (.bool (p x)) ∧ Below W.heap.size W w'
theorem RowC.get {α : Type} {k : Nat} {enc : α → List Value} {w : World} {b off : Nat} {xs : List α} (h : RowC k enc w (some ⟨b, off, none⟩) xs) {i : Nat} (hi : i < xs.length) :
  b < w.heap.size ∧ ∀ j c, (enc xs[i])[j]? = some c → w.cell? ⟨b, off + i * k + j, none⟩ = some c := by
 rcases h with rfl | ⟨b', off', e, h2, h3⟩
 ·simp at hi
 ·cases e
  exact ⟨h2, fun j c hj => h3 i _ (List.getElem?_eq_getElem hi) j c hj⟩
theorem RowC.addr {α : Type} {k : Nat} {enc : α → List Value} {w : World} {ao : Option Addr} {xs : List α} (h : RowC k enc w ao xs) {i : Nat} (hi : i < xs.length) : ∃ b off, ao = some ⟨b, off, none⟩ := by
 rcases h with rfl | ⟨b', off', e, h2, h3⟩
 ·simp at hi
 ·exact ⟨_, _, e⟩
theorem RowC.c8 {w W : World} {b off : Nat} {xs : List EN} (h : RowC 8 enC w (some ⟨b, off, none⟩) xs) (hb : Below w.heap.size w W) {i : Nat} (hi : i < xs.length) (y : EN) (hy : xs[i] = y) :
  W.cell? ⟨b, off + i * 8, none⟩ = some (.int .i64 y.tree) ∧ W.cell? ⟨b, off + i * 8 + 1, none⟩ = some (.int .i64 y.node) ∧ W.cell? ⟨b, off + i * 8 + 2, none⟩ = some (.int .i64 y.feat) ∧ W.cell? ⟨b, off + i * 8 + 3, none⟩ = some (.int .i64 y.mode) ∧ W.cell? ⟨b, off + i * 8 + 4, none⟩ = some (.int .u64 (y.val : Int)) ∧ W.cell? ⟨b, off + i * 8 + 5, none⟩ = some (.int .i64 y.tru) ∧ W.cell? ⟨b, off + i * 8 + 6, none⟩ = some (.int .i64 y.fls) ∧ W.cell? ⟨b, off + i * 8 + 7, none⟩ = some (.bool y.trk) := by
 obtain ⟨h1, h2⟩ := h.get hi
 rw [hy] at h2
 have h3 : ∀ j c, (enC y)[j]? = some c → W.cell? ⟨b, off + i * 8 + j, none⟩ = some c := fun j c hj => (hb.cell (p := ⟨b, off + i * 8 + j, none⟩) h1).trans (h2 j c hj)
 exact ⟨h3 0 _ rfl, h3 1 _ rfl, h3 2 _ rfl, h3 3 _ rfl, h3 4 _ rfl, h3 5 _ rfl, h3 6 _ rfl, h3 7 _ rfl⟩
theorem RowC.c4 {w W : World} {b off : Nat} {xs : List EL} (h : RowC 4 elC w (some ⟨b, off, none⟩) xs) (hb : Below w.heap.size w W) {i : Nat} (hi : i < xs.length) (y : EL) (hy : xs[i] = y) :
  W.cell? ⟨b, off + i * 4, none⟩ = some (.int .i64 y.tree) ∧ W.cell? ⟨b, off + i * 4 + 1, none⟩ = some (.int .i64 y.node) ∧ W.cell? ⟨b, off + i * 4 + 2, none⟩ = some (.int .i64 y.tgt) ∧ W.cell? ⟨b, off + i * 4 + 3, none⟩ = some (.int .u64 (y.wt : Int)) := by
 obtain ⟨h1, h2⟩ := h.get hi
 rw [hy] at h2
 have h3 : ∀ j c, (elC y)[j]? = some c → W.cell? ⟨b, off + i * 4 + j, none⟩ = some c := fun j c hj => (hb.cell (p := ⟨b, off + i * 4 + j, none⟩) h1).trans (h2 j c hj)
 exact ⟨h3 0 _ rfl, h3 1 _ rfl, h3 2 _ rfl, h3 3 _ rfl⟩
theorem boxE (w : World) (e : EE) (bo : Option Addr) (bc : Nat) (no : Option Addr) (nc : Nat) (lo : Option Addr) (lc : Nat) : ∃ w0, w0 = (w.alloc (.cells #[.int .i64 e.feats, .int .i64 e.tgts, .string ⟨e.agg.toArray⟩, .string ⟨e.post.toArray⟩, .slice bo e.base.length bc, .slice no e.nodes.length nc, .slice lo e.leaves.length lc] 75)) ∧ Below w.heap.size w w0 ∧ ∃ pe, pe = w.heap.size ∧ BoxL w0 pe [.int .i64 e.feats, .int .i64 e.tgts, .string ⟨e.agg.toArray⟩, .string ⟨e.post.toArray⟩, .slice bo e.base.length bc, .slice no e.nodes.length nc, .slice lo e.leaves.length lc] :=
 ⟨_, rfl, (Below.refl _ w).alloc (Nat.le_refl _) _, _, rfl, BoxL.new w [.int .i64 e.feats, .int .i64 e.tgts, .string ⟨e.agg.toArray⟩, .string ⟨e.post.toArray⟩, .slice bo e.base.length bc, .slice no e.nodes.length nc, .slice lo e.leaves.length lc] _⟩
theorem boxN (w : World) (y : EN) : ∃ W, W = w.alloc (.cells #[.int .i64 y.tree, .int .i64 y.node, .int .i64 y.feat, .int .i64 y.mode, .int .u64 (y.val : Int), .int .i64 y.tru, .int .i64 y.fls, .bool y.trk] 131) ∧ Below w.heap.size w W ∧ ∃ p, p = w.heap.size ∧ BoxL W p [.int .i64 y.tree, .int .i64 y.node, .int .i64 y.feat, .int .i64 y.mode, .int .u64 (y.val : Int), .int .i64 y.tru, .int .i64 y.fls, .bool y.trk] :=
 ⟨_, rfl, (Below.refl _ w).alloc (Nat.le_refl _) _, _, rfl, BoxL.new w [.int .i64 y.tree, .int .i64 y.node, .int .i64 y.feat, .int .i64 y.mode, .int .u64 (y.val : Int), .int .i64 y.tru, .int .i64 y.fls, .bool y.trk] _⟩
end Go.Proofs.YtcpfanpcdkoiaaaGreat

namespace Go.Proofs
open Go.Shelf
def Tryz.lays189_ren : Go.Shelf.Ren := ⟨fun | 189 => 49 | 125 => 115 | 257 => 114 | 128 => 154 | 129 => 155 | 294 => 145 | 295 => 146 | 296 => 147 | 297 => 148 | 298 => 149 | 299 => 150 | 216 => 151 | 300 => 152 | 301 => 153 | 328 => 166 | 329 => 167 | 330 => 168 | 331 => 169 | 332 => 170 | 215 => 171 | 343 => 181 | n => n, fun | 28 => 53 | 3 => 3 | 46 => 134 | 0 => 0 | 51 => 211 | 53 => 41 | 4 => 4 | 183 => 204 | 182 => 203 | 131 => 48 | 5 => 5 | 9 => 9 | 218 => 223 | 222 => 226 | 228 => 235 | 229 => 139 | n => n, fun | n => n⟩
theorem Tryz.lays189 : Go.Proofs.Lays.n189 Tryz.prog Tryz.lays189_ren := {
 mixed := by kernel_rfl
 f125 := Tryz.func115.trans (congrArg some (by kernel_rfl))
 f128 := Tryz.func154.trans (congrArg some (by kernel_rfl))
 f129 := Tryz.func155.trans (congrArg some (by kernel_rfl))
 f189 := Tryz.func49.trans (congrArg some (by kernel_rfl))
 f215 := Tryz.func171.trans (congrArg some (by kernel_rfl))
 f216 := Tryz.func151.trans (congrArg some (by kernel_rfl))
 f257 := Tryz.func114.trans (congrArg some (by kernel_rfl))
 f294 := Tryz.func145.trans (congrArg some (by kernel_rfl))
 f295 := Tryz.func146.trans (congrArg some (by kernel_rfl))
 f296 := Tryz.func147.trans (congrArg some (by kernel_rfl))
 f297 := Tryz.func148.trans (congrArg some (by kernel_rfl))
 f298 := Tryz.func149.trans (congrArg some (by kernel_rfl))
 f299 := Tryz.func150.trans (congrArg some (by kernel_rfl))
 f300 := Tryz.func152.trans (congrArg some (by kernel_rfl))
 f301 := Tryz.func153.trans (congrArg some (by kernel_rfl))
 f328 := Tryz.func166.trans (congrArg some (by kernel_rfl))
 f329 := Tryz.func167.trans (congrArg some (by kernel_rfl))
 f330 := Tryz.func168.trans (congrArg some (by kernel_rfl))
 f331 := Tryz.func169.trans (congrArg some (by kernel_rfl))
 f332 := Tryz.func170.trans (congrArg some (by kernel_rfl))
 f343 := Tryz.func181.trans (congrArg some (by kernel_rfl))
 t0 := Tryz.underlying0
 a0 := Tryz.isAgg0
 z0 := Tryz.sizeOf0
 v0 := Tryz.zeroValue0
 t3 := Tryz.underlying3
 a3 := Tryz.isAgg3
 z3 := Tryz.sizeOf3
 v3 := Tryz.zeroValue3
 t4 := Tryz.underlying4
 a4 := Tryz.isAgg4
 z4 := Tryz.sizeOf4
 v4 := Tryz.zeroValue4
 t5 := Tryz.underlying5
 a5 := Tryz.isAgg5
 z5 := Tryz.sizeOf5
 v5 := Tryz.zeroValue5
 t9 := Tryz.underlying9
 a9 := Tryz.isAgg9
 z9 := Tryz.sizeOf9
 v9 := Tryz.zeroValue9
 t28 := Tryz.underlying53
 a28 := Tryz.isAgg53
 z28 := Tryz.sizeOf53
 v28 := Tryz.zeroValue53
 t46 := Tryz.underlying134
 a46 := Tryz.isAgg134
 z46 := Tryz.sizeOf134
 v46 := Tryz.zeroValue134
 t51 := Tryz.underlying211
 a51 := Tryz.isAgg211
 z51 := Tryz.sizeOf211
 v51 := Tryz.zeroValue211
 t53 := Tryz.underlying41
 a53 := Tryz.isAgg41
 z53 := Tryz.sizeOf41
 v53 := Tryz.zeroValue41
 t131 := Tryz.underlying48
 a131 := Tryz.isAgg48
 z131 := Tryz.sizeOf48
 v131 := Tryz.zeroValue48
 t182 := Tryz.underlying203
 a182 := Tryz.isAgg203
 z182 := Tryz.sizeOf203
 v182 := Tryz.zeroValue203
 t183 := Tryz.underlying204
 a183 := Tryz.isAgg204
 z183 := Tryz.sizeOf204
 v183 := Tryz.zeroValue204
 t218 := Tryz.underlying223
 a218 := Tryz.isAgg223
 z218 := Tryz.sizeOf223
 v218 := Tryz.zeroValue223
 t222 := Tryz.underlying226
 a222 := Tryz.isAgg226
 z222 := Tryz.sizeOf226
 v222 := Tryz.zeroValue226
 t228 := Tryz.underlying235
 a228 := Tryz.isAgg235
 z228 := Tryz.sizeOf235
 v228 := Tryz.zeroValue235
 t229 := Tryz.underlying139
 a229 := Tryz.isAgg139
 z229 := Tryz.sizeOf139
 v229 := Tryz.zeroValue139 }
open Go.Sort Go.RowKit in
theorem Tryz.slices_Sort_int (blk off cap : Nat) (zs : List Int) (w : World) (hH : Holds (Value.int .i64) w blk off zs.toArray) (hblk : blk < w.heap.size) (hsz : zs.length < 4611686018427387904) :
  Calls Tryz.prog 49 #[.slice (some ⟨blk, off, none⟩) zs.length cap] w fun e w' =>
   e = .returned (.tuple #[]) ∧ ∃ n os, w' = grow (putRow (Value.int .i64) (Sort.ahead w n) blk off (zs.mergeSort fun x y => decide (x ≤ y)).toArray) os := Any.slices_Sort_int Tryz.lays189 blk off cap zs w hH hblk hsz
def Tryz.laysNm220_ren : Go.Shelf.Ren := ⟨fun | 20 => 50 | n => n, fun | 22 => 53 | 3 => 3 | 4 => 4 | 0 => 0 | n => n, fun | n => n⟩
theorem Tryz.laysNm220 : Go.Proofs.Lays2.n20 Tryz.prog Tryz.laysNm220_ren := {
 mixed := by kernel_rfl
 f20 := Tryz.func50.trans (congrArg some (by kernel_rfl))
 t0 := Tryz.underlying0
 a0 := Tryz.isAgg0
 z0 := Tryz.sizeOf0
 v0 := Tryz.zeroValue0
 t3 := Tryz.underlying3
 a3 := Tryz.isAgg3
 z3 := Tryz.sizeOf3
 v3 := Tryz.zeroValue3
 t4 := Tryz.underlying4
 a4 := Tryz.isAgg4
 z4 := Tryz.sizeOf4
 v4 := Tryz.zeroValue4
 t22 := Tryz.underlying53
 a22 := Tryz.isAgg53
 z22 := Tryz.sizeOf53
 v22 := Tryz.zeroValue53
 i3 := by kernel_rfl }
open Go.RowKit Go.Lib Go.Sort in
theorem Tryz.slices_Compact_int_arr (blk off cap : Nat) (d : Array Int) (w : World) (hH : Holds encI w blk off d) (hsz : d.size ≤ 9223372036854775807) (hcap : d.size ≤ cap) :
  Calls Tryz.prog 50 #[.slice (some ⟨blk, off, none⟩) d.size cap] w fun e w' => e = .returned (.slice (some ⟨blk, off, none⟩) (compactUpTo d d.size).length cap) ∧ ∃ q, w' = putRow encI (Sort.ahead w q) blk off (compactUpTo d d.size ++ List.replicate (d.size - (compactUpTo d d.size).length) 0).toArray := Any.slices_Compact_int_arr Tryz.laysNm220 blk off cap d w hH hsz hcap
open Go.RowKit Go.Lib Go.Sort in
theorem Tryz.slices_Compact_int (blk off cap : Nat) (zs : List Int) (w : World) (hH : Holds (Value.int .i64) w blk off zs.toArray) (hsz : zs.length ≤ 9223372036854775807) (hcap : zs.length ≤ cap) :
  Calls Tryz.prog 50 #[.slice (some ⟨blk, off, none⟩) zs.length cap] w fun e w' => e = .returned (.slice (some ⟨blk, off, none⟩) (Lib.compact zs).length cap) ∧ ∃ q, w' = putRow (Value.int .i64) (Sort.ahead w q) blk off (Lib.compact zs ++ List.replicate (zs.length - (Lib.compact zs).length) 0).toArray := Any.slices_Compact_int Tryz.laysNm220 blk off cap zs w hH hsz hcap
open Go.RowKit Go.Lib Go.Sort in
theorem Tryz.slices_Compact_int_empty (a : Option Addr) (cap : Nat) (w : World) :
  Calls Tryz.prog 50 #[.slice a 0 cap] w fun e w' => e = .returned (.slice a 0 cap) ∧ w' = w := Any.slices_Compact_int_empty Tryz.laysNm220 a cap w
open Go.RowKit Go.Sort in
theorem Tryz.slices_Sort_int_none (p : Option Addr) (cap : Nat) (w : World) :
  Calls Tryz.prog 49 #[.slice p 0 cap] w fun e w' => e = .returned (.tuple #[]) ∧ w' = w := Any.slices_Sort_int_none Tryz.lays189 p cap w
end Go.Proofs
