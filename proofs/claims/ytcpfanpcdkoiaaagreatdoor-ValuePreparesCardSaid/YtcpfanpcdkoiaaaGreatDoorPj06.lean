/-
  Pj06: ComN HeapK HeapM BookA HeapL HeapO BookB (what is needed of them).
-/
import Derived.Test.YtcpfanpcdkoiaaaGreatDoorPj01
import Derived.Test.YtcpfanpcdkoiaaaGreatDoorPj04
import Derived.Test.YtcpfanpcdkoiaaaGreatDoorPj05
import Derived.Maps.AppendAt
import Derived.Deep.Upon
set_option maxRecDepth 100000
set_option linter.unusedVariables false
set_option linter.unusedSimpArgs false

namespace Go.Proofs.YtcpfanpcdkoiaaaGreatDoor
open Go.RowKit Go.Shelf


attribute [local go_sem] Oper.semAt_some
attribute [local go_sem] field_nat
def KeepNat (W W' : World) : Prop := ∀ v n, NatIs W v n → NatIs W' v n
theorem KeepNat.trans {A C D : World} (h : KeepNat A C) (h' : KeepNat C D) : KeepNat A D := fun v n hn => h' v n (h v n hn)
theorem KeepNat.of_cells {A C : World} (hs : A.heap.size ≤ C.heap.size) (h : ∀ p n, A.cell? p = some (.int .u32 n) → C.cell? p = some (.int .u32 n)) : KeepNat A C := by
 rintro v n ⟨sv, rfl, ao, cap, h1, h2, h3, h4, h5⟩
 refine ⟨sv, rfl, ao, cap, h1, h2, h3, h4, ?_⟩
 rcases h5 with h5 | ⟨b, off, h6, h7, h8⟩
 ·exact .inl h5
 ·refine .inr ⟨b, off, h6, Nat.lt_of_lt_of_le h7 hs, fun i hi => ?_⟩
  exact h _ _ (h8 i hi)
theorem KeepNat.below {A C : World} (h : Below A.heap.size A C) : KeepNat A C := fun v n hn => hn.below h
theorem Ext.block {B : Nat} {A C : World} (h : Ext B A C) {p : Addr} {v : Value} (hp : A.cell? p = some v) : C.heap[p.block]? = A.heap[p.block]? := by
 unfold World.cell? at hp
 split at hp
 ·rename_i hb
  rw [hb]; exact h.cells _ _ hb rfl
 ·cases hp
theorem Ext.cell {B : Nat} {A C : World} (h : Ext B A C) {p : Addr} {v : Value} (hp : A.cell? p = some v) : C.cell? p = some v :=
 (World.cell?_of_block (h.block hp)).trans hp
theorem KeepNat.ext {B : Nat} {A C : World} (h : Ext B A C) : KeepNat A C := KeepNat.of_cells h.size fun p n hp => h.cell hp
theorem Box.ext {B : Nat} {A C : World} {b : Nat} {v : Value} (hx : Box A b v) (h : Ext B A C) : Box C b v :=
 ⟨h.cell hx.cell, (World.frozen?_of_block (h.block hx.cell)).trans hx.free, Nat.lt_of_lt_of_le hx.lt h.size⟩
theorem Owns.ext {B base : Nat} {e : TypeId} {w w' : World} {v : Value} {xs : List Value} (h : Owns base e w v xs) (hx : Ext B w w') : Owns base e w' v xs := by
 refine ⟨h.1, ?_⟩
 rcases h.2 with h1 | ⟨g, cap, cur, rfl, h2, h3, h4⟩
 ·exact .inl h1
 ·exact .inr ⟨g, cap, cur, rfl, h2, hx.cells _ _ h3 rfl, h4⟩
theorem Iter.mono {α : Type} {P : Program} {gf : Nat} {lb : Array Value} {Enc : World → Value → α → Prop} {xs : List α} {B : Nat} {Kp : World → World → Prop} {w w' : World} (h : Iter P gf lb Enc xs B Kp w) (hb : Below w.heap.size w w') :
  Iter P gf lb Enc xs B Kp w' := fun l J Jx S0 W1 hW => h l J Jx S0 W1 (hb.trans (hW.mono hb.size))
theorem RowAll.block {p : Value → Prop} {W W' : World} {v : Value} (h : RowAll p W v) (hb : ∀ g, v.ownBlock = some g → W'.heap[g]? = W.heap[g]?) : RowAll p W' v :=
 fun g hg j c hc => h g hg j c ((World.cell?_of_block (a := ⟨g, j, none⟩) (hb g hg)).symm.trans hc)
theorem Owns.at_cells {base : Nat} {e : TypeId} {w : World} {v : Value} {xs : List Value} (h : Owns base e w v xs) : ∀ g, v.ownBlock = some g → base ≤ g ∧ g < w.heap.size ∧ ∃ o : Obj, w.heap[g]? = some o ∧ o.isCells = true := by
 intro g hg
 rcases h.2 with ⟨rfl, _⟩ | ⟨g', cap, cur, rfl, h2, h3, h4⟩
 ·simp [Value.ownBlock] at hg
 ·simp [Value.ownBlock] at hg
  subst hg
  exact ⟨h2, (Array.getElem?_eq_some_iff.1 h3).1, _, h3, rfl⟩
theorem RowAll.ext {p : Value → Prop} {B base : Nat} {e : TypeId} {W W' : World} {v : Value} {xs : List Value} (h : RowAll p W v) (hx : Ext B W W') (hO : Owns base e W v xs) : RowAll p W' v :=
 h.block fun g hg => by obtain ⟨_, _, o, h1, h2⟩ := hO.at_cells g hg; rw [h1]; exact hx.cells _ _ h1 h2
theorem RowAll.below {p : Value → Prop} {base : Nat} {e : TypeId} {W W' : World} {v : Value} {xs : List Value} (h : RowAll p W v) (hb : Below W.heap.size W W') (hO : Owns base e W v xs) : RowAll p W' v := h.ext (B := 0) (Ext.of_below hb) hO
theorem Iter.up {α : Type} {P : Program} {gf : Nat} {lb : Array Value} {Enc : World → Value → α → Prop} {xs : List α} {B B' : Nat} {Kp : World → World → Prop} {w w' : World} (h : Iter P gf lb Enc xs B Kp w) (hb : Below w.heap.size w w') (hB : B ≤ B') :
  Iter P gf lb Enc xs B' Kp w' := fun l J Jx S0 W1 hW hS => h l J Jx S0 W1 (hb.trans (hW.mono hb.size)) (fun k hk => ⟨Nat.le_trans hB (hS k hk).1, (hS k hk).2⟩)
theorem str_dec {l : List UInt8} (h : numOk l = true) : str (dec (dnum l)) = l := dec_dnum l h
theorem cons_bytes (c : UInt8) (l : List UInt8) : (⟨#[c]⟩ ++ ⟨l.toArray⟩ : ByteArray) = ⟨(c :: l).toArray⟩ := by
 apply ByteArray.ext
 simp
theorem foldl_lt (l : List UInt8) (hd : l.all isDig = true) : ∀ a, l.foldl (fun a c => a * 10 + (c.toNat - 48)) a < (a + 1) * 10 ^ l.length := by
 induction l with
 | nil => intro a; simp
 | cons c l ih =>
  intro a
  simp only [List.all_cons, Bool.and_eq_true, isDig, decide_eq_true_eq] at hd
  rw [List.foldl_cons, List.length_cons, Nat.pow_succ]
  refine Nat.lt_of_lt_of_le (ih (by simpa [isDig] using hd.2) _) ?_
  rw [Nat.mul_comm (10 ^ l.length) 10, ← Nat.mul_assoc]
  exact Nat.mul_le_mul_right _ (by omega)
theorem limbs_dnum {l : List UInt8} {m : Nat} (hd : l.all isDig = true) (h : l.length ≤ m) : (limbs (dnum l)).length ≤ m := by
 refine limbs_length_le ?_
 have h1 : dnum l < 10 ^ l.length := by
  have := foldl_lt l hd 0
  simpa [dnum] using this
 exact Nat.lt_of_lt_of_le h1 (Nat.le_trans (Nat.pow_le_pow_left (by omega) _) (Nat.pow_le_pow_right (by omega) h))
theorem str_dec_one : str (dec 1) = [49] := str_dec (l := [49]) (by decide)
theorem limbs_mul {a b m n : Nat} (ha : (limbs a).length ≤ m) (hb : (limbs b).length ≤ n) : (limbs (a * b)).length ≤ m + n := by
 have h1 := lt_pow_limbs a
 have h2 := lt_pow_limbs b
 refine Nat.le_trans (limbs_length_le (k := (limbs a).length + (limbs b).length) ?_) (by omega)
 rw [Nat.pow_add]
 rcases Nat.eq_zero_or_pos b with h0 | h0
 ·subst h0; rw [Nat.mul_zero]; exact Nat.mul_pos (Nat.pow_pos (by decide)) (Nat.pow_pos (by decide))
 ·exact Nat.lt_of_lt_of_le (Nat.mul_lt_mul_of_pos_right h1 h0) (Nat.mul_le_mul_left _ (Nat.le_of_lt h2))
theorem limbs_add {a b m : Nat} (ha : (limbs a).length ≤ m) (hb : (limbs b).length ≤ m) : (limbs (a + b)).length ≤ m + 1 := by
 have h1 : a < 4294967296 ^ m := Nat.lt_of_lt_of_le (lt_pow_limbs a) (Nat.pow_le_pow_right (by decide) ha)
 have h2 : b < 4294967296 ^ m := Nat.lt_of_lt_of_le (lt_pow_limbs b) (Nat.pow_le_pow_right (by decide) hb)
 refine limbs_length_le ?_
 rw [Nat.pow_succ]
 omega
theorem NatIs.alloc {w : World} {v : Value} {n : Nat} (h : NatIs w v n) (o : Obj) : NatIs (w.alloc o) v n := h.below ((Below.refl _ _).alloc (Nat.le_refl _) _)
def NotI (c : Value) : Prop := ∀ k n, c ≠ .int k n
structure KeepI (W W' : World) : Prop where
 size : W.heap.size ≤ W'.heap.size
 cell : ∀ k p n, W.cell? p = some (.int k n) → W'.cell? p = some (.int k n)
theorem KeepI.trans {A C D : World} (h : KeepI A C) (h' : KeepI C D) : KeepI A D := ⟨Nat.le_trans h.size h'.size, fun k p n hp => h'.cell k p n (h.cell k p n hp)⟩
theorem KeepI.below {A C : World} (h : Below A.heap.size A C) : KeepI A C := ⟨h.size, fun k p n hp => (h.cell (p := p) (World.block_lt_of_cell? A p hp)).trans hp⟩
theorem KeepI.grown {W w1 : World} {v : Value} (hg : W.grownBy w1 v.ownBlock) (ha : RowAll NotI W v) : KeepI W w1 := by
 refine ⟨hg.size, fun k p n hp => ?_⟩
 refine hg.cell hp ?_
 intro e
 obtain ⟨blk, off, spot⟩ := p
 have : spot = none := by
  unfold World.cell? at hp
  split at hp
  ·cases spot with
   | none => rfl
   | some x => simp at hp
  ·cases hp
 subst this
 exact ha blk e.symm off _ hp k n rfl
def ListAt (R : World → Value → Nat → Prop) (W : World) (svs : List Value) (ns : List Nat) : Prop := svs.length = ns.length ∧ ∀ (i : Nat) (sv : Value), svs[i]? = some sv → R W sv (ns[i]?.getD 0)
theorem ListAt.nil (R : World → Value → Nat → Prop) (W : World) : ListAt R W [] [] := ⟨rfl, fun i sv h => by simp at h⟩
theorem ListAt.keep {R : World → Value → Nat → Prop} {W W' : World} {svs : List Value} {ns : List Nat} (h : ListAt R W svs ns) (hk : ∀ v n, R W v n → R W' v n) : ListAt R W' svs ns :=
 ⟨h.1, fun i sv hi => hk _ _ (h.2 i sv hi)⟩
theorem ListAt.snoc {R : World → Value → Nat → Prop} {W : World} {svs : List Value} {ns : List Nat} {sv : Value} {n : Nat} (h : ListAt R W svs ns) (hn : R W sv n) : ListAt R W (svs ++ [sv]) (ns ++ [n]) := by
 refine ⟨by simp [h.1], fun i u hi => ?_⟩
 by_cases hlt : i < svs.length
 ·rw [List.getElem?_append_left hlt] at hi
  rw [List.getElem?_append_left (by rw [← h.1]; exact hlt)]
  exact h.2 i u hi
 ·have hie : i = svs.length := by
   have := (List.getElem?_eq_some_iff.1 hi).1
   simp at this; omega
  subst hie
  simp at hi
  subst hi
  rw [h.1]; simpa using hn
def Strs (w : World) (v : Value) (ls : List (List UInt8)) : Prop :=
 ∃ ao cap, v = .slice ao ls.length cap ∧ ls.length ≤ cap ∧ cap ≤ maxLen ∧ (ls = [] ∨ ∃ b off, ao = some ⟨b, off, none⟩ ∧ b < w.heap.size ∧ ∀ i, i < ls.length → w.cell? ⟨b, off + i, none⟩ = some (.string ⟨(ls[i]?.getD []).toArray⟩))
theorem Strs.below {w w' : World} {v : Value} {ls : List (List UInt8)} (h : Strs w v ls) (hb : Below w.heap.size w w') : Strs w' v ls := by
 obtain ⟨ao, cap, h1, h2, h3, h4⟩ := h
 refine ⟨ao, cap, h1, h2, h3, ?_⟩
 rcases h4 with h4 | ⟨b, off, h5, h6, h7⟩
 ·exact .inl h4
 ·exact .inr ⟨b, off, h5, Nat.lt_of_lt_of_le h6 hb.size, fun i hi => (hb.cell (p := ⟨b, off + i, none⟩) h6).trans (h7 i hi)⟩
theorem RowAll.grown {p : Value → Prop} {base : Nat} {e : TypeId} {W W' : World} {v u : Value} {xs : List Value} (h : RowAll p W v) (hO : Owns base e W v xs) (hg : W.grownBy W' u.ownBlock) (hne : ∀ g, v.ownBlock = some g → u.ownBlock ≠ some g) : RowAll p W' v :=
 h.block fun g hg' => hg.block g (hO.at_cells g hg').2.1 (fun e => hne g hg' e.symm)
end Go.Proofs.YtcpfanpcdkoiaaaGreatDoor

namespace Go.Proofs.YtcpfanpcdkoiaaaGreatDoor
open Go.RowKit


def OwnsK (K base : Nat) (e : TypeId) (w : World) (v : Value) (n : Nat) (xs : List Value) : Prop := w.ownsRow base e K v n xs
theorem OwnsK.nil (K base : Nat) (e : TypeId) (w : World) : OwnsK K base e w (.slice none 0 0) 0 [] := World.ownsRow_nil _ _ _ _
theorem OwnsK.len {K base : Nat} {e : TypeId} {w : World} {v : Value} {n : Nat} {xs : List Value} (h : OwnsK K base e w v n xs) : xs.length = n * K := h.1
theorem OwnsK.shape {K base : Nat} {e : TypeId} {w : World} {v : Value} {n : Nat} {xs : List Value} (h : OwnsK K base e w v n xs) :
  (v = .slice none 0 0 ∧ n = 0) ∨ ∃ g cap, v = .slice (some ⟨g, 0, none⟩) n cap ∧ base ≤ g ∧ g < w.heap.size ∧ n ≤ cap ∧ cap ≤ maxLen ∧
   (∀ j, j < n * K → w.cell? ⟨g, j, none⟩ = xs[j]?) ∧ (∀ j, w.frozen? ⟨g, j, none⟩ = false) := by
 have h0 := h
 obtain ⟨h1, ⟨rfl, hn⟩ | ⟨g, cap, cur, rfl, h2, h3, h4, h5, h6, h7⟩⟩ := h
 ·exact .inl ⟨rfl, hn⟩
 ·exact .inr ⟨g, cap, rfl, h2, (Array.getElem?_eq_some_iff.1 h3).1, h4, h5, fun j hj => World.ownsRow.cellAt h0 j (by omega), fun j => World.ownsRow.frozenAt h0 j⟩
theorem OwnsK.kept {K base : Nat} {e : TypeId} {w w' : World} {v : Value} {n : Nat} {xs : List Value} (h : OwnsK K base e w v n xs) (hb : Below w.heap.size w w') : OwnsK K base e w' v n xs :=
 World.ownsRow.kept (row := none) h ⟨hb.os, hb.tape, hb.output, hb.size, fun k hk _ => hb.block k hk⟩ (by cases hv : v.ownBlock <;> simp)
theorem OwnsK.alloc {K base : Nat} {e : TypeId} {w : World} {v : Value} {n : Nat} {xs : List Value} (h : OwnsK K base e w v n xs) (o : Obj) : OwnsK K base e (w.alloc o) v n xs := World.ownsRow.alloc h o
theorem OwnsK.mono {K base base' : Nat} {e : TypeId} {w : World} {v : Value} {n : Nat} {xs : List Value} (h : OwnsK K base e w v n xs) (hb : base' ≤ base) : OwnsK K base' e w v n xs := by
 obtain ⟨h1, h2 | ⟨g, cap, cur, h2, h3, h4⟩⟩ := h
 ·exact ⟨h1, .inl h2⟩
 ·exact ⟨h1, .inr ⟨g, cap, cur, h2, by omega, h4⟩⟩
structure ElemK (P : Program) (t e : TypeId) (z : Value) (K bytes : Nat) : Prop where
 und : P.underlying t = some (.slice e)
 info : ∃ i, P.info? e = some i ∧ i.zero = some z ∧ i.size = K ∧ i.bytes = bytes
 many : z.cells.size = K
 pos : 0 < K
theorem elemK_of {P : Program} {t e : TypeId} {z : Value} {K bytes : Nat} (h1 : P.underlying t = some (.slice e)) (h2 : (P.info? e).map (fun i => (i.zero, i.size, i.bytes)) = some (some z, K, bytes)) (h3 : z.cells.size = K) (h4 : 0 < K) : ElemK P t e z K bytes :=
 ⟨h1, info_parts h2, h3, h4⟩
end Go.Proofs.YtcpfanpcdkoiaaaGreatDoor

namespace Go.Proofs.YtcpfanpcdkoiaaaGreatDoor
open Go.RowKit


structure BoxL (w : World) (b : Nat) (xs : List Value) : Prop where
 cell : ∀ (i : Nat) (x : Value), xs[i]? = some x → w.cell? ⟨b, i, none⟩ = some x
 free : ∀ (i : Nat), i < xs.length → w.frozen? ⟨b, i, none⟩ = false
 lt : b < w.heap.size
theorem BoxL.block {w w' : World} {b : Nat} {xs : List Value} (h : BoxL w b xs) (hg : w'.heap[b]? = w.heap[b]?) : BoxL w' b xs :=
 ⟨fun i x hi => (World.cell?_of_block (w := w) (a := ⟨b, i, none⟩) hg).trans (h.cell i x hi), fun i hi => (World.frozen?_of_block (w := w) (a := ⟨b, i, none⟩) hg).trans (h.free i hi), by
  have h1 : w.heap[b]? = some (w.heap[b]'h.lt) := Array.getElem?_eq_getElem h.lt
  rw [← hg] at h1; exact (Array.getElem?_eq_some_iff.1 h1).1⟩
theorem BoxL.kept {w w' : World} {b : Nat} {xs : List Value} (h : BoxL w b xs) (hb : Below w.heap.size w w') : BoxL w' b xs := h.block (hb.block b h.lt)
theorem BoxL.below {w w' : World} {b B : Nat} {xs : List Value} (h : BoxL w b xs) (hb : Below B w w') (hB : b < B) : BoxL w' b xs := h.block (hb.block b hB)
theorem BoxL.drew {w : World} {b : Nat} {xs : List Value} (h : BoxL w b xs) : BoxL w.drew b xs := ⟨h.cell, h.free, h.lt⟩
theorem BoxL.new (w : World) (xs : List Value) (t : TypeId) : BoxL (w.alloc (.cells xs.toArray t)) w.heap.size xs := by
 refine ⟨fun i x hi => ?_, fun i hi => ?_, by simp⟩
 ·unfold World.cell?
  rw [show (w.alloc (.cells xs.toArray t)).heap[w.heap.size]? = some (.cells xs.toArray t) from heap_alloc_new w _]
  simpa using hi
 ·unfold World.frozen?
  rw [show (w.alloc (.cells xs.toArray t)).heap[w.heap.size]? = some (.cells xs.toArray t) from heap_alloc_new w _]
  simp
theorem BoxL.set {w : World} {b : Nat} {xs : List Value} (h : BoxL w b xs) (i : Nat) (u : Value) (hi : i < xs.length) : BoxL (w.setCell ⟨b, i, none⟩ u) b (xs.set i u) := by
 refine ⟨fun j x hj => ?_, fun j hj => ?_, by simpa [World.setCell] using h.lt⟩
 ·by_cases e : j = i
  ·subst e
   rw [List.getElem?_set_self hi] at hj
   cases hj
   exact cell_set (h.cell j (xs[j]'hi) (List.getElem?_eq_getElem hi))
  ·rw [List.getElem?_set_ne (fun h => e h.symm)] at hj
   rw [World.cell?_setCell_other]
   ·exact h.cell j x hj
   ·intro e'; have h2 : i = j := by injection e'
    exact e h2.symm
 ·rw [World.frozen?_setCell]
  exact h.free j (by simpa using hj)
theorem BoxL.setOther {w : World} {b g : Nat} {xs : List Value} (h : BoxL w b xs) (hne : b ≠ g) (j : Nat) (u : Value) : BoxL (w.setCell ⟨g, j, none⟩ u) b xs :=
 h.block ((grownBy_set (grownBy_refl w (some g)) j u).block b h.lt (by simpa using hne))
structure Keep (S : Nat → Prop) (w w' : World) : Prop where
 os : w'.os = w.os
 tape : w'.tape = w.tape
 output : w'.output = w.output
 size : w.heap.size ≤ w'.heap.size
 same : ∀ k, k < w.heap.size → ¬ S k → w'.heap[k]? = w.heap[k]?
theorem Keep.refl (S : Nat → Prop) (w : World) : Keep S w w := ⟨rfl, rfl, rfl, Nat.le_refl _, fun _ _ _ => rfl⟩
theorem Keep.of_below {S : Nat → Prop} {w w' : World} (h : Below w.heap.size w w') : Keep S w w' := ⟨h.os, h.tape, h.output, h.size, fun k hk _ => h.block k hk⟩
theorem Keep.trans {S S' : Nat → Prop} {a b c : World} (h : Keep S a b) (h' : Keep S' b c) (hS : ∀ k, k < a.heap.size → S' k → S k) : Keep S a c :=
 ⟨h'.os.trans h.os, h'.tape.trans h.tape, h'.output.trans h.output, Nat.le_trans h.size h'.size, fun k hk hs => (h'.same k (Nat.lt_of_lt_of_le hk h.size) (fun h2 => hs (hS k hk h2))).trans (h.same k hk hs)⟩
theorem Keep.then_below {S : Nat → Prop} {a b c : World} (h : Keep S a b) (h' : Below b.heap.size b c) : Keep S a c := h.trans (Keep.of_below (S := fun _ => False) h') (fun _ _ h => h.elim)
theorem Keep.mono {S S' : Nat → Prop} {a b : World} (h : Keep S a b) (hS : ∀ k, k < a.heap.size → S k → S' k) : Keep S' a b := ⟨h.os, h.tape, h.output, h.size, fun k hk hs => h.same k hk (fun h2 => hs (hS k hk h2))⟩
theorem Keep.below {S : Nat → Prop} {a b : World} {B : Nat} (h : Keep S a b) (hS : ∀ k, S k → B ≤ k) (hB : B ≤ a.heap.size) : Below B a b :=
 ⟨h.os, h.tape, h.output, h.size, fun k hk => h.same k (by omega) (fun h2 => by have := hS k h2; omega)⟩
theorem Keep.set {S : Nat → Prop} {a b : World} (h : Keep S a b) (g j : Nat) (u : Value) (hg : S g ∨ a.heap.size ≤ g) : Keep S a (b.setCell ⟨g, j, none⟩ u) := by
 have hs := grownBy_set (grownBy_refl b (some g)) j u
 exact ⟨hs.os.trans h.os, hs.tape.trans h.tape, hs.output.trans h.output, Nat.le_trans h.size hs.size, fun k hk hs2 => (hs.block k (Nat.lt_of_lt_of_le hk h.size) (fun e => by
  cases e
  rcases hg with h1 | h1
  ·exact hs2 h1
  ·omega)).trans (h.same k hk hs2)⟩
theorem BoxL.keep {S : Nat → Prop} {w w' : World} {b : Nat} {xs : List Value} (h : BoxL w b xs) (hk : Keep S w w') (hs : ¬ S b) : BoxL w' b xs := h.block (hk.same b h.lt hs)
theorem BoxL.c7 {w : World} {b : Nat} {x0 x1 x2 x3 x4 x5 x6 : Value} (h : BoxL w b [x0, x1, x2, x3, x4, x5, x6]) : w.cell? ⟨b, 0, none⟩ = some x0 ∧ w.cell? ⟨b, 1, none⟩ = some x1 ∧ w.cell? ⟨b, 2, none⟩ = some x2 ∧ w.cell? ⟨b, 3, none⟩ = some x3 ∧ w.cell? ⟨b, 4, none⟩ = some x4 ∧ w.cell? ⟨b, 5, none⟩ = some x5 ∧ w.cell? ⟨b, 6, none⟩ = some x6 := ⟨h.cell 0 _ rfl, h.cell 1 _ rfl, h.cell 2 _ rfl, h.cell 3 _ rfl, h.cell 4 _ rfl, h.cell 5 _ rfl, h.cell 6 _ rfl⟩
theorem BoxL.c8 {w : World} {b : Nat} {x0 x1 x2 x3 x4 x5 x6 x7 : Value} (h : BoxL w b [x0, x1, x2, x3, x4, x5, x6, x7]) : w.cell? ⟨b, 0, none⟩ = some x0 ∧ w.cell? ⟨b, 1, none⟩ = some x1 ∧ w.cell? ⟨b, 2, none⟩ = some x2 ∧ w.cell? ⟨b, 3, none⟩ = some x3 ∧ w.cell? ⟨b, 4, none⟩ = some x4 ∧ w.cell? ⟨b, 5, none⟩ = some x5 ∧ w.cell? ⟨b, 6, none⟩ = some x6 ∧ w.cell? ⟨b, 7, none⟩ = some x7 := ⟨h.cell 0 _ rfl, h.cell 1 _ rfl, h.cell 2 _ rfl, h.cell 3 _ rfl, h.cell 4 _ rfl, h.cell 5 _ rfl, h.cell 6 _ rfl, h.cell 7 _ rfl⟩
end Go.Proofs.YtcpfanpcdkoiaaaGreatDoor

namespace Go.Proofs.YtcpfanpcdkoiaaaGreatDoor
open Go.RowKit Go.Shelf


theorem stillTexts_no (p : Nat) (w : World) (h : w.cell? ⟨p, 0, none⟩ = some (.slice none 0 0)) :
  Calls Tryz.prog 42 #[.pointer (some ⟨p, 0, none⟩)] w fun e w' => e = .returned (.bool true) ∧ Below w.heap.size w w' := by
 have hl := World.block_lt_of_cell? w ⟨p, 0, none⟩ h
 go_enter Tryz.func42, Tryz.ntmps42
 go_wp2_with fail
 go_loopg [3] 0 (fun gg iv wr => iv = .int .i64 0 ∧ Below w.heap.size w wr)
 case atStart => exact ⟨rfl, Below.refl _ _⟩
 case round =>
  obtain ⟨rfl, hbr⟩ := hrel
  have ec := (hbr.cell (p := ⟨p, 0, none⟩) hl).trans h
  go_wp2_with fail
  go_ret
  exact ⟨rfl, hbr⟩
theorem putTexts_no (p : Nat) (w : World) (h : w.cell? ⟨p, 0, none⟩ = some (.slice none 0 0)) :
  Calls Tryz.prog 49 #[.pointer (some ⟨p, 0, none⟩)] w fun e w' => e = .returned (.tuple #[]) ∧ Below w.heap.size w w' := by
 have hl := World.block_lt_of_cell? w ⟨p, 0, none⟩ h
 go_enter Tryz.func49, Tryz.ntmps49
 go_wp2_with fail
 go_loopg [2] 0 (fun gg iv wr => iv = .int .i64 0 ∧ Below w.heap.size w wr)
 case atStart => exact ⟨rfl, Below.refl _ _⟩
 case round =>
  obtain ⟨rfl, hbr⟩ := hrel
  have ec := (hbr.cell (p := ⟨p, 0, none⟩) hl).trans h
  go_wp2_with fail
  go_end0
  exact ⟨rfl, hbr⟩
theorem growTexts_no (p : Nat) (w : World) (h : w.cell? ⟨p, 0, none⟩ = some (.slice none 0 0)) :
  Calls Tryz.prog 54 #[.pointer (some ⟨p, 0, none⟩)] w fun e w' => e = .returned (.slice none 0 0) ∧ Below w.heap.size w w' := by
 have hl := World.block_lt_of_cell? w ⟨p, 0, none⟩ h
 go_enter Tryz.func54, Tryz.ntmps54
 go_wp2_with fail
 go_loopg [3, 4] 0 (fun gg ov iv wr => ov = .slice none 0 0 ∧ iv = .int .i64 0 ∧ Below w.heap.size w wr)
 case atStart => exact ⟨rfl, rfl, Below.refl _ _⟩
 case round =>
  obtain ⟨rfl, rfl, hbr⟩ := hrel
  have ec := (hbr.cell (p := ⟨p, 0, none⟩) hl).trans h
  go_wp2_with fail
  go_ret
  exact ⟨rfl, hbr⟩
theorem markedTexts_no (w : World) :
  Calls Tryz.prog 60 #[.slice none 0 0] w fun e w' => e = .returned (.bool true) ∧ Below w.heap.size w w' := by
 go_enter Tryz.func60, Tryz.ntmps60
 go_wp2_with fail
 go_loopg [3] 0 (fun gg iv wr => iv = .int .i64 0 ∧ Below w.heap.size w wr)
 case atStart => exact ⟨rfl, Below.refl _ _⟩
 case round =>
  obtain ⟨rfl, hbr⟩ := hrel
  go_wp2_with fail
  go_ret
  exact ⟨rfl, hbr⟩
theorem stillInts_no (p : Nat) (w : World) (h : w.cell? ⟨p, 2, none⟩ = some (.slice none 0 0)) :
  Calls Tryz.prog 43 #[.pointer (some ⟨p, 0, none⟩)] w fun e w' => e = .returned (.bool true) ∧ Below w.heap.size w w' := by
 have hl := World.block_lt_of_cell? w ⟨p, 2, none⟩ h
 go_enter Tryz.func43, Tryz.ntmps43
 go_wp2_with fail
 go_loopg [3] 0 (fun gg iv wr => iv = .int .i64 0 ∧ Below w.heap.size w wr)
 case atStart => exact ⟨rfl, Below.refl _ _⟩
 case round =>
  obtain ⟨rfl, hbr⟩ := hrel
  have ec := (hbr.cell (p := ⟨p, 2, none⟩) hl).trans h
  go_wp2_with fail
  go_ret
  exact ⟨rfl, hbr⟩
theorem putInts_no (p : Nat) (w : World) (h : w.cell? ⟨p, 2, none⟩ = some (.slice none 0 0)) :
  Calls Tryz.prog 50 #[.pointer (some ⟨p, 0, none⟩)] w fun e w' => e = .returned (.tuple #[]) ∧ Below w.heap.size w w' := by
 have hl := World.block_lt_of_cell? w ⟨p, 2, none⟩ h
 go_enter Tryz.func50, Tryz.ntmps50
 go_wp2_with fail
 go_loopg [2] 0 (fun gg iv wr => iv = .int .i64 0 ∧ Below w.heap.size w wr)
 case atStart => exact ⟨rfl, Below.refl _ _⟩
 case round =>
  obtain ⟨rfl, hbr⟩ := hrel
  have ec := (hbr.cell (p := ⟨p, 2, none⟩) hl).trans h
  go_wp2_with fail
  go_end0
  exact ⟨rfl, hbr⟩
theorem growInts_no (p : Nat) (w : World) (h : w.cell? ⟨p, 2, none⟩ = some (.slice none 0 0)) :
  Calls Tryz.prog 55 #[.pointer (some ⟨p, 0, none⟩)] w fun e w' => e = .returned (.slice none 0 0) ∧ Below w.heap.size w w' := by
 have hl := World.block_lt_of_cell? w ⟨p, 2, none⟩ h
 go_enter Tryz.func55, Tryz.ntmps55
 go_wp2_with fail
 go_loopg [3, 4] 0 (fun gg ov iv wr => ov = .slice none 0 0 ∧ iv = .int .i64 0 ∧ Below w.heap.size w wr)
 case atStart => exact ⟨rfl, rfl, Below.refl _ _⟩
 case round =>
  obtain ⟨rfl, rfl, hbr⟩ := hrel
  have ec := (hbr.cell (p := ⟨p, 2, none⟩) hl).trans h
  go_wp2_with fail
  go_ret
  exact ⟨rfl, hbr⟩
theorem markedInts_no (w : World) :
  Calls Tryz.prog 61 #[.slice none 0 0] w fun e w' => e = .returned (.bool true) ∧ Below w.heap.size w w' := by
 go_enter Tryz.func61, Tryz.ntmps61
 go_wp2_with fail
 go_loopg [3] 0 (fun gg iv wr => iv = .int .i64 0 ∧ Below w.heap.size w wr)
 case atStart => exact ⟨rfl, Below.refl _ _⟩
 case round =>
  obtain ⟨rfl, hbr⟩ := hrel
  go_wp2_with fail
  go_ret
  exact ⟨rfl, hbr⟩
theorem stillPats_no (p : Nat) (w : World) (h : w.cell? ⟨p, 4, none⟩ = some (.slice none 0 0)) :
  Calls Tryz.prog 44 #[.pointer (some ⟨p, 0, none⟩)] w fun e w' => e = .returned (.bool true) ∧ Below w.heap.size w w' := by
 have hl := World.block_lt_of_cell? w ⟨p, 4, none⟩ h
 go_enter Tryz.func44, Tryz.ntmps44
 go_wp2_with fail
 go_loopg [3] 0 (fun gg iv wr => iv = .int .i64 0 ∧ Below w.heap.size w wr)
 case atStart => exact ⟨rfl, Below.refl _ _⟩
 case round =>
  obtain ⟨rfl, hbr⟩ := hrel
  have ec := (hbr.cell (p := ⟨p, 4, none⟩) hl).trans h
  go_wp2_with fail
  go_ret
  exact ⟨rfl, hbr⟩
theorem putPats_no (p : Nat) (w : World) (h : w.cell? ⟨p, 4, none⟩ = some (.slice none 0 0)) :
  Calls Tryz.prog 51 #[.pointer (some ⟨p, 0, none⟩)] w fun e w' => e = .returned (.tuple #[]) ∧ Below w.heap.size w w' := by
 have hl := World.block_lt_of_cell? w ⟨p, 4, none⟩ h
 go_enter Tryz.func51, Tryz.ntmps51
 go_wp2_with fail
 go_loopg [2] 0 (fun gg iv wr => iv = .int .i64 0 ∧ Below w.heap.size w wr)
 case atStart => exact ⟨rfl, Below.refl _ _⟩
 case round =>
  obtain ⟨rfl, hbr⟩ := hrel
  have ec := (hbr.cell (p := ⟨p, 4, none⟩) hl).trans h
  go_wp2_with fail
  go_end0
  exact ⟨rfl, hbr⟩
theorem growPats_no (p : Nat) (w : World) (h : w.cell? ⟨p, 4, none⟩ = some (.slice none 0 0)) :
  Calls Tryz.prog 56 #[.pointer (some ⟨p, 0, none⟩)] w fun e w' => e = .returned (.slice none 0 0) ∧ Below w.heap.size w w' := by
 have hl := World.block_lt_of_cell? w ⟨p, 4, none⟩ h
 go_enter Tryz.func56, Tryz.ntmps56
 go_wp2_with fail
 go_loopg [3, 4] 0 (fun gg ov iv wr => ov = .slice none 0 0 ∧ iv = .int .i64 0 ∧ Below w.heap.size w wr)
 case atStart => exact ⟨rfl, rfl, Below.refl _ _⟩
 case round =>
  obtain ⟨rfl, rfl, hbr⟩ := hrel
  have ec := (hbr.cell (p := ⟨p, 4, none⟩) hl).trans h
  go_wp2_with fail
  go_ret
  exact ⟨rfl, hbr⟩
theorem markedPats_no (w : World) :
  Calls Tryz.prog 62 #[.slice none 0 0] w fun e w' => e = .returned (.bool true) ∧ Below w.heap.size w w' := by
 go_enter Tryz.func62, Tryz.ntmps62
 go_wp2_with fail
 go_loopg [3] 0 (fun gg iv wr => iv = .int .i64 0 ∧ Below w.heap.size w wr)
 case atStart => exact ⟨rfl, Below.refl _ _⟩
 case round =>
  obtain ⟨rfl, hbr⟩ := hrel
  go_wp2_with fail
  go_ret
  exact ⟨rfl, hbr⟩
theorem stillDiags_no (p : Nat) (w : World) (h : w.cell? ⟨p, 6, none⟩ = some (.slice none 0 0)) :
  Calls Tryz.prog 45 #[.pointer (some ⟨p, 0, none⟩)] w fun e w' => e = .returned (.bool true) ∧ Below w.heap.size w w' := by
 have hl := World.block_lt_of_cell? w ⟨p, 6, none⟩ h
 go_enter Tryz.func45, Tryz.ntmps45
 go_wp2_with fail
 go_loopg [3] 0 (fun gg iv wr => iv = .int .i64 0 ∧ Below w.heap.size w wr)
 case atStart => exact ⟨rfl, Below.refl _ _⟩
 case round =>
  obtain ⟨rfl, hbr⟩ := hrel
  have ec := (hbr.cell (p := ⟨p, 6, none⟩) hl).trans h
  go_wp2_with fail
  go_ret
  exact ⟨rfl, hbr⟩
theorem putDiags_no (p : Nat) (w : World) (h : w.cell? ⟨p, 6, none⟩ = some (.slice none 0 0)) :
  Calls Tryz.prog 52 #[.pointer (some ⟨p, 0, none⟩)] w fun e w' => e = .returned (.tuple #[]) ∧ Below w.heap.size w w' := by
 have hl := World.block_lt_of_cell? w ⟨p, 6, none⟩ h
 go_enter Tryz.func52, Tryz.ntmps52
 go_wp2_with fail
 go_loopg [2] 0 (fun gg iv wr => iv = .int .i64 0 ∧ Below w.heap.size w wr)
 case atStart => exact ⟨rfl, Below.refl _ _⟩
 case round =>
  obtain ⟨rfl, hbr⟩ := hrel
  have ec := (hbr.cell (p := ⟨p, 6, none⟩) hl).trans h
  go_wp2_with fail
  go_end0
  exact ⟨rfl, hbr⟩
theorem growDiags_no (p : Nat) (w : World) (h : w.cell? ⟨p, 6, none⟩ = some (.slice none 0 0)) :
  Calls Tryz.prog 57 #[.pointer (some ⟨p, 0, none⟩)] w fun e w' => e = .returned (.slice none 0 0) ∧ Below w.heap.size w w' := by
 have hl := World.block_lt_of_cell? w ⟨p, 6, none⟩ h
 go_enter Tryz.func57, Tryz.ntmps57
 go_wp2_with fail
 go_loopg [3, 4] 0 (fun gg ov iv wr => ov = .slice none 0 0 ∧ iv = .int .i64 0 ∧ Below w.heap.size w wr)
 case atStart => exact ⟨rfl, rfl, Below.refl _ _⟩
 case round =>
  obtain ⟨rfl, rfl, hbr⟩ := hrel
  have ec := (hbr.cell (p := ⟨p, 6, none⟩) hl).trans h
  go_wp2_with fail
  go_ret
  exact ⟨rfl, hbr⟩
theorem markedDiags_no (w : World) :
  Calls Tryz.prog 63 #[.slice none 0 0] w fun e w' => e = .returned (.bool true) ∧ Below w.heap.size w w' := by
 go_enter Tryz.func63, Tryz.ntmps63
 go_wp2_with fail
 go_loopg [3] 0 (fun gg iv wr => iv = .int .i64 0 ∧ Below w.heap.size w wr)
 case atStart => exact ⟨rfl, Below.refl _ _⟩
 case round =>
  obtain ⟨rfl, hbr⟩ := hrel
  go_wp2_with fail
  go_ret
  exact ⟨rfl, hbr⟩
theorem stillSteps_no (p : Nat) (w : World) (h : w.cell? ⟨p, 10, none⟩ = some (.slice none 0 0)) :
  Calls Tryz.prog 47 #[.pointer (some ⟨p, 0, none⟩)] w fun e w' => e = .returned (.bool true) ∧ Below w.heap.size w w' := by
 have hl := World.block_lt_of_cell? w ⟨p, 10, none⟩ h
 go_enter Tryz.func47, Tryz.ntmps47
 go_wp2_with fail
 go_loopg [3] 0 (fun gg iv wr => iv = .int .i64 0 ∧ Below w.heap.size w wr)
 case atStart => exact ⟨rfl, Below.refl _ _⟩
 case round =>
  obtain ⟨rfl, hbr⟩ := hrel
  have ec := (hbr.cell (p := ⟨p, 10, none⟩) hl).trans h
  go_wp2_with fail
  go_ret
  exact ⟨rfl, hbr⟩
theorem putSteps_no (p : Nat) (w : World) (h : w.cell? ⟨p, 10, none⟩ = some (.slice none 0 0)) :
  Calls Tryz.prog 48 #[.pointer (some ⟨p, 0, none⟩)] w fun e w' => e = .returned (.tuple #[]) ∧ Below w.heap.size w w' := by
 have hl := World.block_lt_of_cell? w ⟨p, 10, none⟩ h
 go_enter Tryz.func48, Tryz.ntmps48
 go_wp2_with fail
 go_loopg [2] 0 (fun gg iv wr => iv = .int .i64 0 ∧ Below w.heap.size w wr)
 case atStart => exact ⟨rfl, Below.refl _ _⟩
 case round =>
  obtain ⟨rfl, hbr⟩ := hrel
  have ec := (hbr.cell (p := ⟨p, 10, none⟩) hl).trans h
  go_wp2_with fail
  go_end0
  exact ⟨rfl, hbr⟩
theorem growSteps_no (p : Nat) (w : World) (h : w.cell? ⟨p, 10, none⟩ = some (.slice none 0 0)) :
  Calls Tryz.prog 59 #[.pointer (some ⟨p, 0, none⟩)] w fun e w' => e = .returned (.slice none 0 0) ∧ Below w.heap.size w w' := by
 have hl := World.block_lt_of_cell? w ⟨p, 10, none⟩ h
 go_enter Tryz.func59, Tryz.ntmps59
 go_wp2_with fail
 go_loopg [3, 4] 0 (fun gg ov iv wr => ov = .slice none 0 0 ∧ iv = .int .i64 0 ∧ Below w.heap.size w wr)
 case atStart => exact ⟨rfl, rfl, Below.refl _ _⟩
 case round =>
  obtain ⟨rfl, rfl, hbr⟩ := hrel
  have ec := (hbr.cell (p := ⟨p, 10, none⟩) hl).trans h
  go_wp2_with fail
  go_ret
  exact ⟨rfl, hbr⟩
theorem markedSteps_no (w : World) :
  Calls Tryz.prog 65 #[.slice none 0 0] w fun e w' => e = .returned (.bool true) ∧ Below w.heap.size w w' := by
 go_enter Tryz.func65, Tryz.ntmps65
 go_wp2_with fail
 go_loopg [3] 0 (fun gg iv wr => iv = .int .i64 0 ∧ Below w.heap.size w wr)
 case atStart => exact ⟨rfl, Below.refl _ _⟩
 case round =>
  obtain ⟨rfl, hbr⟩ := hrel
  go_wp2_with fail
  go_ret
  exact ⟨rfl, hbr⟩
def markI (i from' n : Nat) : List Int := (List.range n).map fun k => -1000000 * (i : Int) - ((from' + k : Nat) : Int) - 7
theorem markI_len (i f n : Nat) : (markI i f n).length = n := by unfold markI; simp
theorem markI_succ (i f n : Nat) : markI i f (n + 1) = markI i f n ++ [-1000000 * (i : Int) - ((f + n : Nat) : Int) - 7] := by
 unfold markI; rw [List.range_succ, List.map_append]; rfl
theorem markI_add (i f m n : Nat) : markI i f (m + n) = markI i f m ++ markI i (f + m) n := by
 induction n with
 | zero => simp [markI]
 | succ n ih => rw [← Nat.add_assoc, markI_succ, ih, markI_succ, List.append_assoc, Nat.add_assoc]
end Go.Proofs.YtcpfanpcdkoiaaaGreatDoor

namespace Go.Proofs.YtcpfanpcdkoiaaaGreatDoor
open Go.RowKit


theorem run_appendK {P : Program} {t e : TypeId} {z : Value} {K bytes : Nat} (E : ElemK P t e z K bytes) (ty : TypeId) {w : World} {base n : Nat} {v : Value} {xs : List Value} (hown : OwnsK K base e w v n xs)
  (ad : Addr) (c : Nat) (us : List Value) (hul : us.length = K) (hu : ∀ j u', us[j]? = some u' → w.cell? (ad.add j) = some u') (h1 : ∀ u ∈ us, u.oneCell' = true) (hl : (n + 1) * bytes ≤ 140737488355328) (hm : n + 1 ≤ maxLen) (hbase : base ≤ w.heap.size) :
  ∃ v' w', (Builtin.append_ #[t, t] ty #[v, .slice (some ad) 1 c]).run P w = .ok v' w' ∧ OwnsK K base e w' v' (n + 1) (xs ++ us) ∧ w.grownBy w' v.ownBlock ∧
   (∀ g, v'.ownBlock = some g → v.ownBlock = some g ∨ w.heap.size ≤ g) ∧
   ∀ p : Value → Prop, RowAll p w v → (∀ u ∈ us, p u) → (∀ c ∈ z.cells, p c) → RowAll p w' v' := by
 obtain ⟨i, hi, hz, h4, h5⟩ := E.info
 have hxn := hown.1
 obtain ⟨v', w', hrun, r1, r2, r3⟩ := run_append_own (P := P) w base t ty e i z K bytes E.und hi hz h4 h5 E.many E.pos v n xs hown ad 1 c us (by omega) hu h1 hm hl hbase
 rcases hown.2 with ⟨rfl, hn0⟩ | ⟨g0, cap, cur, rfl, k1, k2, k3, k4, k5, k6⟩
 ·subst hn0
  have hxs : xs = [] := List.eq_nil_of_length_eq_zero (by omega)
  subst hxs
  have hr := run_append_nil (P := P) w t ty e i z E.und hi hz ad 1 c us (by rw [h4]; omega) hu (by omega) (by omega) (by rw [h5]; simp at hl; omega)
  rw [hr] at hrun
  injection hrun with e1 e2
  refine ⟨v', w', by rw [hr, e1, e2], r1, r2, ?_, ?_⟩
  ·intro g hg
   subst e1
   simp [Value.ownBlock] at hg
   exact .inr (by omega)
  ·intro p _ hp hpz g hg j c' hc'
   subst e1
   subst e2
   simp [Value.ownBlock] at hg
   subst hg
   have hm' := cell_mem (heap_alloc_new w.drew _) hc'
   simp only [List.mem_toArray, Array.mem_append] at hm'
   rcases hm' with hm' | hm'
   ·exact hp _ hm'
   ·exact hpz _ (mem_zeroCells hm')
 ·by_cases hroom : n + 1 ≤ cap
  ·have hr := run_append_room (P := P) w t ty e i E.und hi g0 n cap cur k2 ad 1 c us (by rw [h4]; omega) hu h1 hroom (by rw [h4]; have h9 := Nat.mul_le_mul_right K hroom; rw [Nat.add_mul] at h9; omega)
   rw [hr] at hrun
   injection hrun with e1 e2
   refine ⟨v', w', by rw [hr, e1, e2], r1, r2, ?_, ?_⟩
   ·intro g hg
    subst e1
    exact .inl hg
   ·intro p ha hp hpz g hg j c' hc'
    subst e1
    subst e2
    simp [Value.ownBlock] at hg
    subst hg
    have hm' := cell_mem (setRow_heap w g0 cur _ e _ k2) hc'
    have old : ∀ c'' ∈ cur.toList, p c'' := by
     intro c'' hc''
     obtain ⟨j', hj', rfl⟩ := List.mem_iff_getElem.1 hc''
     refine ha g0 rfl j' _ ?_
     unfold World.cell?
     simp [k2]
    simp only [List.mem_toArray, List.mem_append] at hm'
    rcases hm' with (hm' | hm') | hm'
    ·exact old _ (List.mem_of_mem_take hm')
    ·exact hp _ hm'
    ·exact old _ (List.mem_of_mem_drop hm')
  ·have hr := run_append_grow (P := P) w t ty e i z E.und hi hz ⟨g0, 0, none⟩ n cap xs (by rw [h4]; omega) (World.ownsRow.cells hown (g := g0) rfl) ad 1 c us (by rw [h4]; omega) hu (by omega) (by simp only [maxLen] at hm; omega) (growslice_fits (by omega) (by rw [h5]; exact hl))
   rw [hr] at hrun
   injection hrun with e1 e2
   refine ⟨v', w', by rw [hr, e1, e2], r1, r2, ?_, ?_⟩
   ·intro g hg
    subst e1
    simp [Value.ownBlock] at hg
    exact .inr (by omega)
   ·intro p ha hp hpz g hg j c' hc'
    subst e1
    subst e2
    simp [Value.ownBlock] at hg
    subst hg
    have hm' := cell_mem (heap_alloc_new w.drew _) hc'
    have old : ∀ c'' ∈ cur.toList, p c'' := by
     intro c'' hc''
     obtain ⟨j', hj', rfl⟩ := List.mem_iff_getElem.1 hc''
     refine ha g0 rfl j' _ ?_
     unfold World.cell?
     simp [k2]
    simp only [List.mem_toArray, Array.mem_append, List.mem_append] at hm'
    rcases hm' with (hm' | hm') | hm'
    ·exact old _ (by rw [← k6] at hm'; exact List.mem_of_mem_take hm')
    ·exact hp _ hm'
    ·exact hpz _ (mem_zeroCells hm')
theorem append1KAt {P : Program} {t e : TypeId} {z : Value} {K bytes : Nat} (E : ElemK P t e z K bytes) {w : World} {ops : Array Oper} {rest : List Oper} {o : Oper} {a : Act} {Q : Exit → Act → World → Prop} {s x : Operand} {us : Array Value} {base n : Nat} {v : Value} {xs : List Value} {p : Value → Prop}
  (hown : OwnsK K base e w v n xs) (hra : RowAll p w v) (hu : ∀ u ∈ us.toList, p u) (hz : ∀ c ∈ z.cells, p c) (hgd : o.guard = none) (ho : o.op = .call { callee := .builtin .append, args := #[s, x], argTypes := #[t, t] }) (hs : a.eval s = v)
  (hx : a.eval x = .slice (some ⟨w.heap.size, 0, none⟩) 1 1) (hus : us.size = K) (h1 : ∀ u ∈ us.toList, u.oneCell' = true) (hl : (n + 1) * bytes ≤ 140737488355328) (hm : n + 1 ≤ maxLen) (hbase : base ≤ w.heap.size)
  (h : ∀ v' w', OwnsK K base e w' v' (n + 1) (xs ++ us.toList) → Below base w w' → w.grownBy w' v.ownBlock → (∀ g, v'.ownBlock = some g → v.ownBlock = some g ∨ w.heap.size ≤ g) → RowAll p w' v' → wpList P ops Q rest (a.put o.dst v') w') : wpList P ops Q (o :: rest) a (w.alloc (.cells us e)) := by
 have hra' : RowAll p (w.alloc (.cells us e)) v := by
  intro g hg j c hc
  have hlt := World.ownsRow.lt hown g hg
  rw [World.cell?_alloc_past _ _ _ hlt.2] at hc
  exact hra g hg j c hc
 obtain ⟨v', w', hrun, r1, r2, r3, r4⟩ := run_appendK (P := P) E o.type (w := w.alloc (.cells us e)) (hown.alloc _) ⟨w.heap.size, 0, none⟩ 1 us.toList (by simp [hus]) (by
  intro j u' hj
  rw [Addr.add_lit, Nat.zero_add]
  unfold World.cell?
  rw [show (w.alloc (.cells us e)).heap[w.heap.size]? = some (.cells us e) from heap_alloc_new w _]
  simpa using hj) h1 hl hm (by simp; omega)
 refine wpList_plain hgd fun K' hK => ?_
 unfold Oper.wp
 simp [execOp, ho, resolve, invoke, builtin, hs, hx, hrun, Result.andThen]
 have hg : w.grownBy w' v.ownBlock := ⟨r2.os, r2.tape, r2.output, Nat.le_trans (by simp) r2.size, fun k hk hne => (r2.block k (by simp; omega) hne).trans (Below.heap_alloc _ _ _ hk)⟩
 refine hK _ _ (h v' w' r1 ⟨hg.os, hg.tape, hg.output, hg.size, fun k hk => hg.block k (by omega) (fun e' => ?_)⟩ hg ?_ (r4 p hra' hu hz))
 ·have := World.ownsRow.lt hown k e'.symm
  omega
 ·intro g hg'
  rcases r3 g hg' with h4 | h4
  ·exact .inl h4
  ·exact .inr (by simp at h4; omega)
end Go.Proofs.YtcpfanpcdkoiaaaGreatDoor

namespace Go.Proofs.YtcpfanpcdkoiaaaGreatDoor
open Go.RowKit


theorem append1KO {P : Program} {t e : TypeId} {z : Value} {K bytes : Nat} (E : ElemK P t e z K bytes) {w : World} {ops : Array Oper} {rest : List Oper} {o : Oper} {a : Act} {Q : Exit → Act → World → Prop} {s x : Operand} {us : Array Value} {base n : Nat} {v : Value} {xs : List Value}
  (hown : OwnsK K base e w v n xs) (hgd : o.guard = none) (ho : o.op = .call { callee := .builtin .append, args := #[s, x], argTypes := #[t, t] }) (hs : a.eval s = v)
  (hx : a.eval x = .slice (some ⟨w.heap.size, 0, none⟩) 1 1) (hus : us.size = K) (h1 : ∀ u ∈ us.toList, u.oneCell' = true) (hl : (n + 1) * bytes ≤ 140737488355328) (hm : n + 1 ≤ maxLen) (hbase : base ≤ w.heap.size)
  (h : ∀ v' w', OwnsK K base e w' v' (n + 1) (xs ++ us.toList) → Below base w w' → w.grownBy w' v.ownBlock → (∀ g, v'.ownBlock = some g → v.ownBlock = some g ∨ w.heap.size ≤ g) → wpList P ops Q rest (a.put o.dst v') w') :
  wpList P ops Q (o :: rest) a (w.alloc (.cells us e)) :=
 append1KAt (p := fun _ => True) E hown (fun _ _ _ _ _ => trivial) (fun _ _ => trivial) (fun _ _ => trivial) hgd ho hs hx hus h1 hl hm hbase (fun v' w' a b c d _ => h v' w' a b c d)
theorem OwnsK.block {K base : Nat} {e : TypeId} {w w' : World} {v : Value} {n : Nat} {xs : List Value} (h : OwnsK K base e w v n xs) (hb : ∀ g, v.ownBlock = some g → w'.heap[g]? = w.heap[g]?) : OwnsK K base e w' v n xs := by
 obtain ⟨h1, h2 | ⟨g, cap, cur, rfl, h3, h4, h5⟩⟩ := h
 ·exact ⟨h1, .inl h2⟩
 ·exact ⟨h1, .inr ⟨g, cap, cur, rfl, h3, (hb g rfl).trans h4, h5⟩⟩
theorem OwnsK.lt {K base : Nat} {e : TypeId} {w : World} {v : Value} {n : Nat} {xs : List Value} (h : OwnsK K base e w v n xs) : ∀ g, v.ownBlock = some g → base ≤ g ∧ g < w.heap.size := World.ownsRow.lt h
theorem OwnsK.keep {S : Nat → Prop} {K base : Nat} {e : TypeId} {w w' : World} {v : Value} {n : Nat} {xs : List Value} (h : OwnsK K base e w v n xs) (hk : Keep S w w') (hs : ∀ g, v.ownBlock = some g → ¬ S g) : OwnsK K base e w' v n xs :=
 h.block fun g hg => hk.same g (h.lt g hg).2 (hs g hg)
theorem OwnsK.at_cells {K base : Nat} {e : TypeId} {w : World} {v : Value} {n : Nat} {xs : List Value} (h : OwnsK K base e w v n xs) : ∀ g, v.ownBlock = some g → ∃ o : Obj, w.heap[g]? = some o ∧ o.isCells = true := by
 intro g hg
 obtain ⟨h1, ⟨rfl, _⟩ | ⟨g', cap, cur, rfl, h3, h4, h5⟩⟩ := h
 ·simp [Value.ownBlock] at hg
 ·simp [Value.ownBlock] at hg; subst hg; exact ⟨_, h4, rfl⟩
theorem OwnsK.ext {K B base : Nat} {e : TypeId} {w w' : World} {v : Value} {n : Nat} {xs : List Value} (h : OwnsK K base e w v n xs) (hx : Ext B w w') : OwnsK K base e w' v n xs :=
 h.block fun g hg => by
  obtain ⟨o, h1, h2⟩ := h.at_cells g hg
  rw [h1]; exact hx.cells g o h1 h2
theorem BoxL.ext {B : Nat} {w w' : World} {b : Nat} {xs : List Value} (h : BoxL w b xs) (hx : Ext B w w') (hne : 0 < xs.length) : BoxL w' b xs := by
 have h0 := h.cell 0 (xs[0]'hne) (List.getElem?_eq_getElem hne)
 have h1 : ∃ o : Obj, w.heap[b]? = some o ∧ o.isCells = true := by
  unfold World.cell? at h0
  split at h0
  ·rename_i hb; exact ⟨_, hb, rfl⟩
  ·cases h0
 obtain ⟨o, h2, h3⟩ := h1
 exact h.block (by rw [h2]; exact hx.cells b o h2 h3)
theorem OwnsK.slice {K base : Nat} {e : TypeId} {w : World} {v : Value} {n : Nat} {xs : List Value} (h : OwnsK K base e w v n xs) : ∃ ao cap, v = .slice ao n cap ∧ n ≤ cap ∧ cap ≤ maxLen ∧ (ao = none → cap = 0) := by
 rcases h.shape with ⟨rfl, rfl⟩ | ⟨g, cap, rfl, _, _, h4, h5, _, _⟩
 ·exact ⟨_, _, rfl, Nat.le_refl _, Nat.zero_le _, fun _ => rfl⟩
 ·exact ⟨_, _, rfl, h4, h5, fun h => by cases h⟩
end Go.Proofs.YtcpfanpcdkoiaaaGreatDoor
