/-
  Pi05: RefN ComN HeapK HeapM (what is needed of them).
-/
import Derived.Test.YtlmjkbdodecbmaaGreatDoorPi00
import Derived.Test.YtlmjkbdodecbmaaGreatDoorPi01
import Derived.Test.YtlmjkbdodecbmaaGreatDoorPi03
import Derived.Test.YtlmjkbdodecbmaaGreatDoorPi04
import Derived.Laws.AppendOwnNone

namespace Go.Proofs.YtlmjkbdodecbmaaGreatDoor
open Go.RowKit
set_option linter.unusedVariables false
set_option linter.unusedSimpArgs false
/-- A number of the document's in memory. -/
def RIs (w : World) (v : Value) (n : Nat) : Prop := Ints .i64 w v (rlimbs n)
theorem RIs.below {w w' : World} {v : Value} {n : Nat} (h : RIs w v n) (hb : Below w.heap.size w w') : RIs w' v n := Ints.below h hb
theorem RIs.open {w : World} {v : Value} {n : Nat} (h : RIs w v n) : ∃ ao cap, v = .slice ao (rlimbs n).length cap ∧ (rlimbs n).length ≤ cap ∧ cap ≤ 9223372036854775807 ∧ (ao = none → cap = 0) ∧ Cells .i64 w ao (rlimbs n) := h
theorem RIs.nil (w : World) : RIs w (.slice none 0 0) 0 := ⟨none, 0, by rw [rlimbs_zero]; rfl, by rw [rlimbs_zero]; simp, Nat.zero_le _, fun _ => rfl, .inl rlimbs_zero⟩
end Go.Proofs.YtlmjkbdodecbmaaGreatDoor
namespace Go.Proofs.YtlmjkbdodecbmaaGreatDoor
open Go.RowKit
set_option linter.unusedVariables false
set_option linter.unusedSimpArgs false
theorem Tryz.info3 : (Tryz.prog.info? 3).map (fun i => (i.zero, i.size, i.bytes)) = some (some (.int .i64 0), 1, 8) := by kernel_rfl
theorem RAdd.over {xs ys zs : List Nat} {k c : Nat} (h : RAdd xs ys k c zs) (hx : ∀ x ∈ xs, x < 10000) (hy : ∀ y ∈ ys, y < 10000) (h1 : xs.length < k) (h2 : ys.length < k) : c = 0 := by
  have he := h.eq
  rw [List.take_of_length_le (l := xs) (by omega), List.take_of_length_le (l := ys) (by omega)] at he
  have a1 := rval_lt xs hx
  have a2 := rval_lt ys hy
  obtain ⟨j, rfl⟩ : ∃ j, k = j + 1 := ⟨k - 1, by omega⟩
  have a3 : (10000 : Nat) ^ xs.length ≤ 10000 ^ j := Nat.pow_le_pow_right (by decide) (by omega)
  have a4 : (10000 : Nat) ^ ys.length ≤ 10000 ^ j := Nat.pow_le_pow_right (by decide) (by omega)
  rw [Nat.pow_succ, Nat.mul_assoc] at he
  rcases Nat.eq_zero_or_pos c with h0 | h0
  · exact h0
  · exfalso
    have a5 : 10000 ^ j * 2 ≤ 10000 ^ j * (10000 * c) := Nat.mul_le_mul_left _ (by omega)
    generalize 10000 ^ j * (10000 * c) = R at *
    omega
end Go.Proofs.YtlmjkbdodecbmaaGreatDoor
namespace Go.Proofs.YtlmjkbdodecbmaaGreatDoor
open Go.RowKit
set_option linter.unusedVariables false
set_option linter.unusedSimpArgs false
theorem Mut.drewN {k : IntKind} {w : World} {g off : Nat} {xs : List Nat} (h : Mut k w g off xs) (n : Nat) : Mut k (w.drewN n) g off xs := ⟨h.lt, h.cell, h.free⟩
end Go.Proofs.YtlmjkbdodecbmaaGreatDoor
namespace Go.Proofs.YtlmjkbdodecbmaaGreatDoor
open Go.RowKit
set_option linter.unusedVariables false
set_option linter.unusedSimpArgs false
end Go.Proofs.YtlmjkbdodecbmaaGreatDoor
namespace Go.Proofs.YtlmjkbdodecbmaaGreatDoor
open Go.RowKit
set_option linter.unusedVariables false
set_option linter.unusedSimpArgs false
theorem RTxt.digit {n v D m : Nat} {ds : List Nat} (h : RTxt n ds (v + 10 ^ (m + 1) * D)) : RTxt n (ds ++ [v % 10]) (v / 10 + 10 ^ m * D) := by
  have h1 := h.next
  have e1 : (v + 10 ^ (m + 1) * D) % 10 = v % 10 := by rw [Nat.pow_succ, Nat.mul_comm (10 ^ m) 10, Nat.mul_assoc, Nat.add_mul_mod_self_left]
  have e2 : (v + 10 ^ (m + 1) * D) / 10 = v / 10 + 10 ^ m * D := by rw [Nat.pow_succ, Nat.mul_comm (10 ^ m) 10, Nat.mul_assoc, Nat.add_mul_div_left _ _ (by decide)]
  rwa [e1, e2] at h1
/-- The text of the digits so far. -/
def TX (T : List UInt8) (ds : List Nat) (k : Nat) : Prop := T = str (ds.reverse.map (48 + ·)) ∧ ds.length = k
theorem TX.len {T : List UInt8} {ds : List Nat} {k : Nat} (h : TX T ds k) : T.length = k := by rw [h.1, ← h.2]; simp [str]
theorem TX.snoc {T : List UInt8} {ds : List Nat} {k : Nat} (h : TX T ds k) (d : Nat) : TX (str [48 + d] ++ T) (ds ++ [d]) (k + 1) := by
  refine ⟨?_, by simp [h.2]⟩
  rw [h.1]; simp [str]
theorem top_pos {n i : Nat} (h : i + 1 = (rlimbs n).length) : 0 < (rlimbs n)[i]?.getD 0 := by
  have hne : rlimbs n ≠ [] := by intro h0; rw [h0] at h; simp at h
  have h2 := rlimbs_getLast n hne
  rw [List.getLast_eq_getElem] at h2
  rw [List.getElem?_eq_getElem (by omega)]
  simp only [Option.getD_some]
  have h3 : (rlimbs n).length - 1 = i := by omega
  simp only [h3] at h2
  omega
/-- How the digits of limb i stand at digit k. -/
structure RT (n : Nat) (i k v : Nat) (ds : List Nat) : Prop where
  txt : RTxt n ds (v + 10 ^ (4 - k) * rval ((rlimbs n).drop (i + 1)))
  small : v < 10 ^ (4 - k)
  last : i + 1 = (rlimbs n).length → 0 < v ∨ ∀ hd : ds ≠ [], ds.getLast hd ≠ 0
theorem RT.start {n i : Nat} {ds : List Nat} (h : RTxt n ds (rval ((rlimbs n).drop i))) (hi : i < (rlimbs n).length) : RT n i 0 ((rlimbs n)[i]?.getD 0) ds := by
  refine ⟨?_, getD_lt (rlimbs_lt n) (by decide), fun h1 => .inl (top_pos h1)⟩
  rw [rval_drop hi] at h
  exact h
theorem RT.next {n i k v : Nat} {ds : List Nat} (h : RT n i k v ds) (hk : k < 4) (hgo : i + 1 < (rlimbs n).length ∨ 0 < v) : RT n i (k + 1) (v / 10) (ds ++ [v % 10]) := by
  obtain ⟨m, hm⟩ : ∃ m, 4 - k = m + 1 := ⟨3 - k, by omega⟩
  have hm2 : 4 - (k + 1) = m := by omega
  have h1 := h.txt
  have h2 := h.small
  rw [hm] at h1 h2
  refine ⟨by rw [hm2]; exact h1.digit, ?_, fun hl => ?_⟩
  · rw [hm2]; rw [Nat.pow_succ] at h2; exact Nat.div_lt_of_lt_mul (by rw [Nat.mul_comm]; exact h2)
  · rcases Nat.eq_zero_or_pos (v / 10) with h0 | h0
    · refine .inr fun hd => ?_
      rw [List.getLast_append_of_ne_nil _ (by simp)]
      simp only [List.getLast_singleton]
      omega
    · exact .inl h0
theorem RT.row {n i k v : Nat} {ds : List Nat} (h : RT n i k v ds) (hi : i < (rlimbs n).length) (hend : k = 4 ∨ (i + 1 = (rlimbs n).length ∧ v = 0)) (hk : k ≤ 4) : RTxt n ds (rval ((rlimbs n).drop (i + 1))) ∧ (i + 1 = (rlimbs n).length → ∀ hd : ds ≠ [], ds.getLast hd ≠ 0) := by
  have h1 := h.txt
  have h2 := h.small
  have hv : v = 0 := by
    rcases hend with h3 | h3
    · rw [h3] at h2; simpa using h2
    · exact h3.2
  subst hv
  refine ⟨?_, fun hl => ?_⟩
  · rw [Nat.zero_add] at h1
    rcases hend with h3 | h3
    · rw [h3] at h1; simpa using h1
    · have : rval ((rlimbs n).drop (i + 1)) = 0 := by rw [List.drop_of_length_le (by omega)]; rfl
      rw [this] at h1 ⊢
      simpa using h1
  · rcases h.last hl with h3 | h3
    · omega
    · exact h3
theorem RT.done {n : Nat} {ds : List Nat} (h : RTxt n ds (rval ((rlimbs n).drop (rlimbs n).length))) (hn : 0 < n) (ht : ∀ hd : ds ≠ [], ds.getLast hd ≠ 0) : ds.reverse.map (48 + ·) = dec n := by
  rw [List.drop_length] at h
  exact h.done hn ht
end Go.Proofs.YtlmjkbdodecbmaaGreatDoor
namespace Go.Proofs.YtlmjkbdodecbmaaGreatDoor
open Go.RowKit
set_option linter.unusedVariables false
set_option linter.unusedSimpArgs false
theorem foldl_dnum (l : List UInt8) : ∀ a, l.foldl (fun a c => a * 10 + (c.toNat - 48)) a = a * 10 ^ l.length + dnum l := by
  induction l with
  | nil => intro a; simp [dnum]
  | cons c l ih =>
    intro a
    unfold dnum
    rw [List.foldl_cons, List.foldl_cons, ih, ih (0 * 10 + _), List.length_cons, Nat.pow_succ, Nat.add_mul, Nat.zero_mul, Nat.zero_add, Nat.mul_comm (10 ^ l.length) 10, ← Nat.mul_assoc, Nat.add_assoc]
theorem dnum_append (xs ys : List UInt8) : dnum (xs ++ ys) = dnum xs * 10 ^ ys.length + dnum ys := by
  rw [show dnum (xs ++ ys) = ys.foldl (fun a c => a * 10 + (c.toNat - 48)) (dnum xs) by simp [dnum], foldl_dnum]
/-- The places from e on are told: groups of four digits. -/
structure PG (l : List UInt8) (e : Nat) (ds : List Nat) : Prop where
  lt : ∀ d ∈ ds, d < 10000
  eq : dnum l = dnum (l.take e) * 10000 ^ ds.length + rval ds
theorem PG.start (l : List UInt8) : PG l l.length [] := ⟨by simp, by simp [rval]⟩
theorem PG.next {l : List UInt8} {e f : Nat} {ds : List Nat} (h : PG l e ds) (hd : l.all isDig = true) (he : e ≤ l.length) (hf : (f + 4 = e) ∨ (f = 0 ∧ e ≤ 4)) : dnum ((l.take e).drop f) < 10000 ∧ PG l f (ds ++ [dnum ((l.take e).drop f)]) := by
  have hfe : f ≤ e := by omega
  have hlen : ((l.take e).drop f).length = e - f := by simp; omega
  have hall : ((l.take e).drop f).all isDig = true := by
    rw [List.all_eq_true] at hd ⊢
    exact fun x hx => hd x (List.mem_of_mem_take (List.mem_of_mem_drop hx))
  have hlt : dnum ((l.take e).drop f) < 10000 := by
    have := dnum_lt _ hall
    rw [hlen] at this
    exact Nat.lt_of_lt_of_le this (Nat.le_trans (Nat.pow_le_pow_right (by decide) (show e - f ≤ 4 by omega)) (by decide))
  refine ⟨hlt, lt_snoc h.lt hlt, ?_⟩
  have hsp : l.take e = l.take f ++ (l.take e).drop f := by
    have : (l.take e).take f = l.take f := by rw [List.take_take, Nat.min_eq_left hfe]
    rw [← this, List.take_append_drop]
  have h1 : dnum (l.take e) = dnum (l.take f) * 10 ^ (e - f) + dnum ((l.take e).drop f) := by
    rw [← hlen, ← dnum_append, ← hsp]
  have h2 : dnum (l.take f) * 10 ^ (e - f) = dnum (l.take f) * 10000 := by
    rcases hf with hf | ⟨hf, _⟩
    · rw [show e - f = 4 by omega]
    · subst hf; simp [dnum]
  rw [h.eq, h1, h2, rval_append, List.length_append, List.length_singleton, Nat.pow_succ]
  simp only [rval, Nat.mul_zero, Nat.add_zero]
  rw [Nat.add_mul, Nat.mul_assoc, Nat.mul_comm 10000, Nat.mul_comm (dnum ((l.take e).drop f)) (10000 ^ ds.length)]
  omega
theorem PG.done {l : List UInt8} {ds : List Nat} (h : PG l 0 ds) : rval ds = dnum l := by
  have := h.eq
  simp [dnum] at this
  simpa [dnum] using this.symm
def RPost (w : World) (l : List UInt8) (e : Ending) (w' : World) : Prop := ∃ r, e = .returned (.tuple #[r, .int .i64 (pcode l)]) ∧ RIs w' r (pval l) ∧ Below w.heap.size w w'
theorem RPost.long {w W : World} {l : List UInt8} (h : numOk l = true) (hl : 1200 < l.length) (hb : Below w.heap.size w W) : RPost w l (.returned (.tuple #[.slice none 0 0, .int .i64 2])) W :=
  ⟨_, by unfold pcode; rw [h, if_pos rfl, if_pos hl], by unfold pval; rw [h, if_pos rfl, if_pos hl]; exact RIs.nil _, hb⟩
theorem RPost.good {w W : World} {l : List UInt8} {r : Value} (h : numOk l = true) (hl : ¬ 1200 < l.length) (hr : RIs W r (dnum l)) (hb : Below w.heap.size w W) : RPost w l (.returned (.tuple #[r, .int .i64 0])) W :=
  ⟨_, by unfold pcode; rw [h, if_pos rfl, if_neg hl], by unfold pval; rw [h, if_pos rfl, if_neg hl]; exact hr, hb⟩
end Go.Proofs.YtlmjkbdodecbmaaGreatDoor
namespace Go.Proofs.YtlmjkbdodecbmaaGreatDoor
open Go.RowKit
set_option linter.unusedVariables false
set_option linter.unusedSimpArgs false
end Go.Proofs.YtlmjkbdodecbmaaGreatDoor

namespace Go.Proofs.YtlmjkbdodecbmaaGreatDoor
open Go.RowKit Go.Shelf
set_option linter.unusedVariables false
set_option linter.unusedSimpArgs false
attribute [local go_sem] Oper.semAt_some
attribute [local go_sem] field_nat
/-- Numbers lie on. -/
def KeepNat (W W' : World) : Prop := ∀ v n, NatIs W v n → NatIs W' v n
theorem KeepNat.trans {A C D : World} (h : KeepNat A C) (h' : KeepNat C D) : KeepNat A D := fun v n hn => h' v n (h v n hn)
/-- All cells that hold limbs hold them still. -/
theorem KeepNat.of_cells {A C : World} (hs : A.heap.size ≤ C.heap.size) (h : ∀ p n, A.cell? p = some (.int .u32 n) → C.cell? p = some (.int .u32 n)) : KeepNat A C := by
  rintro v n ⟨sv, rfl, ao, cap, h1, h2, h3, h4, h5⟩
  refine ⟨sv, rfl, ao, cap, h1, h2, h3, h4, ?_⟩
  rcases h5 with h5 | ⟨b, off, h6, h7, h8⟩
  · exact .inl h5
  · refine .inr ⟨b, off, h6, Nat.lt_of_lt_of_le h7 hs, fun i hi => ?_⟩
    exact h _ _ (h8 i hi)
theorem KeepNat.below {A C : World} (h : Below A.heap.size A C) : KeepNat A C := fun v n hn => hn.below h
theorem Ext.block {B : Nat} {A C : World} (h : Ext B A C) {p : Addr} {v : Value} (hp : A.cell? p = some v) : C.heap[p.block]? = A.heap[p.block]? := by
  unfold World.cell? at hp
  split at hp
  · rename_i hb
    rw [hb]; exact h.cells _ _ hb rfl
  · cases hp
theorem Ext.cell {B : Nat} {A C : World} (h : Ext B A C) {p : Addr} {v : Value} (hp : A.cell? p = some v) : C.cell? p = some v :=
  (World.cell?_of_block (h.block hp)).trans hp
theorem KeepNat.ext {B : Nat} {A C : World} (h : Ext B A C) : KeepNat A C := KeepNat.of_cells h.size fun p n hp => h.cell hp
theorem Box.ext {B : Nat} {A C : World} {b : Nat} {v : Value} (hx : Box A b v) (h : Ext B A C) : Box C b v :=
  ⟨h.cell hx.cell, (World.frozen?_of_block (h.block hx.cell)).trans hx.free, Nat.lt_of_lt_of_le hx.lt h.size⟩
theorem Box.foot {S S' : Nat → Prop} {A C : World} {b : Nat} {v : Value} (hx : Box A b v) (h : Foot S S' A C) (hs : ¬ S b) : Box C b v :=
  have e := h.same b hx.lt hs
  ⟨(World.cell?_of_block (a := ⟨b, 0, none⟩) e).trans hx.cell, (World.frozen?_of_block (a := ⟨b, 0, none⟩) e).trans hx.free, Nat.lt_of_lt_of_le hx.lt h.size⟩
theorem Owns.ext {B base : Nat} {e : TypeId} {w w' : World} {v : Value} {xs : List Value} (h : Owns base e w v xs) (hx : Ext B w w') : Owns base e w' v xs := by
  refine ⟨h.1, ?_⟩
  rcases h.2 with h1 | ⟨g, cap, cur, rfl, h2, h3, h4⟩
  · exact .inl h1
  · exact .inr ⟨g, cap, cur, rfl, h2, hx.cells _ _ h3 rfl, h4⟩
theorem Iter.mono {α : Type} {P : Program} {gf : Nat} {lb : Array Value} {Enc : World → Value → α → Prop} {xs : List α} {B : Nat} {Kp : World → World → Prop} {w w' : World} (h : Iter P gf lb Enc xs B Kp w) (hb : Below w.heap.size w w') :
    Iter P gf lb Enc xs B Kp w' := fun l J Jx S0 W1 hW => h l J Jx S0 W1 (hb.trans (hW.mono hb.size))
theorem RowAll.block {p : Value → Prop} {W W' : World} {v : Value} (h : RowAll p W v) (hb : ∀ g, v.ownBlock = some g → W'.heap[g]? = W.heap[g]?) : RowAll p W' v :=
  fun g hg j c hc => h g hg j c ((World.cell?_of_block (a := ⟨g, j, none⟩) (hb g hg)).symm.trans hc)
theorem Owns.at_cells {base : Nat} {e : TypeId} {w : World} {v : Value} {xs : List Value} (h : Owns base e w v xs) : ∀ g, v.ownBlock = some g → base ≤ g ∧ g < w.heap.size ∧ ∃ o : Obj, w.heap[g]? = some o ∧ o.isCells = true := by
  intro g hg
  rcases h.2 with ⟨rfl, _⟩ | ⟨g', cap, cur, rfl, h2, h3, h4⟩
  · simp [Value.ownBlock] at hg
  · simp [Value.ownBlock] at hg
    subst hg
    exact ⟨h2, (Array.getElem?_eq_some_iff.1 h3).1, _, h3, rfl⟩
theorem RowAll.ext {p : Value → Prop} {B base : Nat} {e : TypeId} {W W' : World} {v : Value} {xs : List Value} (h : RowAll p W v) (hx : Ext B W W') (hO : Owns base e W v xs) : RowAll p W' v :=
  h.block fun g hg => by obtain ⟨_, _, o, h1, h2⟩ := hO.at_cells g hg; rw [h1]; exact hx.cells _ _ h1 h2
theorem RowAll.below {p : Value → Prop} {base : Nat} {e : TypeId} {W W' : World} {v : Value} {xs : List Value} (h : RowAll p W v) (hb : Below W.heap.size W W') (hO : Owns base e W v xs) : RowAll p W' v := h.ext (B := 0) (Ext.of_below hb) hO
theorem Iter.up {α : Type} {P : Program} {gf : Nat} {lb : Array Value} {Enc : World → Value → α → Prop} {xs : List α} {B B' : Nat} {Kp : World → World → Prop} {w w' : World} (h : Iter P gf lb Enc xs B Kp w) (hb : Below w.heap.size w w') (hB : B ≤ B') :
    Iter P gf lb Enc xs B' Kp w' := fun l J Jx S0 W1 hW hS => h l J Jx S0 W1 (hb.trans (hW.mono hb.size)) (fun k hk => ⟨Nat.le_trans hB (hS k hk).1, (hS k hk).2⟩)
theorem str_dec {l : List UInt8} (h : numOk l = true) : str (dec (dnum l)) = l := dec_dnum l h
theorem cons_bytes (c : UInt8) (l : List UInt8) : (⟨#[c]⟩ ++ ⟨l.toArray⟩ : ByteArray) = ⟨(c :: l).toArray⟩ := by
  apply ByteArray.ext
  simp
theorem str_dec_one : str (dec 1) = [49] := str_dec (l := [49]) (by decide)
theorem limbs_mul {a b m n : Nat} (ha : (limbs a).length ≤ m) (hb : (limbs b).length ≤ n) : (limbs (a * b)).length ≤ m + n := by
  have h1 := lt_pow_limbs a
  have h2 := lt_pow_limbs b
  refine Nat.le_trans (limbs_length_le (k := (limbs a).length + (limbs b).length) ?_) (by omega)
  rw [Nat.pow_add]
  rcases Nat.eq_zero_or_pos b with h0 | h0
  · subst h0; rw [Nat.mul_zero]; exact Nat.mul_pos (Nat.pow_pos (by decide)) (Nat.pow_pos (by decide))
  · exact Nat.lt_of_lt_of_le (Nat.mul_lt_mul_of_pos_right h1 h0) (Nat.mul_le_mul_left _ (Nat.le_of_lt h2))
theorem limbs_add {a b m : Nat} (ha : (limbs a).length ≤ m) (hb : (limbs b).length ≤ m) : (limbs (a + b)).length ≤ m + 1 := by
  have h1 : a < 4294967296 ^ m := Nat.lt_of_lt_of_le (lt_pow_limbs a) (Nat.pow_le_pow_right (by decide) ha)
  have h2 : b < 4294967296 ^ m := Nat.lt_of_lt_of_le (lt_pow_limbs b) (Nat.pow_le_pow_right (by decide) hb)
  refine limbs_length_le ?_
  rw [Nat.pow_succ]
  omega
theorem NatIs.alloc {w : World} {v : Value} {n : Nat} (h : NatIs w v n) (o : Obj) : NatIs (w.alloc o) v n := h.below ((Below.refl _ _).alloc (Nat.le_refl _) _)
/-- No number. -/
def NotI (c : Value) : Prop := ∀ k n, c ≠ .int k n
/-- All cells that hold integers hold them still. -/
structure KeepI (W W' : World) : Prop where
  size : W.heap.size ≤ W'.heap.size
  cell : ∀ k p n, W.cell? p = some (.int k n) → W'.cell? p = some (.int k n)
theorem KeepI.trans {A C D : World} (h : KeepI A C) (h' : KeepI C D) : KeepI A D := ⟨Nat.le_trans h.size h'.size, fun k p n hp => h'.cell k p n (h.cell k p n hp)⟩
theorem KeepI.below {A C : World} (h : Below A.heap.size A C) : KeepI A C := ⟨h.size, fun k p n hp => (h.cell (p := p) (World.block_lt_of_cell? A p hp)).trans hp⟩
theorem KeepI.grown {W w1 : World} {v : Value} (hg : W.grownBy w1 v.ownBlock) (ha : RowAll NotI W v) : KeepI W w1 := by
  refine ⟨hg.size, fun k p n hp => ?_⟩
  refine hg.cell hp ?_
  intro e
  obtain ⟨blk, off, spot⟩ := p
  have : spot = none := by
    unfold World.cell? at hp
    split at hp
    · cases spot with
      | none => rfl
      | some x => simp at hp
    · cases hp
  subst this
  exact ha blk e.symm off _ hp k n rfl
/-- Cells that read, each, as one of these numbers. -/
def ListAt (R : World → Value → Nat → Prop) (W : World) (svs : List Value) (ns : List Nat) : Prop := svs.length = ns.length ∧ ∀ (i : Nat) (sv : Value), svs[i]? = some sv → R W sv (ns[i]?.getD 0)
theorem ListAt.nil (R : World → Value → Nat → Prop) (W : World) : ListAt R W [] [] := ⟨rfl, fun i sv h => by simp at h⟩
theorem ListAt.keep {R : World → Value → Nat → Prop} {W W' : World} {svs : List Value} {ns : List Nat} (h : ListAt R W svs ns) (hk : ∀ v n, R W v n → R W' v n) : ListAt R W' svs ns :=
  ⟨h.1, fun i sv hi => hk _ _ (h.2 i sv hi)⟩
theorem ListAt.snoc {R : World → Value → Nat → Prop} {W : World} {svs : List Value} {ns : List Nat} {sv : Value} {n : Nat} (h : ListAt R W svs ns) (hn : R W sv n) : ListAt R W (svs ++ [sv]) (ns ++ [n]) := by
  refine ⟨by simp [h.1], fun i u hi => ?_⟩
  by_cases hlt : i < svs.length
  · rw [List.getElem?_append_left hlt] at hi
    rw [List.getElem?_append_left (by rw [← h.1]; exact hlt)]
    exact h.2 i u hi
  · have hie : i = svs.length := by
      have := (List.getElem?_eq_some_iff.1 hi).1
      simp at this; omega
    subst hie
    simp at hi
    subst hi
    rw [h.1]; simpa using hn
/-- A list of strings in memory. -/
def Strs (w : World) (v : Value) (ls : List (List UInt8)) : Prop :=
  ∃ ao cap, v = .slice ao ls.length cap ∧ ls.length ≤ cap ∧ cap ≤ maxLen ∧ (ls = [] ∨ ∃ b off, ao = some ⟨b, off, none⟩ ∧ b < w.heap.size ∧ ∀ i, i < ls.length → w.cell? ⟨b, off + i, none⟩ = some (.string ⟨(ls[i]?.getD []).toArray⟩))
theorem Strs.below {w w' : World} {v : Value} {ls : List (List UInt8)} (h : Strs w v ls) (hb : Below w.heap.size w w') : Strs w' v ls := by
  obtain ⟨ao, cap, h1, h2, h3, h4⟩ := h
  refine ⟨ao, cap, h1, h2, h3, ?_⟩
  rcases h4 with h4 | ⟨b, off, h5, h6, h7⟩
  · exact .inl h4
  · exact .inr ⟨b, off, h5, Nat.lt_of_lt_of_le h6 hb.size, fun i hi => (hb.cell (p := ⟨b, off + i, none⟩) h6).trans (h7 i hi)⟩
theorem RowAll.grown {p : Value → Prop} {base : Nat} {e : TypeId} {W W' : World} {v u : Value} {xs : List Value} (h : RowAll p W v) (hO : Owns base e W v xs) (hg : W.grownBy W' u.ownBlock) (hne : ∀ g, v.ownBlock = some g → u.ownBlock ≠ some g) : RowAll p W' v :=
  h.block fun g hg' => hg.block g (hO.at_cells g hg').2.1 (fun e => hne g hg' e.symm)
end Go.Proofs.YtlmjkbdodecbmaaGreatDoor

namespace Go.Proofs.YtlmjkbdodecbmaaGreatDoor
open Go.RowKit
set_option linter.unusedVariables false
set_option linter.unusedSimpArgs false
/-- A slice of n elements of K cells each, of the call's own from block base on: its cells. -/
def OwnsK (K base : Nat) (e : TypeId) (w : World) (v : Value) (n : Nat) (xs : List Value) : Prop := w.ownsRow base e K v n xs
theorem OwnsK.nil (K base : Nat) (e : TypeId) (w : World) : OwnsK K base e w (.slice none 0 0) 0 [] := World.ownsRow_nil _ _ _ _
theorem OwnsK.len {K base : Nat} {e : TypeId} {w : World} {v : Value} {n : Nat} {xs : List Value} (h : OwnsK K base e w v n xs) : xs.length = n * K := h.1
theorem OwnsK.shape {K base : Nat} {e : TypeId} {w : World} {v : Value} {n : Nat} {xs : List Value} (h : OwnsK K base e w v n xs) :
    (v = .slice none 0 0 ∧ n = 0) ∨ ∃ g cap, v = .slice (some ⟨g, 0, none⟩) n cap ∧ base ≤ g ∧ g < w.heap.size ∧ n ≤ cap ∧ cap ≤ maxLen ∧
      (∀ j, j < n * K → w.cell? ⟨g, j, none⟩ = xs[j]?) ∧ (∀ j, w.frozen? ⟨g, j, none⟩ = false) := by
  have h0 := h
  obtain ⟨h1, ⟨rfl, hn⟩ | ⟨g, cap, cur, rfl, h2, h3, h4, h5, h6, h7⟩⟩ := h
  · exact .inl ⟨rfl, hn⟩
  · exact .inr ⟨g, cap, rfl, h2, (Array.getElem?_eq_some_iff.1 h3).1, h4, h5, fun j hj => World.ownsRow.cellAt h0 j (by omega), fun j => World.ownsRow.frozenAt h0 j⟩
theorem OwnsK.kept {K base : Nat} {e : TypeId} {w w' : World} {v : Value} {n : Nat} {xs : List Value} (h : OwnsK K base e w v n xs) (hb : Below w.heap.size w w') : OwnsK K base e w' v n xs :=
  World.ownsRow.kept (row := none) h ⟨hb.os, hb.tape, hb.output, hb.size, fun k hk _ => hb.block k hk⟩ (by cases hv : v.ownBlock <;> simp)
theorem OwnsK.alloc {K base : Nat} {e : TypeId} {w : World} {v : Value} {n : Nat} {xs : List Value} (h : OwnsK K base e w v n xs) (o : Obj) : OwnsK K base e (w.alloc o) v n xs := World.ownsRow.alloc h o
theorem OwnsK.mono {K base base' : Nat} {e : TypeId} {w : World} {v : Value} {n : Nat} {xs : List Value} (h : OwnsK K base e w v n xs) (hb : base' ≤ base) : OwnsK K base' e w v n xs := by
  obtain ⟨h1, h2 | ⟨g, cap, cur, h2, h3, h4⟩⟩ := h
  · exact ⟨h1, .inl h2⟩
  · exact ⟨h1, .inr ⟨g, cap, cur, h2, by omega, h4⟩⟩
/-- What the program's tables say of a slice type whose elements are K cells. -/
structure ElemK (P : Program) (t e : TypeId) (z : Value) (K bytes : Nat) : Prop where
  und : P.underlying t = some (.slice e)
  info : ∃ i, P.info? e = some i ∧ i.zero = some z ∧ i.size = K ∧ i.bytes = bytes
  many : z.cells.size = K
  pos : 0 < K
theorem elemK_of {P : Program} {t e : TypeId} {z : Value} {K bytes : Nat} (h1 : P.underlying t = some (.slice e)) (h2 : (P.info? e).map (fun i => (i.zero, i.size, i.bytes)) = some (some z, K, bytes)) (h3 : z.cells.size = K) (h4 : 0 < K) : ElemK P t e z K bytes :=
  ⟨h1, info_parts h2, h3, h4⟩
end Go.Proofs.YtlmjkbdodecbmaaGreatDoor

namespace Go.Proofs.YtlmjkbdodecbmaaGreatDoor
open Go.RowKit
set_option linter.unusedVariables false
set_option linter.unusedSimpArgs false
/-- A block whose first cells hold these, a variable of the call's own. -/
structure BoxL (w : World) (b : Nat) (xs : List Value) : Prop where
  cell : ∀ (i : Nat) (x : Value), xs[i]? = some x → w.cell? ⟨b, i, none⟩ = some x
  free : ∀ (i : Nat), i < xs.length → w.frozen? ⟨b, i, none⟩ = false
  lt : b < w.heap.size
theorem BoxL.block {w w' : World} {b : Nat} {xs : List Value} (h : BoxL w b xs) (hg : w'.heap[b]? = w.heap[b]?) : BoxL w' b xs :=
  ⟨fun i x hi => (World.cell?_of_block (w := w) (a := ⟨b, i, none⟩) hg).trans (h.cell i x hi), fun i hi => (World.frozen?_of_block (w := w) (a := ⟨b, i, none⟩) hg).trans (h.free i hi), by
    have h1 : w.heap[b]? = some (w.heap[b]'h.lt) := Array.getElem?_eq_getElem h.lt
    rw [← hg] at h1; exact (Array.getElem?_eq_some_iff.1 h1).1⟩
theorem BoxL.kept {w w' : World} {b : Nat} {xs : List Value} (h : BoxL w b xs) (hb : Below w.heap.size w w') : BoxL w' b xs := h.block (hb.block b h.lt)
theorem BoxL.below {w w' : World} {b B : Nat} {xs : List Value} (h : BoxL w b xs) (hb : Below B w w') (hB : b < B) : BoxL w' b xs := h.block (hb.block b hB)
theorem BoxL.drew {w : World} {b : Nat} {xs : List Value} (h : BoxL w b xs) : BoxL w.drew b xs := ⟨h.cell, h.free, h.lt⟩
theorem BoxL.new (w : World) (xs : List Value) (t : TypeId) : BoxL (w.alloc (.cells xs.toArray t)) w.heap.size xs := by
  refine ⟨fun i x hi => ?_, fun i hi => ?_, by simp⟩
  · unfold World.cell?
    rw [show (w.alloc (.cells xs.toArray t)).heap[w.heap.size]? = some (.cells xs.toArray t) from heap_alloc_new w _]
    simpa using hi
  · unfold World.frozen?
    rw [show (w.alloc (.cells xs.toArray t)).heap[w.heap.size]? = some (.cells xs.toArray t) from heap_alloc_new w _]
    simp
theorem BoxL.set {w : World} {b : Nat} {xs : List Value} (h : BoxL w b xs) (i : Nat) (u : Value) (hi : i < xs.length) : BoxL (w.setCell ⟨b, i, none⟩ u) b (xs.set i u) := by
  refine ⟨fun j x hj => ?_, fun j hj => ?_, by simpa [World.setCell] using h.lt⟩
  · by_cases e : j = i
    · subst e
      rw [List.getElem?_set_self hi] at hj
      cases hj
      exact cell_set (h.cell j (xs[j]'hi) (List.getElem?_eq_getElem hi))
    · rw [List.getElem?_set_ne (fun h => e h.symm)] at hj
      rw [World.cell?_setCell_other]
      · exact h.cell j x hj
      · intro e'; have h2 : i = j := by injection e'
        exact e h2.symm
  · rw [World.frozen?_setCell]
    exact h.free j (by simpa using hj)
theorem BoxL.setOther {w : World} {b g : Nat} {xs : List Value} (h : BoxL w b xs) (hne : b ≠ g) (j : Nat) (u : Value) : BoxL (w.setCell ⟨g, j, none⟩ u) b xs :=
  h.block ((grownBy_set (grownBy_refl w (some g)) j u).block b h.lt (by simpa using hne))
theorem BoxL.of1 {w : World} {b : Nat} {x0 : Value} (c0 : w.cell? ⟨b, 0, none⟩ = some x0) (f0 : w.frozen? ⟨b, 0, none⟩ = false) : BoxL w b [x0] := by
  refine ⟨fun i x hi => ?_, fun i hi => ?_, World.block_lt_of_cell? w ⟨b, 0, none⟩ c0⟩
  · match i, hi with
    | 0, hi => simp at hi; subst hi; exact c0
  · match i, hi with
    | 0, hi => exact f0
theorem BoxL.of3 {w : World} {b : Nat} {x0 x1 x2 : Value} (c0 : w.cell? ⟨b, 0, none⟩ = some x0) (c1 : w.cell? ⟨b, 1, none⟩ = some x1) (c2 : w.cell? ⟨b, 2, none⟩ = some x2) (f0 : w.frozen? ⟨b, 0, none⟩ = false) (f1 : w.frozen? ⟨b, 1, none⟩ = false) (f2 : w.frozen? ⟨b, 2, none⟩ = false) : BoxL w b [x0, x1, x2] := by
  refine ⟨fun i x hi => ?_, fun i hi => ?_, World.block_lt_of_cell? w ⟨b, 0, none⟩ c0⟩
  · match i, hi with
    | 0, hi => simp at hi; subst hi; exact c0
    | 1, hi => simp at hi; subst hi; exact c1
    | 2, hi => simp at hi; subst hi; exact c2
  · match i, hi with
    | 0, hi => exact f0
    | 1, hi => exact f1
    | 2, hi => exact f2
/-- From w on to w': no old block has turned but those of S. -/
structure Keep (S : Nat → Prop) (w w' : World) : Prop where
  os : w'.os = w.os
  tape : w'.tape = w.tape
  output : w'.output = w.output
  size : w.heap.size ≤ w'.heap.size
  same : ∀ k, k < w.heap.size → ¬ S k → w'.heap[k]? = w.heap[k]?
theorem Keep.refl (S : Nat → Prop) (w : World) : Keep S w w := ⟨rfl, rfl, rfl, Nat.le_refl _, fun _ _ _ => rfl⟩
theorem Keep.of_below {S : Nat → Prop} {w w' : World} (h : Below w.heap.size w w') : Keep S w w' := ⟨h.os, h.tape, h.output, h.size, fun k hk _ => h.block k hk⟩
theorem Keep.trans {S S' : Nat → Prop} {a b c : World} (h : Keep S a b) (h' : Keep S' b c) (hS : ∀ k, k < a.heap.size → S' k → S k) : Keep S a c :=
  ⟨h'.os.trans h.os, h'.tape.trans h.tape, h'.output.trans h.output, Nat.le_trans h.size h'.size, fun k hk hs => (h'.same k (Nat.lt_of_lt_of_le hk h.size) (fun h2 => hs (hS k hk h2))).trans (h.same k hk hs)⟩
theorem Keep.then_below {S : Nat → Prop} {a b c : World} (h : Keep S a b) (h' : Below b.heap.size b c) : Keep S a c := h.trans (Keep.of_below (S := fun _ => False) h') (fun _ _ h => h.elim)
theorem Keep.mono {S S' : Nat → Prop} {a b : World} (h : Keep S a b) (hS : ∀ k, k < a.heap.size → S k → S' k) : Keep S' a b := ⟨h.os, h.tape, h.output, h.size, fun k hk hs => h.same k hk (fun h2 => hs (hS k hk h2))⟩
theorem Keep.below {S : Nat → Prop} {a b : World} {B : Nat} (h : Keep S a b) (hS : ∀ k, S k → B ≤ k) (hB : B ≤ a.heap.size) : Below B a b :=
  ⟨h.os, h.tape, h.output, h.size, fun k hk => h.same k (by omega) (fun h2 => by have := hS k h2; omega)⟩
theorem Keep.set {S : Nat → Prop} {a b : World} (h : Keep S a b) (g j : Nat) (u : Value) (hg : S g ∨ a.heap.size ≤ g) : Keep S a (b.setCell ⟨g, j, none⟩ u) := by
  have hs := grownBy_set (grownBy_refl b (some g)) j u
  exact ⟨hs.os.trans h.os, hs.tape.trans h.tape, hs.output.trans h.output, Nat.le_trans h.size hs.size, fun k hk hs2 => (hs.block k (Nat.lt_of_lt_of_le hk h.size) (fun e => by
    cases e
    rcases hg with h1 | h1
    · exact hs2 h1
    · omega)).trans (h.same k hk hs2)⟩
theorem BoxL.keep {S : Nat → Prop} {w w' : World} {b : Nat} {xs : List Value} (h : BoxL w b xs) (hk : Keep S w w') (hs : ¬ S b) : BoxL w' b xs := h.block (hk.same b h.lt hs)
theorem BoxL.c7 {w : World} {b : Nat} {x0 x1 x2 x3 x4 x5 x6 : Value} (h : BoxL w b [x0, x1, x2, x3, x4, x5, x6]) : w.cell? ⟨b, 0, none⟩ = some x0 ∧ w.cell? ⟨b, 1, none⟩ = some x1 ∧ w.cell? ⟨b, 2, none⟩ = some x2 ∧ w.cell? ⟨b, 3, none⟩ = some x3 ∧ w.cell? ⟨b, 4, none⟩ = some x4 ∧ w.cell? ⟨b, 5, none⟩ = some x5 ∧ w.cell? ⟨b, 6, none⟩ = some x6 := ⟨h.cell 0 _ rfl, h.cell 1 _ rfl, h.cell 2 _ rfl, h.cell 3 _ rfl, h.cell 4 _ rfl, h.cell 5 _ rfl, h.cell 6 _ rfl⟩
theorem BoxL.c8 {w : World} {b : Nat} {x0 x1 x2 x3 x4 x5 x6 x7 : Value} (h : BoxL w b [x0, x1, x2, x3, x4, x5, x6, x7]) : w.cell? ⟨b, 0, none⟩ = some x0 ∧ w.cell? ⟨b, 1, none⟩ = some x1 ∧ w.cell? ⟨b, 2, none⟩ = some x2 ∧ w.cell? ⟨b, 3, none⟩ = some x3 ∧ w.cell? ⟨b, 4, none⟩ = some x4 ∧ w.cell? ⟨b, 5, none⟩ = some x5 ∧ w.cell? ⟨b, 6, none⟩ = some x6 ∧ w.cell? ⟨b, 7, none⟩ = some x7 := ⟨h.cell 0 _ rfl, h.cell 1 _ rfl, h.cell 2 _ rfl, h.cell 3 _ rfl, h.cell 4 _ rfl, h.cell 5 _ rfl, h.cell 6 _ rfl, h.cell 7 _ rfl⟩
end Go.Proofs.YtlmjkbdodecbmaaGreatDoor
