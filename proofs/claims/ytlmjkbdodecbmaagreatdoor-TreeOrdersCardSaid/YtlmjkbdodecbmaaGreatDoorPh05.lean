/-
  Ph05: RefN ComN MathQ MathR MathS MathD MathE MathV MathW PrepM (what is needed of them).
-/
import Derived.Test.YtlmjkbdodecbmaaGreatDoorPh00
import Derived.Test.YtlmjkbdodecbmaaGreatDoorPh01
import Derived.Test.YtlmjkbdodecbmaaGreatDoorPh03
import Derived.Test.YtlmjkbdodecbmaaGreatDoorPh04
import Derived.Laws.AppendOwnNone
import Derived.WalkKit

namespace Go.Proofs.YtlmjkbdodecbmaaGreatDoor
open Go.RowKit
set_option linter.unusedVariables false
set_option linter.unusedSimpArgs false
/-- A number of the document's in memory. -/
def RIs (w : World) (v : Value) (n : Nat) : Prop := Ints .i64 w v (rlimbs n)
theorem RIs.below {w w' : World} {v : Value} {n : Nat} (h : RIs w v n) (hb : Below w.heap.size w w') : RIs w' v n := Ints.below h hb
theorem RIs.open {w : World} {v : Value} {n : Nat} (h : RIs w v n) : ∃ ao cap, v = .slice ao (rlimbs n).length cap ∧ (rlimbs n).length ≤ cap ∧ cap ≤ 9223372036854775807 ∧ (ao = none → cap = 0) ∧ Cells .i64 w ao (rlimbs n) := h
theorem RIs.nil (w : World) : RIs w (.slice none 0 0) 0 := ⟨none, 0, by rw [rlimbs_zero]; rfl, by rw [rlimbs_zero]; simp, Nat.zero_le _, fun _ => rfl, .inl rlimbs_zero⟩
end Go.Proofs.YtlmjkbdodecbmaaGreatDoor
namespace Go.Proofs.YtlmjkbdodecbmaaGreatDoor
open Go.RowKit
set_option linter.unusedVariables false
set_option linter.unusedSimpArgs false
theorem Tryz.info3 : (Tryz.prog.info? 3).map (fun i => (i.zero, i.size, i.bytes)) = some (some (.int .i64 0), 1, 8) := by kernel_rfl
theorem RAdd.over {xs ys zs : List Nat} {k c : Nat} (h : RAdd xs ys k c zs) (hx : ∀ x ∈ xs, x < 10000) (hy : ∀ y ∈ ys, y < 10000) (h1 : xs.length < k) (h2 : ys.length < k) : c = 0 := by
  have he := h.eq
  rw [List.take_of_length_le (l := xs) (by omega), List.take_of_length_le (l := ys) (by omega)] at he
  have a1 := rval_lt xs hx
  have a2 := rval_lt ys hy
  obtain ⟨j, rfl⟩ : ∃ j, k = j + 1 := ⟨k - 1, by omega⟩
  have a3 : (10000 : Nat) ^ xs.length ≤ 10000 ^ j := Nat.pow_le_pow_right (by decide) (by omega)
  have a4 : (10000 : Nat) ^ ys.length ≤ 10000 ^ j := Nat.pow_le_pow_right (by decide) (by omega)
  rw [Nat.pow_succ, Nat.mul_assoc] at he
  rcases Nat.eq_zero_or_pos c with h0 | h0
  · exact h0
  · exfalso
    have a5 : 10000 ^ j * 2 ≤ 10000 ^ j * (10000 * c) := Nat.mul_le_mul_left _ (by omega)
    generalize 10000 ^ j * (10000 * c) = R at *
    omega
end Go.Proofs.YtlmjkbdodecbmaaGreatDoor
namespace Go.Proofs.YtlmjkbdodecbmaaGreatDoor
open Go.RowKit
set_option linter.unusedVariables false
set_option linter.unusedSimpArgs false
theorem Mut.drewN {k : IntKind} {w : World} {g off : Nat} {xs : List Nat} (h : Mut k w g off xs) (n : Nat) : Mut k (w.drewN n) g off xs := ⟨h.lt, h.cell, h.free⟩
end Go.Proofs.YtlmjkbdodecbmaaGreatDoor
namespace Go.Proofs.YtlmjkbdodecbmaaGreatDoor
open Go.RowKit
set_option linter.unusedVariables false
set_option linter.unusedSimpArgs false
end Go.Proofs.YtlmjkbdodecbmaaGreatDoor
namespace Go.Proofs.YtlmjkbdodecbmaaGreatDoor
open Go.RowKit
set_option linter.unusedVariables false
set_option linter.unusedSimpArgs false
theorem RTxt.digit {n v D m : Nat} {ds : List Nat} (h : RTxt n ds (v + 10 ^ (m + 1) * D)) : RTxt n (ds ++ [v % 10]) (v / 10 + 10 ^ m * D) := by
  have h1 := h.next
  have e1 : (v + 10 ^ (m + 1) * D) % 10 = v % 10 := by rw [Nat.pow_succ, Nat.mul_comm (10 ^ m) 10, Nat.mul_assoc, Nat.add_mul_mod_self_left]
  have e2 : (v + 10 ^ (m + 1) * D) / 10 = v / 10 + 10 ^ m * D := by rw [Nat.pow_succ, Nat.mul_comm (10 ^ m) 10, Nat.mul_assoc, Nat.add_mul_div_left _ _ (by decide)]
  rwa [e1, e2] at h1
/-- The text of the digits so far. -/
def TX (T : List UInt8) (ds : List Nat) (k : Nat) : Prop := T = str (ds.reverse.map (48 + ·)) ∧ ds.length = k
theorem TX.len {T : List UInt8} {ds : List Nat} {k : Nat} (h : TX T ds k) : T.length = k := by rw [h.1, ← h.2]; simp [str]
theorem TX.snoc {T : List UInt8} {ds : List Nat} {k : Nat} (h : TX T ds k) (d : Nat) : TX (str [48 + d] ++ T) (ds ++ [d]) (k + 1) := by
  refine ⟨?_, by simp [h.2]⟩
  rw [h.1]; simp [str]
theorem top_pos {n i : Nat} (h : i + 1 = (rlimbs n).length) : 0 < (rlimbs n)[i]?.getD 0 := by
  have hne : rlimbs n ≠ [] := by intro h0; rw [h0] at h; simp at h
  have h2 := rlimbs_getLast n hne
  rw [List.getLast_eq_getElem] at h2
  rw [List.getElem?_eq_getElem (by omega)]
  simp only [Option.getD_some]
  have h3 : (rlimbs n).length - 1 = i := by omega
  simp only [h3] at h2
  omega
/-- How the digits of limb i stand at digit k. -/
structure RT (n : Nat) (i k v : Nat) (ds : List Nat) : Prop where
  txt : RTxt n ds (v + 10 ^ (4 - k) * rval ((rlimbs n).drop (i + 1)))
  small : v < 10 ^ (4 - k)
  last : i + 1 = (rlimbs n).length → 0 < v ∨ ∀ hd : ds ≠ [], ds.getLast hd ≠ 0
theorem RT.start {n i : Nat} {ds : List Nat} (h : RTxt n ds (rval ((rlimbs n).drop i))) (hi : i < (rlimbs n).length) : RT n i 0 ((rlimbs n)[i]?.getD 0) ds := by
  refine ⟨?_, getD_lt (rlimbs_lt n) (by decide), fun h1 => .inl (top_pos h1)⟩
  rw [rval_drop hi] at h
  exact h
theorem RT.next {n i k v : Nat} {ds : List Nat} (h : RT n i k v ds) (hk : k < 4) (hgo : i + 1 < (rlimbs n).length ∨ 0 < v) : RT n i (k + 1) (v / 10) (ds ++ [v % 10]) := by
  obtain ⟨m, hm⟩ : ∃ m, 4 - k = m + 1 := ⟨3 - k, by omega⟩
  have hm2 : 4 - (k + 1) = m := by omega
  have h1 := h.txt
  have h2 := h.small
  rw [hm] at h1 h2
  refine ⟨by rw [hm2]; exact h1.digit, ?_, fun hl => ?_⟩
  · rw [hm2]; rw [Nat.pow_succ] at h2; exact Nat.div_lt_of_lt_mul (by rw [Nat.mul_comm]; exact h2)
  · rcases Nat.eq_zero_or_pos (v / 10) with h0 | h0
    · refine .inr fun hd => ?_
      rw [List.getLast_append_of_ne_nil _ (by simp)]
      simp only [List.getLast_singleton]
      omega
    · exact .inl h0
theorem RT.row {n i k v : Nat} {ds : List Nat} (h : RT n i k v ds) (hi : i < (rlimbs n).length) (hend : k = 4 ∨ (i + 1 = (rlimbs n).length ∧ v = 0)) (hk : k ≤ 4) : RTxt n ds (rval ((rlimbs n).drop (i + 1))) ∧ (i + 1 = (rlimbs n).length → ∀ hd : ds ≠ [], ds.getLast hd ≠ 0) := by
  have h1 := h.txt
  have h2 := h.small
  have hv : v = 0 := by
    rcases hend with h3 | h3
    · rw [h3] at h2; simpa using h2
    · exact h3.2
  subst hv
  refine ⟨?_, fun hl => ?_⟩
  · rw [Nat.zero_add] at h1
    rcases hend with h3 | h3
    · rw [h3] at h1; simpa using h1
    · have : rval ((rlimbs n).drop (i + 1)) = 0 := by rw [List.drop_of_length_le (by omega)]; rfl
      rw [this] at h1 ⊢
      simpa using h1
  · rcases h.last hl with h3 | h3
    · omega
    · exact h3
theorem RT.done {n : Nat} {ds : List Nat} (h : RTxt n ds (rval ((rlimbs n).drop (rlimbs n).length))) (hn : 0 < n) (ht : ∀ hd : ds ≠ [], ds.getLast hd ≠ 0) : ds.reverse.map (48 + ·) = dec n := by
  rw [List.drop_length] at h
  exact h.done hn ht
end Go.Proofs.YtlmjkbdodecbmaaGreatDoor
namespace Go.Proofs.YtlmjkbdodecbmaaGreatDoor
open Go.RowKit
set_option linter.unusedVariables false
set_option linter.unusedSimpArgs false
theorem foldl_dnum (l : List UInt8) : ∀ a, l.foldl (fun a c => a * 10 + (c.toNat - 48)) a = a * 10 ^ l.length + dnum l := by
  induction l with
  | nil => intro a; simp [dnum]
  | cons c l ih =>
    intro a
    unfold dnum
    rw [List.foldl_cons, List.foldl_cons, ih, ih (0 * 10 + _), List.length_cons, Nat.pow_succ, Nat.add_mul, Nat.zero_mul, Nat.zero_add, Nat.mul_comm (10 ^ l.length) 10, ← Nat.mul_assoc, Nat.add_assoc]
theorem dnum_append (xs ys : List UInt8) : dnum (xs ++ ys) = dnum xs * 10 ^ ys.length + dnum ys := by
  rw [show dnum (xs ++ ys) = ys.foldl (fun a c => a * 10 + (c.toNat - 48)) (dnum xs) by simp [dnum], foldl_dnum]
/-- The places from e on are told: groups of four digits. -/
structure PG (l : List UInt8) (e : Nat) (ds : List Nat) : Prop where
  lt : ∀ d ∈ ds, d < 10000
  eq : dnum l = dnum (l.take e) * 10000 ^ ds.length + rval ds
theorem PG.start (l : List UInt8) : PG l l.length [] := ⟨by simp, by simp [rval]⟩
theorem PG.next {l : List UInt8} {e f : Nat} {ds : List Nat} (h : PG l e ds) (hd : l.all isDig = true) (he : e ≤ l.length) (hf : (f + 4 = e) ∨ (f = 0 ∧ e ≤ 4)) : dnum ((l.take e).drop f) < 10000 ∧ PG l f (ds ++ [dnum ((l.take e).drop f)]) := by
  have hfe : f ≤ e := by omega
  have hlen : ((l.take e).drop f).length = e - f := by simp; omega
  have hall : ((l.take e).drop f).all isDig = true := by
    rw [List.all_eq_true] at hd ⊢
    exact fun x hx => hd x (List.mem_of_mem_take (List.mem_of_mem_drop hx))
  have hlt : dnum ((l.take e).drop f) < 10000 := by
    have := dnum_lt _ hall
    rw [hlen] at this
    exact Nat.lt_of_lt_of_le this (Nat.le_trans (Nat.pow_le_pow_right (by decide) (show e - f ≤ 4 by omega)) (by decide))
  refine ⟨hlt, lt_snoc h.lt hlt, ?_⟩
  have hsp : l.take e = l.take f ++ (l.take e).drop f := by
    have : (l.take e).take f = l.take f := by rw [List.take_take, Nat.min_eq_left hfe]
    rw [← this, List.take_append_drop]
  have h1 : dnum (l.take e) = dnum (l.take f) * 10 ^ (e - f) + dnum ((l.take e).drop f) := by
    rw [← hlen, ← dnum_append, ← hsp]
  have h2 : dnum (l.take f) * 10 ^ (e - f) = dnum (l.take f) * 10000 := by
    rcases hf with hf | ⟨hf, _⟩
    · rw [show e - f = 4 by omega]
    · subst hf; simp [dnum]
  rw [h.eq, h1, h2, rval_append, List.length_append, List.length_singleton, Nat.pow_succ]
  simp only [rval, Nat.mul_zero, Nat.add_zero]
  rw [Nat.add_mul, Nat.mul_assoc, Nat.mul_comm 10000, Nat.mul_comm (dnum ((l.take e).drop f)) (10000 ^ ds.length)]
  omega
theorem PG.done {l : List UInt8} {ds : List Nat} (h : PG l 0 ds) : rval ds = dnum l := by
  have := h.eq
  simp [dnum] at this
  simpa [dnum] using this.symm
def RPost (w : World) (l : List UInt8) (e : Ending) (w' : World) : Prop := ∃ r, e = .returned (.tuple #[r, .int .i64 (pcode l)]) ∧ RIs w' r (pval l) ∧ Below w.heap.size w w'
theorem RPost.long {w W : World} {l : List UInt8} (h : numOk l = true) (hl : 1200 < l.length) (hb : Below w.heap.size w W) : RPost w l (.returned (.tuple #[.slice none 0 0, .int .i64 2])) W :=
  ⟨_, by unfold pcode; rw [h, if_pos rfl, if_pos hl], by unfold pval; rw [h, if_pos rfl, if_pos hl]; exact RIs.nil _, hb⟩
theorem RPost.good {w W : World} {l : List UInt8} {r : Value} (h : numOk l = true) (hl : ¬ 1200 < l.length) (hr : RIs W r (dnum l)) (hb : Below w.heap.size w W) : RPost w l (.returned (.tuple #[r, .int .i64 0])) W :=
  ⟨_, by unfold pcode; rw [h, if_pos rfl, if_neg hl], by unfold pval; rw [h, if_pos rfl, if_neg hl]; exact hr, hb⟩
end Go.Proofs.YtlmjkbdodecbmaaGreatDoor
namespace Go.Proofs.YtlmjkbdodecbmaaGreatDoor
open Go.RowKit
set_option linter.unusedVariables false
set_option linter.unusedSimpArgs false
end Go.Proofs.YtlmjkbdodecbmaaGreatDoor

namespace Go.Proofs.YtlmjkbdodecbmaaGreatDoor
open Go.RowKit Go.Shelf
set_option linter.unusedVariables false
set_option linter.unusedSimpArgs false
attribute [local go_sem] Oper.semAt_some
attribute [local go_sem] field_nat
/-- Numbers lie on. -/
def KeepNat (W W' : World) : Prop := ∀ v n, NatIs W v n → NatIs W' v n
theorem KeepNat.trans {A C D : World} (h : KeepNat A C) (h' : KeepNat C D) : KeepNat A D := fun v n hn => h' v n (h v n hn)
/-- All cells that hold limbs hold them still. -/
theorem KeepNat.of_cells {A C : World} (hs : A.heap.size ≤ C.heap.size) (h : ∀ p n, A.cell? p = some (.int .u32 n) → C.cell? p = some (.int .u32 n)) : KeepNat A C := by
  rintro v n ⟨sv, rfl, ao, cap, h1, h2, h3, h4, h5⟩
  refine ⟨sv, rfl, ao, cap, h1, h2, h3, h4, ?_⟩
  rcases h5 with h5 | ⟨b, off, h6, h7, h8⟩
  · exact .inl h5
  · refine .inr ⟨b, off, h6, Nat.lt_of_lt_of_le h7 hs, fun i hi => ?_⟩
    exact h _ _ (h8 i hi)
theorem KeepNat.below {A C : World} (h : Below A.heap.size A C) : KeepNat A C := fun v n hn => hn.below h
theorem Ext.block {B : Nat} {A C : World} (h : Ext B A C) {p : Addr} {v : Value} (hp : A.cell? p = some v) : C.heap[p.block]? = A.heap[p.block]? := by
  unfold World.cell? at hp
  split at hp
  · rename_i hb
    rw [hb]; exact h.cells _ _ hb rfl
  · cases hp
theorem Ext.cell {B : Nat} {A C : World} (h : Ext B A C) {p : Addr} {v : Value} (hp : A.cell? p = some v) : C.cell? p = some v :=
  (World.cell?_of_block (h.block hp)).trans hp
theorem KeepNat.ext {B : Nat} {A C : World} (h : Ext B A C) : KeepNat A C := KeepNat.of_cells h.size fun p n hp => h.cell hp
theorem Box.ext {B : Nat} {A C : World} {b : Nat} {v : Value} (hx : Box A b v) (h : Ext B A C) : Box C b v :=
  ⟨h.cell hx.cell, (World.frozen?_of_block (h.block hx.cell)).trans hx.free, Nat.lt_of_lt_of_le hx.lt h.size⟩
theorem Box.foot {S S' : Nat → Prop} {A C : World} {b : Nat} {v : Value} (hx : Box A b v) (h : Foot S S' A C) (hs : ¬ S b) : Box C b v :=
  have e := h.same b hx.lt hs
  ⟨(World.cell?_of_block (a := ⟨b, 0, none⟩) e).trans hx.cell, (World.frozen?_of_block (a := ⟨b, 0, none⟩) e).trans hx.free, Nat.lt_of_lt_of_le hx.lt h.size⟩
theorem Owns.ext {B base : Nat} {e : TypeId} {w w' : World} {v : Value} {xs : List Value} (h : Owns base e w v xs) (hx : Ext B w w') : Owns base e w' v xs := by
  refine ⟨h.1, ?_⟩
  rcases h.2 with h1 | ⟨g, cap, cur, rfl, h2, h3, h4⟩
  · exact .inl h1
  · exact .inr ⟨g, cap, cur, rfl, h2, hx.cells _ _ h3 rfl, h4⟩
theorem Iter.mono {α : Type} {P : Program} {gf : Nat} {lb : Array Value} {Enc : World → Value → α → Prop} {xs : List α} {B : Nat} {Kp : World → World → Prop} {w w' : World} (h : Iter P gf lb Enc xs B Kp w) (hb : Below w.heap.size w w') :
    Iter P gf lb Enc xs B Kp w' := fun l J Jx S0 W1 hW => h l J Jx S0 W1 (hb.trans (hW.mono hb.size))
theorem RowAll.block {p : Value → Prop} {W W' : World} {v : Value} (h : RowAll p W v) (hb : ∀ g, v.ownBlock = some g → W'.heap[g]? = W.heap[g]?) : RowAll p W' v :=
  fun g hg j c hc => h g hg j c ((World.cell?_of_block (a := ⟨g, j, none⟩) (hb g hg)).symm.trans hc)
theorem Owns.at_cells {base : Nat} {e : TypeId} {w : World} {v : Value} {xs : List Value} (h : Owns base e w v xs) : ∀ g, v.ownBlock = some g → base ≤ g ∧ g < w.heap.size ∧ ∃ o : Obj, w.heap[g]? = some o ∧ o.isCells = true := by
  intro g hg
  rcases h.2 with ⟨rfl, _⟩ | ⟨g', cap, cur, rfl, h2, h3, h4⟩
  · simp [Value.ownBlock] at hg
  · simp [Value.ownBlock] at hg
    subst hg
    exact ⟨h2, (Array.getElem?_eq_some_iff.1 h3).1, _, h3, rfl⟩
theorem RowAll.ext {p : Value → Prop} {B base : Nat} {e : TypeId} {W W' : World} {v : Value} {xs : List Value} (h : RowAll p W v) (hx : Ext B W W') (hO : Owns base e W v xs) : RowAll p W' v :=
  h.block fun g hg => by obtain ⟨_, _, o, h1, h2⟩ := hO.at_cells g hg; rw [h1]; exact hx.cells _ _ h1 h2
theorem RowAll.below {p : Value → Prop} {base : Nat} {e : TypeId} {W W' : World} {v : Value} {xs : List Value} (h : RowAll p W v) (hb : Below W.heap.size W W') (hO : Owns base e W v xs) : RowAll p W' v := h.ext (B := 0) (Ext.of_below hb) hO
theorem Iter.up {α : Type} {P : Program} {gf : Nat} {lb : Array Value} {Enc : World → Value → α → Prop} {xs : List α} {B B' : Nat} {Kp : World → World → Prop} {w w' : World} (h : Iter P gf lb Enc xs B Kp w) (hb : Below w.heap.size w w') (hB : B ≤ B') :
    Iter P gf lb Enc xs B' Kp w' := fun l J Jx S0 W1 hW hS => h l J Jx S0 W1 (hb.trans (hW.mono hb.size)) (fun k hk => ⟨Nat.le_trans hB (hS k hk).1, (hS k hk).2⟩)
theorem str_dec {l : List UInt8} (h : numOk l = true) : str (dec (dnum l)) = l := dec_dnum l h
theorem cons_bytes (c : UInt8) (l : List UInt8) : (⟨#[c]⟩ ++ ⟨l.toArray⟩ : ByteArray) = ⟨(c :: l).toArray⟩ := by
  apply ByteArray.ext
  simp
theorem str_dec_one : str (dec 1) = [49] := str_dec (l := [49]) (by decide)
theorem limbs_mul {a b m n : Nat} (ha : (limbs a).length ≤ m) (hb : (limbs b).length ≤ n) : (limbs (a * b)).length ≤ m + n := by
  have h1 := lt_pow_limbs a
  have h2 := lt_pow_limbs b
  refine Nat.le_trans (limbs_length_le (k := (limbs a).length + (limbs b).length) ?_) (by omega)
  rw [Nat.pow_add]
  rcases Nat.eq_zero_or_pos b with h0 | h0
  · subst h0; rw [Nat.mul_zero]; exact Nat.mul_pos (Nat.pow_pos (by decide)) (Nat.pow_pos (by decide))
  · exact Nat.lt_of_lt_of_le (Nat.mul_lt_mul_of_pos_right h1 h0) (Nat.mul_le_mul_left _ (Nat.le_of_lt h2))
theorem limbs_add {a b m : Nat} (ha : (limbs a).length ≤ m) (hb : (limbs b).length ≤ m) : (limbs (a + b)).length ≤ m + 1 := by
  have h1 : a < 4294967296 ^ m := Nat.lt_of_lt_of_le (lt_pow_limbs a) (Nat.pow_le_pow_right (by decide) ha)
  have h2 : b < 4294967296 ^ m := Nat.lt_of_lt_of_le (lt_pow_limbs b) (Nat.pow_le_pow_right (by decide) hb)
  refine limbs_length_le ?_
  rw [Nat.pow_succ]
  omega
theorem NatIs.alloc {w : World} {v : Value} {n : Nat} (h : NatIs w v n) (o : Obj) : NatIs (w.alloc o) v n := h.below ((Below.refl _ _).alloc (Nat.le_refl _) _)
/-- No number. -/
def NotI (c : Value) : Prop := ∀ k n, c ≠ .int k n
/-- All cells that hold integers hold them still. -/
structure KeepI (W W' : World) : Prop where
  size : W.heap.size ≤ W'.heap.size
  cell : ∀ k p n, W.cell? p = some (.int k n) → W'.cell? p = some (.int k n)
theorem KeepI.trans {A C D : World} (h : KeepI A C) (h' : KeepI C D) : KeepI A D := ⟨Nat.le_trans h.size h'.size, fun k p n hp => h'.cell k p n (h.cell k p n hp)⟩
theorem KeepI.below {A C : World} (h : Below A.heap.size A C) : KeepI A C := ⟨h.size, fun k p n hp => (h.cell (p := p) (World.block_lt_of_cell? A p hp)).trans hp⟩
theorem KeepI.grown {W w1 : World} {v : Value} (hg : W.grownBy w1 v.ownBlock) (ha : RowAll NotI W v) : KeepI W w1 := by
  refine ⟨hg.size, fun k p n hp => ?_⟩
  refine hg.cell hp ?_
  intro e
  obtain ⟨blk, off, spot⟩ := p
  have : spot = none := by
    unfold World.cell? at hp
    split at hp
    · cases spot with
      | none => rfl
      | some x => simp at hp
    · cases hp
  subst this
  exact ha blk e.symm off _ hp k n rfl
/-- Cells that read, each, as one of these numbers. -/
def ListAt (R : World → Value → Nat → Prop) (W : World) (svs : List Value) (ns : List Nat) : Prop := svs.length = ns.length ∧ ∀ (i : Nat) (sv : Value), svs[i]? = some sv → R W sv (ns[i]?.getD 0)
theorem ListAt.nil (R : World → Value → Nat → Prop) (W : World) : ListAt R W [] [] := ⟨rfl, fun i sv h => by simp at h⟩
theorem ListAt.keep {R : World → Value → Nat → Prop} {W W' : World} {svs : List Value} {ns : List Nat} (h : ListAt R W svs ns) (hk : ∀ v n, R W v n → R W' v n) : ListAt R W' svs ns :=
  ⟨h.1, fun i sv hi => hk _ _ (h.2 i sv hi)⟩
theorem ListAt.snoc {R : World → Value → Nat → Prop} {W : World} {svs : List Value} {ns : List Nat} {sv : Value} {n : Nat} (h : ListAt R W svs ns) (hn : R W sv n) : ListAt R W (svs ++ [sv]) (ns ++ [n]) := by
  refine ⟨by simp [h.1], fun i u hi => ?_⟩
  by_cases hlt : i < svs.length
  · rw [List.getElem?_append_left hlt] at hi
    rw [List.getElem?_append_left (by rw [← h.1]; exact hlt)]
    exact h.2 i u hi
  · have hie : i = svs.length := by
      have := (List.getElem?_eq_some_iff.1 hi).1
      simp at this; omega
    subst hie
    simp at hi
    subst hi
    rw [h.1]; simpa using hn
/-- A list of strings in memory. -/
def Strs (w : World) (v : Value) (ls : List (List UInt8)) : Prop :=
  ∃ ao cap, v = .slice ao ls.length cap ∧ ls.length ≤ cap ∧ cap ≤ maxLen ∧ (ls = [] ∨ ∃ b off, ao = some ⟨b, off, none⟩ ∧ b < w.heap.size ∧ ∀ i, i < ls.length → w.cell? ⟨b, off + i, none⟩ = some (.string ⟨(ls[i]?.getD []).toArray⟩))
theorem Strs.below {w w' : World} {v : Value} {ls : List (List UInt8)} (h : Strs w v ls) (hb : Below w.heap.size w w') : Strs w' v ls := by
  obtain ⟨ao, cap, h1, h2, h3, h4⟩ := h
  refine ⟨ao, cap, h1, h2, h3, ?_⟩
  rcases h4 with h4 | ⟨b, off, h5, h6, h7⟩
  · exact .inl h4
  · exact .inr ⟨b, off, h5, Nat.lt_of_lt_of_le h6 hb.size, fun i hi => (hb.cell (p := ⟨b, off + i, none⟩) h6).trans (h7 i hi)⟩
theorem RowAll.grown {p : Value → Prop} {base : Nat} {e : TypeId} {W W' : World} {v u : Value} {xs : List Value} (h : RowAll p W v) (hO : Owns base e W v xs) (hg : W.grownBy W' u.ownBlock) (hne : ∀ g, v.ownBlock = some g → u.ownBlock ≠ some g) : RowAll p W' v :=
  h.block fun g hg' => hg.block g (hO.at_cells g hg').2.1 (fun e => hne g hg' e.symm)
end Go.Proofs.YtlmjkbdodecbmaaGreatDoor

namespace Go.Proofs.YtlmjkbdodecbmaaGreatDoor
set_option linter.unusedVariables false
set_option linter.unusedSimpArgs false
/-- A number with its sign. -/
def sg (neg : Bool) (n : Nat) : Int := if neg then -(n : Int) else n
theorem sg_natAbs (neg : Bool) (n : Nat) : (sg neg n).natAbs = n := by cases neg <;> simp [sg]
/-- The fraction of a sign and two numbers. -/
def qOf (neg : Bool) (n d : Nat) : Rat := mkRat (sg neg n) d
theorem qOf_num {neg : Bool} {n d : Nat} (hd : 0 < d) : (qOf neg n d).num = sg neg (n / Nat.gcd n d) := by
  have hd' : d ≠ 0 := by omega
  unfold qOf
  rw [Rat.mkRat_def, dif_neg hd', Rat.normalize_eq]
  simp only [sg_natAbs]
  cases neg
  · simp [sg]
  · simp only [sg, if_true]
    rw [Int.neg_ediv_of_dvd (Int.natCast_dvd_natCast.2 (Nat.gcd_dvd_left _ _))]
    simp
theorem qOf_den {neg : Bool} {n d : Nat} (hd : 0 < d) : (qOf neg n d).den = d / Nat.gcd n d := by
  have hd' : d ≠ 0 := by omega
  unfold qOf
  rw [Rat.mkRat_def, dif_neg hd', Rat.normalize_eq]
  simp only [sg_natAbs]
theorem qOf_zero (neg : Bool) (d : Nat) : qOf neg 0 d = 0 := by
  unfold qOf
  have : sg neg 0 = 0 := by cases neg <;> rfl
  rw [this, Rat.zero_mkRat]
theorem q_neg (q : Rat) : q < 0 ↔ q.num < 0 := by rw [Rat.lt_iff]; simp
theorem qOf_self (q : Rat) : qOf (decide (q < 0)) q.num.natAbs q.den = q := by
  have h : sg (decide (q < 0)) q.num.natAbs = q.num := by
    unfold sg
    by_cases h : q < 0
    · have := (q_neg q).1 h
      simp only [h, decide_true, if_true]; omega
    · have h1 : ¬ q.num < 0 := fun h2 => h ((q_neg q).2 h2)
      simp only [h, decide_false]
      simp; omega
  unfold qOf
  rw [h, Rat.mkRat_self]
theorem qOf_neg {neg : Bool} {n d : Nat} (hn : 0 < n) (hd : 0 < d) : decide (qOf neg n d < 0) = neg := by
  have hg : 0 < n / Nat.gcd n d := Nat.div_pos (Nat.gcd_le_left _ hn) (Nat.gcd_pos_of_pos_left _ hn)
  have h := q_neg (qOf neg n d)
  rw [qOf_num hd] at h
  cases neg
  · rw [decide_eq_false_iff_not, h]; simp [sg]; omega
  · rw [decide_eq_true_iff, h]; simp only [sg, if_true]; omega
theorem qOf_eq_zero {neg : Bool} {n d : Nat} (hn : 0 < n) (hd : 0 < d) : qOf neg n d ≠ 0 := by
  intro h
  have hg : 0 < n / Nat.gcd n d := Nat.div_pos (Nat.gcd_le_left _ hn) (Nat.gcd_pos_of_pos_left _ hn)
  have h1 := qOf_num (neg := neg) (n := n) hd
  rw [h] at h1
  have h2 := congrArg Int.natAbs h1
  rw [sg_natAbs] at h2
  simp at h2
  omega
/-! What is reckoned of signs, numerators and denominators is what is reckoned of the fractions. -/
theorem qOf_frac (neg : Bool) (n : Nat) {d : Nat} (hd : 0 < d) : qOf neg n d = (sg neg n : Rat) / (d : Rat) := by
  unfold qOf
  rw [Rat.mkRat_eq_div]
theorem q_add_eq (a b : Rat) : a + b = mkRat (a.num * b.den + b.num * a.den) (a.den * b.den) := by
  rw [Rat.add_def, Rat.mkRat_def, dif_neg (Nat.ne_of_gt (Nat.mul_pos a.den_pos b.den_pos))]
theorem qneg_num (a : Rat) : (-a).num.natAbs = a.num.natAbs ∧ (-a).den = a.den := by
  simp
end Go.Proofs.YtlmjkbdodecbmaaGreatDoor

namespace Go.Proofs.YtlmjkbdodecbmaaGreatDoor
open Go.RowKit
set_option linter.unusedVariables false
set_option linter.unusedSimpArgs false
/-- Sizes: numerator and denominator have at most k limbs. -/
def QB (q : Rat) (k : Nat) : Prop := (limbs q.num.natAbs).length ≤ k ∧ (limbs q.den).length ≤ k
theorem QB.mono {q : Rat} {k m : Nat} (h : QB q k) (hk : k ≤ m) : QB q m := ⟨Nat.le_trans h.1 hk, Nat.le_trans h.2 hk⟩
theorem QB.neg {q : Rat} {k : Nat} (h : QB q k) : QB (-q) k := by
  unfold QB; rw [(qneg_num q).1, (qneg_num q).2]; exact h
theorem mkRat_le (z : Int) {d : Nat} (hd : 0 < d) : (mkRat z d).num.natAbs ≤ z.natAbs ∧ (mkRat z d).den ≤ d := by
  have hd' : d ≠ 0 := by omega
  rw [Rat.mkRat_def, dif_neg hd', Rat.normalize_eq]
  refine ⟨?_, Nat.div_le_self _ _⟩
  show (z / ((Nat.gcd z.natAbs d : Nat) : Int)).natAbs ≤ z.natAbs
  rw [Int.natAbs_ediv_of_dvd (Int.ofNat_dvd_left.2 (Nat.gcd_dvd_left _ _))]
  exact Nat.div_le_self _ _
theorem qOf_le (neg : Bool) (n : Nat) {d : Nat} (hd : 0 < d) : (qOf neg n d).num.natAbs ≤ n ∧ (qOf neg n d).den ≤ d := by
  have h := mkRat_le (sg neg n) hd
  rw [sg_natAbs] at h
  exact h
theorem QB.of {n d k : Nat} (neg : Bool) (hn : (limbs n).length ≤ k) (hd : (limbs d).length ≤ k) (h0 : 0 < d) : QB (qOf neg n d) k := by
  have h := qOf_le neg n h0
  exact ⟨Nat.le_trans (limbs_length_mono h.1) hn, Nat.le_trans (limbs_length_mono h.2) hd⟩
theorem limbs_bound {n k : Nat} (h : n < 4294967296) (hk : 1 ≤ k) : (limbs n).length ≤ k := Nat.le_trans (limbs_length_le (k := 1) (by omega)) hk
theorem QB.zero (k : Nat) (hk : 1 ≤ k) : QB 0 k := ⟨limbs_bound (by decide) hk, limbs_bound (by decide) hk⟩
theorem QB.num {q : Rat} {k : Nat} (h : QB q k) : (limbs q.num.natAbs).length ≤ k := h.1
theorem QB.den {q : Rat} {k : Nat} (h : QB q k) : (limbs q.den).length ≤ k := h.2
theorem QB.add {a b : Rat} {i j : Nat} (ha : QB a i) (hb : QB b j) : QB (a + b) (i + j + 1) := by
  rw [q_add_eq]
  have h := mkRat_le (a.num * b.den + b.num * a.den) (Nat.mul_pos a.den_pos b.den_pos)
  have h1 : (a.num * b.den + b.num * a.den).natAbs ≤ a.num.natAbs * b.den + b.num.natAbs * a.den := by
    refine Nat.le_trans (Int.natAbs_add_le _ _) ?_
    rw [Int.natAbs_mul, Int.natAbs_mul]; simp
  have h2 := limbs_mul ha.1 hb.2
  have h3 := limbs_mul hb.1 ha.2
  rw [Nat.add_comm j i] at h3
  have h4 := limbs_add h2 h3
  have h5 := limbs_mul ha.2 hb.2
  exact ⟨Nat.le_trans (limbs_length_mono (Nat.le_trans h.1 h1)) h4, Nat.le_trans (limbs_length_mono h.2) (by omega)⟩
/-- A fraction's text. -/
def qtext (q : Rat) : List UInt8 := (if decide (q < 0) = true then [45] else []) ++ (str (dec q.num.natAbs) ++ (if q.den = 1 then [] else 47 :: str (dec q.den)))
/-- What a text says: the part ahead of the stroke and the one behind it. -/
def cutNeg (l : List UInt8) : Bool × List UInt8 := if l.head? = some 45 then (true, l.tail) else (false, l)
def cutAt (l : List UInt8) : List UInt8 := l.takeWhile (· != 47)
def cutOn (l : List UInt8) : List UInt8 := if 47 ∈ l then (l.dropWhile (· != 47)).tail else [49]
def qneg (l : List UInt8) : Bool := (cutNeg l).1
def qnum (l : List UInt8) : List UInt8 := cutAt (cutNeg l).2
def qden (l : List UInt8) : List UInt8 := cutOn (cutNeg l).2
/-- The fraction that is made of the parts. -/
def qmade (l : List UInt8) : Rat := qOf (qneg l) (pval (qnum l)) (pval (qden l))
def qcode (l : List UInt8) : Int :=
  if pcode (qnum l) = 3 ∨ pcode (qden l) = 3 then 3 else if pcode (qnum l) ≠ 0 ∨ pcode (qden l) ≠ 0 then 2 else if pval (qden l) = 0 then 3 else if qtext (qmade l) ≠ l then 3 else 0
def qval (l : List UInt8) : Rat := if qcode l = 0 then qmade l else 0
theorem pval_lt {l : List UInt8} {K : Nat} (h : l.length ≤ K) : pval l < 10 ^ K := by
  have h0 : 0 < 10 ^ K := Nat.pow_pos (by decide)
  unfold pval
  split
  · rename_i hok
    split
    · exact h0
    · simp only [numOk, Bool.and_eq_true] at hok
      exact Nat.lt_of_lt_of_le (dnum_lt l hok.1) (Nat.pow_le_pow_right (by decide) h)
  · exact h0
theorem limbs_pow10 {n k : Nat} (h : n < 10 ^ k) : (limbs n).length ≤ k :=
  limbs_length_le (Nat.lt_of_lt_of_le h (Nat.pow_le_pow_left (by decide) _))
theorem cutNeg_le (l : List UInt8) : (cutNeg l).2.length ≤ l.length := by
  unfold cutNeg; split <;> simp
theorem cutAt_le (l : List UInt8) : (cutAt l).length ≤ l.length := (List.takeWhile_sublist _).length_le
theorem cutOn_le (l : List UInt8) : (cutOn l).length ≤ l.length + 1 := by
  unfold cutOn
  split
  · have := (List.dropWhile_sublist (p := (· != 47)) (l := l)).length_le
    simp only [List.length_tail]; omega
  · simp
theorem qnum_le (l : List UInt8) : (qnum l).length ≤ l.length := Nat.le_trans (cutAt_le _) (cutNeg_le l)
theorem qden_le (l : List UInt8) : (qden l).length ≤ l.length + 1 := Nat.le_trans (cutOn_le _) (by have := cutNeg_le l; omega)
theorem qden_max (l : List UInt8) : (qden l).length ≤ max 1 l.length := by
  unfold qden cutOn
  have h1 := cutNeg_le l
  split
  · have := (List.dropWhile_sublist (p := (· != 47)) (l := (cutNeg l).2)).length_le
    simp only [List.length_tail]; omega
  · simp; omega
theorem qval_lt {l : List UInt8} {K : Nat} (h : l.length + 1 ≤ K) : (qval l).num.natAbs < 10 ^ K ∧ (qval l).den < 10 ^ K := by
  have h1 := pval_lt (l := qnum l) (K := K) (by have := qnum_le l; omega)
  have h2 := pval_lt (l := qden l) (K := K) (by have := qden_le l; omega)
  have h9 : 1 < 10 ^ K := Nat.one_lt_pow (by omega) (by decide)
  unfold qval
  split
  · rename_i h0
    have hd : 0 < pval (qden l) := by
      rcases Nat.eq_zero_or_pos (pval (qden l)) with h3 | h3
      · exfalso
        unfold qcode at h0
        rw [if_pos h3] at h0
        split at h0
        · omega
        · split at h0 <;> omega
      · exact h3
    have h4 := qOf_le (qneg l) (pval (qnum l)) hd
    exact ⟨Nat.lt_of_le_of_lt h4.1 h1, Nat.lt_of_le_of_lt h4.2 h2⟩
  · exact ⟨by show 0 < _; omega, h9⟩
theorem QB.val {l : List UInt8} {K : Nat} (h : l.length + 1 ≤ K) : QB (qval l) K :=
  ⟨limbs_pow10 (qval_lt h).1, limbs_pow10 (qval_lt h).2⟩
end Go.Proofs.YtlmjkbdodecbmaaGreatDoor

namespace Go.Proofs.YtlmjkbdodecbmaaGreatDoor
open Go.RowKit
set_option linter.unusedVariables false
set_option linter.unusedSimpArgs false
theorem str_dec_parts {n : Nat} (h : 0 < n) : (str (dec n)).map (fun c => c.toNat - 48) = (dig n).reverse := by
  rw [dec_pos h]
  unfold str
  rw [List.map_map, List.map_map]
  conv => rhs; rw [← List.map_id (dig n).reverse]
  refine List.map_congr_left fun x hx => ?_
  have := dig_lt n x (List.mem_reverse.1 hx)
  simp only [Function.comp_apply, UInt8.toNat_ofNat', id]
  omega
theorem str_dec_digs (n : Nat) : (str (dec n)).all isDig = true := by
  rcases Nat.eq_zero_or_pos n with h | h
  · subst h; decide
  · rw [List.all_eq_true]
    intro c hc
    rw [dec_pos h] at hc
    unfold str at hc
    rw [List.map_map] at hc
    obtain ⟨x, hx, rfl⟩ := List.mem_map.1 hc
    have := dig_lt n x (List.mem_reverse.1 hx)
    rw [isDig_iff]
    simp only [Function.comp_apply, UInt8.toNat_ofNat']
    omega
theorem dnum_dec (n : Nat) : dnum (str (dec n)) = n := by
  rcases Nat.eq_zero_or_pos n with h | h
  · subst h; decide
  · rw [dnum_rev, str_dec_parts h, List.reverse_reverse, dval_dig]
theorem dec_head {n : Nat} (h : 0 < n) : ∃ x t, dec n = (48 + x) :: t ∧ 0 < x ∧ x < 10 := by
  have h1 : dig n ≠ [] := fun h2 => by have := dig_eq_nil.1 h2; omega
  have h2 := dig_getLast n h1
  have h3 := dig_lt n _ (List.getLast_mem h1)
  rw [dec_pos h]
  refine ⟨(dig n).getLast h1, ((dig n).dropLast.reverse).map (48 + ·), ?_, by omega, h3⟩
  have h4 := List.dropLast_concat_getLast h1
  conv => lhs; rw [← h4]
  rw [List.reverse_append]
  rfl
theorem numOk_dec (n : Nat) : numOk (str (dec n)) = true := by
  rcases Nat.eq_zero_or_pos n with h | h
  · subst h; decide
  · obtain ⟨x, t, e, h1, h2⟩ := dec_head h
    have h3 := str_dec_digs n
    unfold numOk
    rw [h3, e]
    have h4 : (UInt8.ofNat (48 + x)) ≠ 48 := by
      intro h5
      have := congrArg UInt8.toNat h5
      simp only [UInt8.toNat_ofNat'] at this
      have h6 : (48 : UInt8).toNat = 48 := by decide
      omega
    have h5 : (UInt8.ofNat (48 + x) != 48) = true := bne_iff_ne.2 h4
    simp only [str, List.map_cons, List.headD_cons, h5]
    simp
theorem pcode_dec {n : Nat} (h : (dec n).length ≤ 1200) : pcode (str (dec n)) = 0 := by
  unfold pcode
  rw [numOk_dec, if_pos rfl, if_neg (by simp [str]; omega)]
theorem pval_dec {n : Nat} (h : (dec n).length ≤ 1200) : pval (str (dec n)) = n := by
  unfold pval
  rw [numOk_dec, if_pos rfl, if_neg (by simp [str]; omega), dnum_dec]
theorem dig_le {n k : Nat} (h : n < 10 ^ k) : (dig n).length ≤ k := by
  induction k generalizing n with
  | zero => have : n = 0 := by simp at h; omega
            subst this; rw [dig_zero]; simp
  | succ k ih =>
    rcases Nat.eq_zero_or_pos n with h0 | h0
    · subst h0; rw [dig_zero]; simp
    · rw [dig_pos h0]
      have : n / 10 < 10 ^ k := by rw [Nat.div_lt_iff_lt_mul (by decide)]; rwa [Nat.pow_succ] at h
      simp only [List.length_cons]
      have := ih this
      omega
theorem dec_le {n k : Nat} (h : n < 10 ^ k) (hk : 0 < k) : (dec n).length ≤ k := by
  unfold dec
  split
  · simp; omega
  · simp only [List.length_map, List.length_reverse]; exact dig_le h
theorem dec_no (n : Nat) (c : UInt8) (hc : isDig c = false) : c ∉ str (dec n) := fun h => by
  have := List.all_eq_true.1 (str_dec_digs n) c h
  rw [hc] at this
  cases this
theorem dec_ne_nil (n : Nat) : str (dec n) ≠ [] := by
  rcases Nat.eq_zero_or_pos n with h | h
  · subst h; decide
  · obtain ⟨x, t, e, h1, h2⟩ := dec_head h
    rw [e]; simp [str]
theorem dec_head_ne (n : Nat) (c : UInt8) (hc : isDig c = false) (t : List UInt8) : (str (dec n) ++ t).head? ≠ some c := by
  have h1 := dec_ne_nil n
  have h2 := dec_no n c hc
  cases h : str (dec n) with
  | nil => exact (h1 h).elim
  | cons x s =>
    rw [h] at h2
    simp only [List.cons_append, List.head?_cons]
    intro h3
    injection h3 with h3
    subst h3
    simp at h2
/-! A fraction's text is read as the fraction. -/
theorem cutNeg_qtext (q : Rat) : cutNeg (qtext q) = (decide (q < 0), str (dec q.num.natAbs) ++ (if q.den = 1 then [] else 47 :: str (dec q.den))) := by
  unfold cutNeg qtext
  by_cases h : q < 0
  · simp only [h, decide_true, if_true]
    simp
  · simp only [h, decide_false]
    rw [if_neg (by simp only [Bool.false_eq_true, if_false, List.nil_append]; exact dec_head_ne _ 45 (by decide) _)]
    simp
theorem takeWhile_stop {α : Type} [BEq α] [LawfulBEq α] (l t : List α) (c : α) (h : c ∉ l) : (l ++ c :: t).takeWhile (· != c) = l ∧ (l ++ c :: t).dropWhile (· != c) = c :: t := by
  induction l with
  | nil => simp
  | cons x l ih =>
    simp only [List.mem_cons, not_or] at h
    have hx : (x != c) = true := by simp; exact fun h2 => h.1 h2.symm
    have := ih h.2
    simp [List.takeWhile_cons, List.dropWhile_cons, hx, this.1, this.2]
theorem takeWhile_all {α : Type} [BEq α] [LawfulBEq α] (l : List α) (c : α) (h : c ∉ l) : l.takeWhile (· != c) = l := by
  induction l with
  | nil => simp
  | cons x l ih =>
    simp only [List.mem_cons, not_or] at h
    have hx : (x != c) = true := by simp; exact fun h2 => h.1 h2.symm
    simp [List.takeWhile_cons, hx, ih h.2]
theorem cut_stroke (n d : Nat) : cutAt (str (dec n) ++ 47 :: str (dec d)) = str (dec n) ∧ cutOn (str (dec n) ++ 47 :: str (dec d)) = str (dec d) := by
  have h := takeWhile_stop (str (dec n)) (str (dec d)) 47 (dec_no n 47 (by decide))
  refine ⟨h.1, ?_⟩
  unfold cutOn
  rw [if_pos (by simp), h.2]
  rfl
theorem cut_whole (n : Nat) : cutAt (str (dec n)) = str (dec n) ∧ cutOn (str (dec n)) = [49] := by
  refine ⟨takeWhile_all _ _ (dec_no n 47 (by decide)), ?_⟩
  unfold cutOn
  rw [if_neg (dec_no n 47 (by decide))]
theorem qtext_parts (q : Rat) : qneg (qtext q) = decide (q < 0) ∧ qnum (qtext q) = str (dec q.num.natAbs) ∧ qden (qtext q) = str (dec q.den) := by
  unfold qneg qnum qden
  rw [cutNeg_qtext]
  refine ⟨rfl, ?_⟩
  by_cases h : q.den = 1
  · simp only [h, if_true, List.append_nil]
    have := cut_whole q.num.natAbs
    rw [this.1, this.2]
    exact ⟨rfl, str_dec_one.symm⟩
  · simp only [h, if_false]
    have := cut_stroke q.num.natAbs q.den
    exact ⟨this.1, this.2⟩
theorem qparse_text (q : Rat) (h1 : (dec q.num.natAbs).length ≤ 1200) (h2 : (dec q.den).length ≤ 1200) : qcode (qtext q) = 0 ∧ qval (qtext q) = q := by
  obtain ⟨e1, e2, e3⟩ := qtext_parts q
  have hm : qmade (qtext q) = q := by
    unfold qmade
    rw [e1, e2, e3, pval_dec h1, pval_dec h2, qOf_self]
  have hc : qcode (qtext q) = 0 := by
    unfold qcode
    rw [hm, e2, e3, pcode_dec h1, pcode_dec h2, pval_dec h2, if_neg (by omega), if_neg (by omega), if_neg (by have := q.den_pos; omega), if_neg (by simp)]
  exact ⟨hc, by unfold qval; rw [hc, if_pos rfl, hm]⟩
theorem qOf_one (s : Bool) (n : Nat) : qOf s n 1 = ((sg s n : Int) : Rat) := by
  rw [qOf_frac _ _ (by omega)]; simp; grind
/-- The nearest whole number, of two the one farther from 0. -/
def qround (q : Rat) : Rat := qOf (decide (q < 0)) ((q.num.natAbs * 2 + q.den) / (q.den * 2)) 1
theorem QB.round {q : Rat} {k : Nat} (h : QB q k) : QB (qround q) (k + 2) := by
  unfold qround
  have h1 : (limbs 2).length ≤ 1 := limbs_bound (by decide) (by omega)
  have h2 : (limbs (q.num.natAbs * 2 + q.den)).length ≤ k + 2 := limbs_add (limbs_mul h.1 h1) (Nat.le_trans h.2 (by omega))
  exact QB.of _ (Nat.le_trans (limbs_length_mono (Nat.div_le_self _ _)) h2) (limbs_bound (by decide) (by omega)) (by decide)
end Go.Proofs.YtlmjkbdodecbmaaGreatDoor

namespace Go.Proofs.YtlmjkbdodecbmaaGreatDoor
open Go.RowKit
set_option linter.unusedVariables false
set_option linter.unusedSimpArgs false
/-! How often a number is divided. -/
def cnt (b n : Nat) : Nat := if h : 1 < b ∧ 0 < n ∧ n % b = 0 then cnt b (n / b) + 1 else 0
termination_by n
decreasing_by exact Nat.div_lt_self h.2.1 h.1
def crest (b n : Nat) : Nat := if h : 1 < b ∧ 0 < n ∧ n % b = 0 then crest b (n / b) else n
termination_by n
decreasing_by exact Nat.div_lt_self h.2.1 h.1
/-! The places of a fraction. -/
def left25 (q : Rat) : Nat := crest 5 (crest 2 q.den)
def fin (q : Rat) : Bool := decide (left25 q = 1)
def places (q : Rat) : Nat := max (cnt 2 q.den) (cnt 5 (crest 2 q.den))
theorem den_pos (q : Rat) : 0 < q.den := q.den_pos
end Go.Proofs.YtlmjkbdodecbmaaGreatDoor

namespace Go.Proofs.YtlmjkbdodecbmaaGreatDoor
open Go.RowKit
set_option linter.unusedVariables false
set_option linter.unusedSimpArgs false
/-- A fraction whose text is not too long. -/
def LOk (q : Rat) : Prop := QB q 1300 ∧ places q ≤ 1200 ∧ (dec q.num.natAbs).length ≤ 1200 ∧ (dec q.den).length ≤ 1200
theorem LOk.of {q : Rat} {K : Nat} (h1 : q.num.natAbs < 10 ^ K) (h2 : q.den < 10 ^ K) (hK : K ≤ 1200) (hK0 : 0 < K) (hp : places q ≤ 1200) : LOk q :=
  ⟨⟨Nat.le_trans (limbs_pow10 h1) (Nat.le_trans hK (by decide)), Nat.le_trans (limbs_pow10 h2) (Nat.le_trans hK (by decide))⟩, hp, Nat.le_trans (dec_le h1 hK0) hK, Nat.le_trans (dec_le h2 hK0) hK⟩
end Go.Proofs.YtlmjkbdodecbmaaGreatDoor

namespace Go.Proofs.YtlmjkbdodecbmaaGreatDoor
open Go.RowKit
set_option linter.unusedVariables false
set_option linter.unusedSimpArgs false
/-- A value: its kind, its number's text, its category. -/
abbrev valV (k : Int) (n c : List UInt8) : Value := .agg #[.int .i64 k, .string ⟨n.toArray⟩, .string ⟨c.toArray⟩]
structure V3 where
  k : Int
  n : List UInt8
  c : List UInt8
def vnum (k : Int) (n c : List UInt8) : Bool := decide (k = 1) && (decide (c = []) && decide (qcode n = 0))
def vvalid (k : Int) (n c : List UInt8) : Bool := if k = 0 then decide (n = []) && decide (c = []) else if k = 2 then decide (n = []) && decide (c.length ≤ 60) else vnum k n c
end Go.Proofs.YtlmjkbdodecbmaaGreatDoor

namespace Go.Proofs.YtlmjkbdodecbmaaGreatDoor
open Go.RowKit
set_option linter.unusedVariables false
set_option linter.unusedSimpArgs false
/-- A field: its name, kind, declared values, what stands in a missing one's place, what is done with others. -/
structure F5 where
  nm : List UInt8
  k : Int
  vals : List (List UInt8)
  r : V3
  inv : Int
def v0 : V3 := ⟨0, [], []⟩
end Go.Proofs.YtlmjkbdodecbmaaGreatDoor
