/-
  Pe01: BitsN NatN2 NatN3 NatN5 RefN ComN MathQ MathR MathS MathD MathE MathV MathW PrepM HeapQ SeqA (what is needed of them).
-/
import Derived.Test.YtlmjkbdodecbmaaDoorPe00
import Derived.Shelf.Small.Bits
import Derived.Test.YtlmjkbdodecbmaaDoorProg
import Derived.Deep.LoopGhost
import Derived.Deep.DeepCutAuto
import Derived.Deep.RegionHeld3
import Derived.BigQuiet
import Derived.Laws.AppendOwnNone
import Derived.WalkKit

namespace Go.Proofs
open Go.Shelf
def Tryd.lays128_ren : Go.Shelf.Ren := ⟨fun | 128 => 144 | n => n, fun | 51 => 158 | 3 => 3 | 4 => 4 | 46 => 169 | 5 => 5 | 9 => 9 | n => n, fun | n => n⟩
theorem Tryd.lays128 : Go.Proofs.Lays.n128 Tryd.prog Tryd.lays128_ren := {
  mixed := by kernel_rfl
  f128 := Tryd.func144.trans (congrArg some (by kernel_rfl))
  t3 := Tryd.underlying3
  a3 := Tryd.isAgg3
  z3 := Tryd.sizeOf3
  v3 := Tryd.zeroValue3
  t4 := Tryd.underlying4
  a4 := Tryd.isAgg4
  z4 := Tryd.sizeOf4
  v4 := Tryd.zeroValue4
  t5 := Tryd.underlying5
  a5 := Tryd.isAgg5
  z5 := Tryd.sizeOf5
  v5 := Tryd.zeroValue5
  t9 := Tryd.underlying9
  a9 := Tryd.isAgg9
  z9 := Tryd.sizeOf9
  v9 := Tryd.zeroValue9
  t46 := Tryd.underlying169
  a46 := Tryd.isAgg169
  z46 := Tryd.sizeOf169
  v46 := Tryd.zeroValue169
  t51 := Tryd.underlying158
  a51 := Tryd.isAgg158
  z51 := Tryd.sizeOf158
  v51 := Tryd.zeroValue158 }
theorem Tryd.bits_Len32 (x : Int) (w : World) (h0 : 0 ≤ x) (h1 : x ≤ 4294967295) :
    Calls Tryd.prog 144 #[.int .u32 x] w fun e w' => e = .returned (.int .i64 (Lib.bitLen x.toNat)) ∧ w' = w := Any.bits_Len32 Tryd.lays128 x w h0 h1
end Go.Proofs
namespace Go.Proofs
open Go.Shelf
def Tryd.lays125_ren : Go.Shelf.Ren := ⟨fun | 125 => 135 | 128 => 144 | 129 => 145 | n => n, fun | 46 => 169 | 3 => 3 | 51 => 158 | 53 => 147 | 4 => 4 | 5 => 5 | 9 => 9 | n => n, fun | n => n⟩
theorem Tryd.lays125 : Go.Proofs.Lays.n125 Tryd.prog Tryd.lays125_ren := {
  mixed := by kernel_rfl
  f125 := Tryd.func135.trans (congrArg some (by kernel_rfl))
  f128 := Tryd.func144.trans (congrArg some (by kernel_rfl))
  f129 := Tryd.func145.trans (congrArg some (by kernel_rfl))
  t3 := Tryd.underlying3
  a3 := Tryd.isAgg3
  z3 := Tryd.sizeOf3
  v3 := Tryd.zeroValue3
  t4 := Tryd.underlying4
  a4 := Tryd.isAgg4
  z4 := Tryd.sizeOf4
  v4 := Tryd.zeroValue4
  t5 := Tryd.underlying5
  a5 := Tryd.isAgg5
  z5 := Tryd.sizeOf5
  v5 := Tryd.zeroValue5
  t9 := Tryd.underlying9
  a9 := Tryd.isAgg9
  z9 := Tryd.sizeOf9
  v9 := Tryd.zeroValue9
  t46 := Tryd.underlying169
  a46 := Tryd.isAgg169
  z46 := Tryd.sizeOf169
  v46 := Tryd.zeroValue169
  t51 := Tryd.underlying158
  a51 := Tryd.isAgg158
  z51 := Tryd.sizeOf158
  v51 := Tryd.zeroValue158
  t53 := Tryd.underlying147
  a53 := Tryd.isAgg147
  z53 := Tryd.sizeOf147
  v53 := Tryd.zeroValue147 }
theorem Tryd.bits_Len (x : Int) (w : World) (h0 : 0 ≤ x) (h1 : x ≤ 18446744073709551615) :
    Calls Tryd.prog 135 #[.int .u64 x] w fun e w' => e = .returned (.int .i64 (Lib.bitLen x.toNat)) ∧ w' = w := Any.bits_Len Tryd.lays125 x w h0 h1
end Go.Proofs
namespace Go.Proofs
open Go.Shelf
def Tryd.lays133_ren : Go.Shelf.Ren := ⟨fun | 133 => 148 | 128 => 144 | n => n, fun | 51 => 158 | 3 => 3 | 4 => 4 | 46 => 169 | 5 => 5 | 9 => 9 | n => n, fun | n => n⟩
theorem Tryd.lays133 : Go.Proofs.Lays.n133 Tryd.prog Tryd.lays133_ren := {
  mixed := by kernel_rfl
  f128 := Tryd.func144.trans (congrArg some (by kernel_rfl))
  f133 := Tryd.func148.trans (congrArg some (by kernel_rfl))
  t3 := Tryd.underlying3
  a3 := Tryd.isAgg3
  z3 := Tryd.sizeOf3
  v3 := Tryd.zeroValue3
  t4 := Tryd.underlying4
  a4 := Tryd.isAgg4
  z4 := Tryd.sizeOf4
  v4 := Tryd.zeroValue4
  t5 := Tryd.underlying5
  a5 := Tryd.isAgg5
  z5 := Tryd.sizeOf5
  v5 := Tryd.zeroValue5
  t9 := Tryd.underlying9
  a9 := Tryd.isAgg9
  z9 := Tryd.sizeOf9
  v9 := Tryd.zeroValue9
  t46 := Tryd.underlying169
  a46 := Tryd.isAgg169
  z46 := Tryd.sizeOf169
  v46 := Tryd.zeroValue169
  t51 := Tryd.underlying158
  a51 := Tryd.isAgg158
  z51 := Tryd.sizeOf158
  v51 := Tryd.zeroValue158 }
theorem Tryd.bits_LeadingZeros32 (x : Int) (w : World) (h0 : 0 ≤ x) (h1 : x ≤ 4294967295) :
    Calls Tryd.prog 148 #[.int .u32 x] w fun e w' => e = .returned (.int .i64 (32 - (Lib.bitLen x.toNat : Int))) ∧ w' = w := Any.bits_LeadingZeros32 Tryd.lays133 x w h0 h1
end Go.Proofs

namespace Go.Proofs.YtlmjkbdodecbmaaDoor
open Go.RowKit
set_option linter.unusedVariables false
set_option linter.unusedSimpArgs false
attribute [local go_sem] and_low field_nat
end Go.Proofs.YtlmjkbdodecbmaaDoor
namespace Go.Proofs.YtlmjkbdodecbmaaDoor
open Go.RowKit
set_option linter.unusedVariables false
set_option linter.unusedSimpArgs false
attribute [local go_sem] and_low field_nat
end Go.Proofs.YtlmjkbdodecbmaaDoor
namespace Go.Proofs.YtlmjkbdodecbmaaDoor
open Go.RowKit
set_option linter.unusedVariables false
set_option linter.unusedSimpArgs false
attribute [local go_sem] and_low field_nat
theorem and_one (x : Int) : bits .and .u64 x 1 = x % 2 := by
  obtain ⟨a, ha⟩ := Int.eq_ofNat_of_zero_le (Int.emod_nonneg x (show (18446744073709551616 : Int) ≠ 0 by decide))
  have hlt : a < 18446744073709551616 := by omega
  have e : BitVec.ofInt 64 x = BitVec.ofInt 64 (a : Int) := by
    apply BitVec.eq_of_toInt_eq
    simp only [BitVec.toInt_ofInt, Int.bmod_def]
    omega
  have e1 : bits .and .u64 x 1 = bits .and .u64 (a : Int) 1 := by
    simp only [bits, IntKind.bits] at *
    rw [e]
  have e2 : bits .and .u64 (a : Int) 1 = (a : Int) % 2 := bits_mask .u64 64 (by decide) (fun n h0 h1 => by rw [IntKind.wrap_u64]; omega) 1 (by decide) a (by omega) (by omega)
  rw [e1, e2]
  omega
attribute [local go_sem] and_one
end Go.Proofs.YtlmjkbdodecbmaaDoor
namespace Go.Proofs.YtlmjkbdodecbmaaDoor
open Go.RowKit
set_option linter.unusedVariables false
set_option linter.unusedSimpArgs false
attribute [local go_sem] and_low field_nat
end Go.Proofs.YtlmjkbdodecbmaaDoor
namespace Go.Proofs.YtlmjkbdodecbmaaDoor
open Go.RowKit
set_option linter.unusedVariables false
set_option linter.unusedSimpArgs false
attribute [local go_sem] and_low field_nat
def pcode (l : List UInt8) : Int := if numOk l then (if 1200 < l.length then 2 else 0) else 3
def pval (l : List UInt8) : Nat := if numOk l then (if 1200 < l.length then 0 else dnum l) else 0
end Go.Proofs.YtlmjkbdodecbmaaDoor

namespace Go.Proofs.YtlmjkbdodecbmaaDoor
open Go.RowKit
set_option linter.unusedVariables false
set_option linter.unusedSimpArgs false
/-- A number of the document's in memory. -/
def RIs (w : World) (v : Value) (n : Nat) : Prop := Ints .i64 w v (rlimbs n)
theorem RIs.below {w w' : World} {v : Value} {n : Nat} (h : RIs w v n) (hb : Below w.heap.size w w') : RIs w' v n := Ints.below h hb
theorem RIs.open {w : World} {v : Value} {n : Nat} (h : RIs w v n) : ∃ ao cap, v = .slice ao (rlimbs n).length cap ∧ (rlimbs n).length ≤ cap ∧ cap ≤ 9223372036854775807 ∧ (ao = none → cap = 0) ∧ Cells .i64 w ao (rlimbs n) := h
theorem RIs.nil (w : World) : RIs w (.slice none 0 0) 0 := ⟨none, 0, by rw [rlimbs_zero]; rfl, by rw [rlimbs_zero]; simp, Nat.zero_le _, fun _ => rfl, .inl rlimbs_zero⟩
end Go.Proofs.YtlmjkbdodecbmaaDoor
namespace Go.Proofs.YtlmjkbdodecbmaaDoor
open Go.RowKit
set_option linter.unusedVariables false
set_option linter.unusedSimpArgs false
theorem Tryd.info3 : (Tryd.prog.info? 3).map (fun i => (i.zero, i.size, i.bytes)) = some (some (.int .i64 0), 1, 8) := by kernel_rfl
theorem RAdd.over {xs ys zs : List Nat} {k c : Nat} (h : RAdd xs ys k c zs) (hx : ∀ x ∈ xs, x < 10000) (hy : ∀ y ∈ ys, y < 10000) (h1 : xs.length < k) (h2 : ys.length < k) : c = 0 := by
  have he := h.eq
  rw [List.take_of_length_le (l := xs) (by omega), List.take_of_length_le (l := ys) (by omega)] at he
  have a1 := rval_lt xs hx
  have a2 := rval_lt ys hy
  obtain ⟨j, rfl⟩ : ∃ j, k = j + 1 := ⟨k - 1, by omega⟩
  have a3 : (10000 : Nat) ^ xs.length ≤ 10000 ^ j := Nat.pow_le_pow_right (by decide) (by omega)
  have a4 : (10000 : Nat) ^ ys.length ≤ 10000 ^ j := Nat.pow_le_pow_right (by decide) (by omega)
  rw [Nat.pow_succ, Nat.mul_assoc] at he
  rcases Nat.eq_zero_or_pos c with h0 | h0
  · exact h0
  · exfalso
    have a5 : 10000 ^ j * 2 ≤ 10000 ^ j * (10000 * c) := Nat.mul_le_mul_left _ (by omega)
    generalize 10000 ^ j * (10000 * c) = R at *
    omega
end Go.Proofs.YtlmjkbdodecbmaaDoor
namespace Go.Proofs.YtlmjkbdodecbmaaDoor
open Go.RowKit
set_option linter.unusedVariables false
set_option linter.unusedSimpArgs false
end Go.Proofs.YtlmjkbdodecbmaaDoor
namespace Go.Proofs.YtlmjkbdodecbmaaDoor
open Go.RowKit
set_option linter.unusedVariables false
set_option linter.unusedSimpArgs false
end Go.Proofs.YtlmjkbdodecbmaaDoor
namespace Go.Proofs.YtlmjkbdodecbmaaDoor
open Go.RowKit
set_option linter.unusedVariables false
set_option linter.unusedSimpArgs false
/-- The text of the digits so far. -/
def TX (T : List UInt8) (ds : List Nat) (k : Nat) : Prop := T = str (ds.reverse.map (48 + ·)) ∧ ds.length = k
theorem TX.len {T : List UInt8} {ds : List Nat} {k : Nat} (h : TX T ds k) : T.length = k := by rw [h.1, ← h.2]; simp [str]
theorem TX.snoc {T : List UInt8} {ds : List Nat} {k : Nat} (h : TX T ds k) (d : Nat) : TX (str [48 + d] ++ T) (ds ++ [d]) (k + 1) := by
  refine ⟨?_, by simp [h.2]⟩
  rw [h.1]; simp [str]
/-- How the digits of limb i stand at digit k. -/
structure RT (n : Nat) (i k v : Nat) (ds : List Nat) : Prop where
  txt : RTxt n ds (v + 10 ^ (4 - k) * rval ((rlimbs n).drop (i + 1)))
  small : v < 10 ^ (4 - k)
  last : i + 1 = (rlimbs n).length → 0 < v ∨ ∀ hd : ds ≠ [], ds.getLast hd ≠ 0
theorem RT.row {n i k v : Nat} {ds : List Nat} (h : RT n i k v ds) (hi : i < (rlimbs n).length) (hend : k = 4 ∨ (i + 1 = (rlimbs n).length ∧ v = 0)) (hk : k ≤ 4) : RTxt n ds (rval ((rlimbs n).drop (i + 1))) ∧ (i + 1 = (rlimbs n).length → ∀ hd : ds ≠ [], ds.getLast hd ≠ 0) := by
  have h1 := h.txt
  have h2 := h.small
  have hv : v = 0 := by
    rcases hend with h3 | h3
    · rw [h3] at h2; simpa using h2
    · exact h3.2
  subst hv
  refine ⟨?_, fun hl => ?_⟩
  · rw [Nat.zero_add] at h1
    rcases hend with h3 | h3
    · rw [h3] at h1; simpa using h1
    · have : rval ((rlimbs n).drop (i + 1)) = 0 := by rw [List.drop_of_length_le (by omega)]; rfl
      rw [this] at h1 ⊢
      simpa using h1
  · rcases h.last hl with h3 | h3
    · omega
    · exact h3
theorem RT.done {n : Nat} {ds : List Nat} (h : RTxt n ds (rval ((rlimbs n).drop (rlimbs n).length))) (hn : 0 < n) (ht : ∀ hd : ds ≠ [], ds.getLast hd ≠ 0) : ds.reverse.map (48 + ·) = dec n := by
  rw [List.drop_length] at h
  exact h.done hn ht
end Go.Proofs.YtlmjkbdodecbmaaDoor
namespace Go.Proofs.YtlmjkbdodecbmaaDoor
open Go.RowKit
set_option linter.unusedVariables false
set_option linter.unusedSimpArgs false
/-- The places from e on are told: groups of four digits. -/
structure PG (l : List UInt8) (e : Nat) (ds : List Nat) : Prop where
  lt : ∀ d ∈ ds, d < 10000
  eq : dnum l = dnum (l.take e) * 10000 ^ ds.length + rval ds
theorem PG.done {l : List UInt8} {ds : List Nat} (h : PG l 0 ds) : rval ds = dnum l := by
  have := h.eq
  simp [dnum] at this
  simpa [dnum] using this.symm
def RPost (w : World) (l : List UInt8) (e : Ending) (w' : World) : Prop := ∃ r, e = .returned (.tuple #[r, .int .i64 (pcode l)]) ∧ RIs w' r (pval l) ∧ Below w.heap.size w w'
theorem RPost.good {w W : World} {l : List UInt8} {r : Value} (h : numOk l = true) (hl : ¬ 1200 < l.length) (hr : RIs W r (dnum l)) (hb : Below w.heap.size w W) : RPost w l (.returned (.tuple #[r, .int .i64 0])) W :=
  ⟨_, by unfold pcode; rw [h, if_pos rfl, if_neg hl], by unfold pval; rw [h, if_pos rfl, if_neg hl]; exact hr, hb⟩
end Go.Proofs.YtlmjkbdodecbmaaDoor
namespace Go.Proofs.YtlmjkbdodecbmaaDoor
open Go.RowKit
set_option linter.unusedVariables false
set_option linter.unusedSimpArgs false
end Go.Proofs.YtlmjkbdodecbmaaDoor

namespace Go.Proofs.YtlmjkbdodecbmaaDoor
open Go.RowKit Go.Shelf
set_option linter.unusedVariables false
set_option linter.unusedSimpArgs false
attribute [local go_sem] Oper.semAt_some
attribute [local go_sem] field_nat
/-- Numbers lie on. -/
def KeepNat (W W' : World) : Prop := ∀ v n, NatIs W v n → NatIs W' v n
theorem KeepNat.trans {A C D : World} (h : KeepNat A C) (h' : KeepNat C D) : KeepNat A D := fun v n hn => h' v n (h v n hn)
/-- All cells that hold limbs hold them still. -/
theorem KeepNat.of_cells {A C : World} (hs : A.heap.size ≤ C.heap.size) (h : ∀ p n, A.cell? p = some (.int .u32 n) → C.cell? p = some (.int .u32 n)) : KeepNat A C := by
  rintro v n ⟨sv, rfl, ao, cap, h1, h2, h3, h4, h5⟩
  refine ⟨sv, rfl, ao, cap, h1, h2, h3, h4, ?_⟩
  rcases h5 with h5 | ⟨b, off, h6, h7, h8⟩
  · exact .inl h5
  · refine .inr ⟨b, off, h6, Nat.lt_of_lt_of_le h7 hs, fun i hi => ?_⟩
    exact h _ _ (h8 i hi)
theorem KeepNat.below {A C : World} (h : Below A.heap.size A C) : KeepNat A C := fun v n hn => hn.below h
theorem Ext.block {B : Nat} {A C : World} (h : Ext B A C) {p : Addr} {v : Value} (hp : A.cell? p = some v) : C.heap[p.block]? = A.heap[p.block]? := by
  unfold World.cell? at hp
  split at hp
  · rename_i hb
    rw [hb]; exact h.cells _ _ hb rfl
  · cases hp
theorem Ext.cell {B : Nat} {A C : World} (h : Ext B A C) {p : Addr} {v : Value} (hp : A.cell? p = some v) : C.cell? p = some v :=
  (World.cell?_of_block (h.block hp)).trans hp
theorem KeepNat.ext {B : Nat} {A C : World} (h : Ext B A C) : KeepNat A C := KeepNat.of_cells h.size fun p n hp => h.cell hp
theorem Box.ext {B : Nat} {A C : World} {b : Nat} {v : Value} (hx : Box A b v) (h : Ext B A C) : Box C b v :=
  ⟨h.cell hx.cell, (World.frozen?_of_block (h.block hx.cell)).trans hx.free, Nat.lt_of_lt_of_le hx.lt h.size⟩
theorem Owns.ext {B base : Nat} {e : TypeId} {w w' : World} {v : Value} {xs : List Value} (h : Owns base e w v xs) (hx : Ext B w w') : Owns base e w' v xs := by
  refine ⟨h.1, ?_⟩
  rcases h.2 with h1 | ⟨g, cap, cur, rfl, h2, h3, h4⟩
  · exact .inl h1
  · exact .inr ⟨g, cap, cur, rfl, h2, hx.cells _ _ h3 rfl, h4⟩
theorem Iter.mono {α : Type} {P : Program} {gf : Nat} {lb : Array Value} {Enc : World → Value → α → Prop} {xs : List α} {B : Nat} {Kp : World → World → Prop} {w w' : World} (h : Iter P gf lb Enc xs B Kp w) (hb : Below w.heap.size w w') :
    Iter P gf lb Enc xs B Kp w' := fun l J Jx S0 W1 hW => h l J Jx S0 W1 (hb.trans (hW.mono hb.size))
theorem RowAll.block {p : Value → Prop} {W W' : World} {v : Value} (h : RowAll p W v) (hb : ∀ g, v.ownBlock = some g → W'.heap[g]? = W.heap[g]?) : RowAll p W' v :=
  fun g hg j c hc => h g hg j c ((World.cell?_of_block (a := ⟨g, j, none⟩) (hb g hg)).symm.trans hc)
theorem Owns.at_cells {base : Nat} {e : TypeId} {w : World} {v : Value} {xs : List Value} (h : Owns base e w v xs) : ∀ g, v.ownBlock = some g → base ≤ g ∧ g < w.heap.size ∧ ∃ o : Obj, w.heap[g]? = some o ∧ o.isCells = true := by
  intro g hg
  rcases h.2 with ⟨rfl, _⟩ | ⟨g', cap, cur, rfl, h2, h3, h4⟩
  · simp [Value.ownBlock] at hg
  · simp [Value.ownBlock] at hg
    subst hg
    exact ⟨h2, (Array.getElem?_eq_some_iff.1 h3).1, _, h3, rfl⟩
theorem RowAll.ext {p : Value → Prop} {B base : Nat} {e : TypeId} {W W' : World} {v : Value} {xs : List Value} (h : RowAll p W v) (hx : Ext B W W') (hO : Owns base e W v xs) : RowAll p W' v :=
  h.block fun g hg => by obtain ⟨_, _, o, h1, h2⟩ := hO.at_cells g hg; rw [h1]; exact hx.cells _ _ h1 h2
theorem RowAll.below {p : Value → Prop} {base : Nat} {e : TypeId} {W W' : World} {v : Value} {xs : List Value} (h : RowAll p W v) (hb : Below W.heap.size W W') (hO : Owns base e W v xs) : RowAll p W' v := h.ext (B := 0) (Ext.of_below hb) hO
theorem limbs_mul {a b m n : Nat} (ha : (limbs a).length ≤ m) (hb : (limbs b).length ≤ n) : (limbs (a * b)).length ≤ m + n := by
  have h1 := lt_pow_limbs a
  have h2 := lt_pow_limbs b
  refine Nat.le_trans (limbs_length_le (k := (limbs a).length + (limbs b).length) ?_) (by omega)
  rw [Nat.pow_add]
  rcases Nat.eq_zero_or_pos b with h0 | h0
  · subst h0; rw [Nat.mul_zero]; exact Nat.mul_pos (Nat.pow_pos (by decide)) (Nat.pow_pos (by decide))
  · exact Nat.lt_of_lt_of_le (Nat.mul_lt_mul_of_pos_right h1 h0) (Nat.mul_le_mul_left _ (Nat.le_of_lt h2))
theorem limbs_add {a b m : Nat} (ha : (limbs a).length ≤ m) (hb : (limbs b).length ≤ m) : (limbs (a + b)).length ≤ m + 1 := by
  have h1 : a < 4294967296 ^ m := Nat.lt_of_lt_of_le (lt_pow_limbs a) (Nat.pow_le_pow_right (by decide) ha)
  have h2 : b < 4294967296 ^ m := Nat.lt_of_lt_of_le (lt_pow_limbs b) (Nat.pow_le_pow_right (by decide) hb)
  refine limbs_length_le ?_
  rw [Nat.pow_succ]
  omega
theorem NatIs.alloc {w : World} {v : Value} {n : Nat} (h : NatIs w v n) (o : Obj) : NatIs (w.alloc o) v n := h.below ((Below.refl _ _).alloc (Nat.le_refl _) _)
/-- All cells that hold integers hold them still. -/
structure KeepI (W W' : World) : Prop where
  size : W.heap.size ≤ W'.heap.size
  cell : ∀ k p n, W.cell? p = some (.int k n) → W'.cell? p = some (.int k n)
theorem KeepI.trans {A C D : World} (h : KeepI A C) (h' : KeepI C D) : KeepI A D := ⟨Nat.le_trans h.size h'.size, fun k p n hp => h'.cell k p n (h.cell k p n hp)⟩
theorem KeepI.below {A C : World} (h : Below A.heap.size A C) : KeepI A C := ⟨h.size, fun k p n hp => (h.cell (p := p) (World.block_lt_of_cell? A p hp)).trans hp⟩
/-- Cells that read, each, as one of these numbers. -/
def ListAt (R : World → Value → Nat → Prop) (W : World) (svs : List Value) (ns : List Nat) : Prop := svs.length = ns.length ∧ ∀ (i : Nat) (sv : Value), svs[i]? = some sv → R W sv (ns[i]?.getD 0)
theorem ListAt.nil (R : World → Value → Nat → Prop) (W : World) : ListAt R W [] [] := ⟨rfl, fun i sv h => by simp at h⟩
theorem ListAt.keep {R : World → Value → Nat → Prop} {W W' : World} {svs : List Value} {ns : List Nat} (h : ListAt R W svs ns) (hk : ∀ v n, R W v n → R W' v n) : ListAt R W' svs ns :=
  ⟨h.1, fun i sv hi => hk _ _ (h.2 i sv hi)⟩
theorem ListAt.snoc {R : World → Value → Nat → Prop} {W : World} {svs : List Value} {ns : List Nat} {sv : Value} {n : Nat} (h : ListAt R W svs ns) (hn : R W sv n) : ListAt R W (svs ++ [sv]) (ns ++ [n]) := by
  refine ⟨by simp [h.1], fun i u hi => ?_⟩
  by_cases hlt : i < svs.length
  · rw [List.getElem?_append_left hlt] at hi
    rw [List.getElem?_append_left (by rw [← h.1]; exact hlt)]
    exact h.2 i u hi
  · have hie : i = svs.length := by
      have := (List.getElem?_eq_some_iff.1 hi).1
      simp at this; omega
    subst hie
    simp at hi
    subst hi
    rw [h.1]; simpa using hn
/-- A list of strings in memory. -/
def Strs (w : World) (v : Value) (ls : List (List UInt8)) : Prop :=
  ∃ ao cap, v = .slice ao ls.length cap ∧ ls.length ≤ cap ∧ cap ≤ maxLen ∧ (ls = [] ∨ ∃ b off, ao = some ⟨b, off, none⟩ ∧ b < w.heap.size ∧ ∀ i, i < ls.length → w.cell? ⟨b, off + i, none⟩ = some (.string ⟨(ls[i]?.getD []).toArray⟩))
theorem Strs.below {w w' : World} {v : Value} {ls : List (List UInt8)} (h : Strs w v ls) (hb : Below w.heap.size w w') : Strs w' v ls := by
  obtain ⟨ao, cap, h1, h2, h3, h4⟩ := h
  refine ⟨ao, cap, h1, h2, h3, ?_⟩
  rcases h4 with h4 | ⟨b, off, h5, h6, h7⟩
  · exact .inl h4
  · exact .inr ⟨b, off, h5, Nat.lt_of_lt_of_le h6 hb.size, fun i hi => (hb.cell (p := ⟨b, off + i, none⟩) h6).trans (h7 i hi)⟩
end Go.Proofs.YtlmjkbdodecbmaaDoor

namespace Go.Proofs.YtlmjkbdodecbmaaDoor
set_option linter.unusedVariables false
set_option linter.unusedSimpArgs false
/-- A number with its sign. -/
def sg (neg : Bool) (n : Nat) : Int := if neg then -(n : Int) else n
theorem sg_natAbs (neg : Bool) (n : Nat) : (sg neg n).natAbs = n := by cases neg <;> simp [sg]
/-- The fraction of a sign and two numbers. -/
def qOf (neg : Bool) (n d : Nat) : Rat := mkRat (sg neg n) d
/-! What is reckoned of signs, numerators and denominators is what is reckoned of the fractions. -/
theorem qOf_frac (neg : Bool) (n : Nat) {d : Nat} (hd : 0 < d) : qOf neg n d = (sg neg n : Rat) / (d : Rat) := by
  unfold qOf
  rw [Rat.mkRat_eq_div]
theorem q_add_eq (a b : Rat) : a + b = mkRat (a.num * b.den + b.num * a.den) (a.den * b.den) := by
  rw [Rat.add_def, Rat.mkRat_def, dif_neg (Nat.ne_of_gt (Nat.mul_pos a.den_pos b.den_pos))]
theorem qneg_num (a : Rat) : (-a).num.natAbs = a.num.natAbs ∧ (-a).den = a.den := by
  simp
end Go.Proofs.YtlmjkbdodecbmaaDoor

namespace Go.Proofs.YtlmjkbdodecbmaaDoor
open Go.RowKit
set_option linter.unusedVariables false
set_option linter.unusedSimpArgs false
/-- Sizes: numerator and denominator have at most k limbs. -/
def QB (q : Rat) (k : Nat) : Prop := (limbs q.num.natAbs).length ≤ k ∧ (limbs q.den).length ≤ k
theorem QB.mono {q : Rat} {k m : Nat} (h : QB q k) (hk : k ≤ m) : QB q m := ⟨Nat.le_trans h.1 hk, Nat.le_trans h.2 hk⟩
theorem QB.neg {q : Rat} {k : Nat} (h : QB q k) : QB (-q) k := by
  unfold QB; rw [(qneg_num q).1, (qneg_num q).2]; exact h
theorem mkRat_le (z : Int) {d : Nat} (hd : 0 < d) : (mkRat z d).num.natAbs ≤ z.natAbs ∧ (mkRat z d).den ≤ d := by
  have hd' : d ≠ 0 := by omega
  rw [Rat.mkRat_def, dif_neg hd', Rat.normalize_eq]
  refine ⟨?_, Nat.div_le_self _ _⟩
  show (z / ((Nat.gcd z.natAbs d : Nat) : Int)).natAbs ≤ z.natAbs
  rw [Int.natAbs_ediv_of_dvd (Int.ofNat_dvd_left.2 (Nat.gcd_dvd_left _ _))]
  exact Nat.div_le_self _ _
theorem qOf_le (neg : Bool) (n : Nat) {d : Nat} (hd : 0 < d) : (qOf neg n d).num.natAbs ≤ n ∧ (qOf neg n d).den ≤ d := by
  have h := mkRat_le (sg neg n) hd
  rw [sg_natAbs] at h
  exact h
theorem QB.of {n d k : Nat} (neg : Bool) (hn : (limbs n).length ≤ k) (hd : (limbs d).length ≤ k) (h0 : 0 < d) : QB (qOf neg n d) k := by
  have h := qOf_le neg n h0
  exact ⟨Nat.le_trans (limbs_length_mono h.1) hn, Nat.le_trans (limbs_length_mono h.2) hd⟩
theorem limbs_bound {n k : Nat} (h : n < 4294967296) (hk : 1 ≤ k) : (limbs n).length ≤ k := Nat.le_trans (limbs_length_le (k := 1) (by omega)) hk
theorem QB.zero (k : Nat) (hk : 1 ≤ k) : QB 0 k := ⟨limbs_bound (by decide) hk, limbs_bound (by decide) hk⟩
theorem QB.num {q : Rat} {k : Nat} (h : QB q k) : (limbs q.num.natAbs).length ≤ k := h.1
theorem QB.den {q : Rat} {k : Nat} (h : QB q k) : (limbs q.den).length ≤ k := h.2
theorem QB.add {a b : Rat} {i j : Nat} (ha : QB a i) (hb : QB b j) : QB (a + b) (i + j + 1) := by
  rw [q_add_eq]
  have h := mkRat_le (a.num * b.den + b.num * a.den) (Nat.mul_pos a.den_pos b.den_pos)
  have h1 : (a.num * b.den + b.num * a.den).natAbs ≤ a.num.natAbs * b.den + b.num.natAbs * a.den := by
    refine Nat.le_trans (Int.natAbs_add_le _ _) ?_
    rw [Int.natAbs_mul, Int.natAbs_mul]; simp
  have h2 := limbs_mul ha.1 hb.2
  have h3 := limbs_mul hb.1 ha.2
  rw [Nat.add_comm j i] at h3
  have h4 := limbs_add h2 h3
  have h5 := limbs_mul ha.2 hb.2
  exact ⟨Nat.le_trans (limbs_length_mono (Nat.le_trans h.1 h1)) h4, Nat.le_trans (limbs_length_mono h.2) (by omega)⟩
/-- A fraction's text. -/
def qtext (q : Rat) : List UInt8 := (if decide (q < 0) = true then [45] else []) ++ (str (dec q.num.natAbs) ++ (if q.den = 1 then [] else 47 :: str (dec q.den)))
/-- What a text says: the part ahead of the stroke and the one behind it. -/
def cutNeg (l : List UInt8) : Bool × List UInt8 := if l.head? = some 45 then (true, l.tail) else (false, l)
def cutAt (l : List UInt8) : List UInt8 := l.takeWhile (· != 47)
def cutOn (l : List UInt8) : List UInt8 := if 47 ∈ l then (l.dropWhile (· != 47)).tail else [49]
def qneg (l : List UInt8) : Bool := (cutNeg l).1
def qnum (l : List UInt8) : List UInt8 := cutAt (cutNeg l).2
def qden (l : List UInt8) : List UInt8 := cutOn (cutNeg l).2
/-- The fraction that is made of the parts. -/
def qmade (l : List UInt8) : Rat := qOf (qneg l) (pval (qnum l)) (pval (qden l))
def qcode (l : List UInt8) : Int :=
  if pcode (qnum l) = 3 ∨ pcode (qden l) = 3 then 3 else if pcode (qnum l) ≠ 0 ∨ pcode (qden l) ≠ 0 then 2 else if pval (qden l) = 0 then 3 else if qtext (qmade l) ≠ l then 3 else 0
def qval (l : List UInt8) : Rat := if qcode l = 0 then qmade l else 0
theorem pval_lt {l : List UInt8} {K : Nat} (h : l.length ≤ K) : pval l < 10 ^ K := by
  have h0 : 0 < 10 ^ K := Nat.pow_pos (by decide)
  unfold pval
  split
  · rename_i hok
    split
    · exact h0
    · simp only [numOk, Bool.and_eq_true] at hok
      exact Nat.lt_of_lt_of_le (dnum_lt l hok.1) (Nat.pow_le_pow_right (by decide) h)
  · exact h0
theorem limbs_pow10 {n k : Nat} (h : n < 10 ^ k) : (limbs n).length ≤ k :=
  limbs_length_le (Nat.lt_of_lt_of_le h (Nat.pow_le_pow_left (by decide) _))
theorem cutNeg_le (l : List UInt8) : (cutNeg l).2.length ≤ l.length := by
  unfold cutNeg; split <;> simp
theorem cutAt_le (l : List UInt8) : (cutAt l).length ≤ l.length := (List.takeWhile_sublist _).length_le
theorem cutOn_le (l : List UInt8) : (cutOn l).length ≤ l.length + 1 := by
  unfold cutOn
  split
  · have := (List.dropWhile_sublist (p := (· != 47)) (l := l)).length_le
    simp only [List.length_tail]; omega
  · simp
theorem qnum_le (l : List UInt8) : (qnum l).length ≤ l.length := Nat.le_trans (cutAt_le _) (cutNeg_le l)
theorem qden_le (l : List UInt8) : (qden l).length ≤ l.length + 1 := Nat.le_trans (cutOn_le _) (by have := cutNeg_le l; omega)
theorem qval_lt {l : List UInt8} {K : Nat} (h : l.length + 1 ≤ K) : (qval l).num.natAbs < 10 ^ K ∧ (qval l).den < 10 ^ K := by
  have h1 := pval_lt (l := qnum l) (K := K) (by have := qnum_le l; omega)
  have h2 := pval_lt (l := qden l) (K := K) (by have := qden_le l; omega)
  have h9 : 1 < 10 ^ K := Nat.one_lt_pow (by omega) (by decide)
  unfold qval
  split
  · rename_i h0
    have hd : 0 < pval (qden l) := by
      rcases Nat.eq_zero_or_pos (pval (qden l)) with h3 | h3
      · exfalso
        unfold qcode at h0
        rw [if_pos h3] at h0
        split at h0
        · omega
        · split at h0 <;> omega
      · exact h3
    have h4 := qOf_le (qneg l) (pval (qnum l)) hd
    exact ⟨Nat.lt_of_le_of_lt h4.1 h1, Nat.lt_of_le_of_lt h4.2 h2⟩
  · exact ⟨by show 0 < _; omega, h9⟩
theorem QB.val {l : List UInt8} {K : Nat} (h : l.length + 1 ≤ K) : QB (qval l) K :=
  ⟨limbs_pow10 (qval_lt h).1, limbs_pow10 (qval_lt h).2⟩
end Go.Proofs.YtlmjkbdodecbmaaDoor

namespace Go.Proofs.YtlmjkbdodecbmaaDoor
open Go.RowKit
set_option linter.unusedVariables false
set_option linter.unusedSimpArgs false
theorem dig_le {n k : Nat} (h : n < 10 ^ k) : (dig n).length ≤ k := by
  induction k generalizing n with
  | zero => have : n = 0 := by simp at h; omega
            subst this; rw [dig_zero]; simp
  | succ k ih =>
    rcases Nat.eq_zero_or_pos n with h0 | h0
    · subst h0; rw [dig_zero]; simp
    · rw [dig_pos h0]
      have : n / 10 < 10 ^ k := by rw [Nat.div_lt_iff_lt_mul (by decide)]; rwa [Nat.pow_succ] at h
      simp only [List.length_cons]
      have := ih this
      omega
theorem dec_le {n k : Nat} (h : n < 10 ^ k) (hk : 0 < k) : (dec n).length ≤ k := by
  unfold dec
  split
  · simp; omega
  · simp only [List.length_map, List.length_reverse]; exact dig_le h
theorem qOf_one (s : Bool) (n : Nat) : qOf s n 1 = ((sg s n : Int) : Rat) := by
  rw [qOf_frac _ _ (by omega)]; simp; grind
/-- The nearest whole number, of two the one farther from 0. -/
def qround (q : Rat) : Rat := qOf (decide (q < 0)) ((q.num.natAbs * 2 + q.den) / (q.den * 2)) 1
theorem QB.round {q : Rat} {k : Nat} (h : QB q k) : QB (qround q) (k + 2) := by
  unfold qround
  have h1 : (limbs 2).length ≤ 1 := limbs_bound (by decide) (by omega)
  have h2 : (limbs (q.num.natAbs * 2 + q.den)).length ≤ k + 2 := limbs_add (limbs_mul h.1 h1) (Nat.le_trans h.2 (by omega))
  exact QB.of _ (Nat.le_trans (limbs_length_mono (Nat.div_le_self _ _)) h2) (limbs_bound (by decide) (by omega)) (by decide)
end Go.Proofs.YtlmjkbdodecbmaaDoor

namespace Go.Proofs.YtlmjkbdodecbmaaDoor
open Go.RowKit
set_option linter.unusedVariables false
set_option linter.unusedSimpArgs false
/-! How often a number is divided. -/
def cnt (b n : Nat) : Nat := if h : 1 < b ∧ 0 < n ∧ n % b = 0 then cnt b (n / b) + 1 else 0
termination_by n
decreasing_by exact Nat.div_lt_self h.2.1 h.1
def crest (b n : Nat) : Nat := if h : 1 < b ∧ 0 < n ∧ n % b = 0 then crest b (n / b) else n
termination_by n
decreasing_by exact Nat.div_lt_self h.2.1 h.1
/-! The places of a fraction. -/
def left25 (q : Rat) : Nat := crest 5 (crest 2 q.den)
def fin (q : Rat) : Bool := decide (left25 q = 1)
def places (q : Rat) : Nat := max (cnt 2 q.den) (cnt 5 (crest 2 q.den))
theorem den_pos (q : Rat) : 0 < q.den := q.den_pos
end Go.Proofs.YtlmjkbdodecbmaaDoor

namespace Go.Proofs.YtlmjkbdodecbmaaDoor
open Go.RowKit
set_option linter.unusedVariables false
set_option linter.unusedSimpArgs false
/-- A fraction whose text is not too long. -/
def LOk (q : Rat) : Prop := QB q 1300 ∧ places q ≤ 1200 ∧ (dec q.num.natAbs).length ≤ 1200 ∧ (dec q.den).length ≤ 1200
theorem LOk.of {q : Rat} {K : Nat} (h1 : q.num.natAbs < 10 ^ K) (h2 : q.den < 10 ^ K) (hK : K ≤ 1200) (hK0 : 0 < K) (hp : places q ≤ 1200) : LOk q :=
  ⟨⟨Nat.le_trans (limbs_pow10 h1) (Nat.le_trans hK (by decide)), Nat.le_trans (limbs_pow10 h2) (Nat.le_trans hK (by decide))⟩, hp, Nat.le_trans (dec_le h1 hK0) hK, Nat.le_trans (dec_le h2 hK0) hK⟩
end Go.Proofs.YtlmjkbdodecbmaaDoor

namespace Go.Proofs.YtlmjkbdodecbmaaDoor
open Go.RowKit
set_option linter.unusedVariables false
set_option linter.unusedSimpArgs false
structure V3 where
  k : Int
  n : List UInt8
  c : List UInt8
end Go.Proofs.YtlmjkbdodecbmaaDoor

namespace Go.Proofs.YtlmjkbdodecbmaaDoor
open Go.RowKit
set_option linter.unusedVariables false
set_option linter.unusedSimpArgs false
/-- A field: its name, kind, declared values, what stands in a missing one's place, what is done with others. -/
structure F5 where
  nm : List UInt8
  k : Int
  vals : List (List UInt8)
  r : V3
  inv : Int
def v0 : V3 := ⟨0, [], []⟩
end Go.Proofs.YtlmjkbdodecbmaaDoor

namespace Go.Proofs.YtlmjkbdodecbmaaDoor
open Go.RowKit
set_option linter.unusedVariables false
set_option linter.unusedSimpArgs false
/-- A block of three cells, a variable of the call's own. -/
structure Box3 (w : World) (b : Nat) (x y z : Value) : Prop where
  c0 : w.cell? ⟨b, 0, none⟩ = some x
  c1 : w.cell? ⟨b, 1, none⟩ = some y
  c2 : w.cell? ⟨b, 2, none⟩ = some z
  f0 : w.frozen? ⟨b, 0, none⟩ = false
  f1 : w.frozen? ⟨b, 1, none⟩ = false
  f2 : w.frozen? ⟨b, 2, none⟩ = false
theorem Box3.lt {w : World} {b : Nat} {x y z : Value} (h : Box3 w b x y z) : b < w.heap.size := World.block_lt_of_cell? w ⟨b, 0, none⟩ h.c0
theorem Box3.below {w w' : World} {b B : Nat} {x y z : Value} (h : Box3 w b x y z) (hb : Below B w w') (hlt : b < B) : Box3 w' b x y z :=
  ⟨(hb.cell (p := ⟨b, 0, none⟩) hlt).trans h.c0, (hb.cell (p := ⟨b, 1, none⟩) hlt).trans h.c1, (hb.cell (p := ⟨b, 2, none⟩) hlt).trans h.c2,
    (hb.frozen (p := ⟨b, 0, none⟩) hlt).trans h.f0, (hb.frozen (p := ⟨b, 1, none⟩) hlt).trans h.f1, (hb.frozen (p := ⟨b, 2, none⟩) hlt).trans h.f2⟩
theorem Box3.kept {w w' : World} {b : Nat} {x y z : Value} (h : Box3 w b x y z) (hb : Below w.heap.size w w') : Box3 w' b x y z := h.below hb h.lt
/-- A fraction of the program's in memory: of its sign, and of the numbers in lowest terms (no denominator where it is 0). -/
def den0 (q : Rat) : Nat := if q = 0 then 0 else q.den
def QIs (w : World) (v : Value) (q : Rat) : Prop := ∃ xo xl xc yo yl yc, v = .agg #[.bool (decide (q < 0)), .slice xo xl xc, .slice yo yl yc] ∧ NatIs w (.agg #[.slice xo xl xc]) q.num.natAbs ∧ NatIs w (.agg #[.slice yo yl yc]) (den0 q)
theorem QIs.below {w w' : World} {v : Value} {q : Rat} (h : QIs w v q) (hb : Below w.heap.size w w') : QIs w' v q := by
  obtain ⟨xo, xl, xc, yo, yl, yc, h1, h2, h3⟩ := h
  exact ⟨xo, xl, xc, yo, yl, yc, h1, h2.below hb, h3.below hb⟩
theorem QIs.mk {w : World} {x y : Value} {q : Rat} {s : Bool} (hs : s = decide (q < 0)) (h2 : NatIs w (.agg #[x]) q.num.natAbs) (h3 : NatIs w (.agg #[y]) (den0 q)) : QIs w (.agg #[.bool s, x, y]) q := by
  obtain ⟨ao, ca, h8, _⟩ := h2.open
  obtain ⟨bo, cb, h9, _⟩ := h3.open
  cases h8
  cases h9
  subst hs
  exact ⟨_, _, _, _, _, _, rfl, h2, h3⟩
theorem QIs.zero (w : World) : QIs w (.agg #[.bool false, .slice none 0 0, .slice none 0 0]) 0 := QIs.mk (by decide) (NatIs.zero w) (NatIs.zero w)
/-- A fraction of the document's in memory. -/
def RQIs (w : World) (v : Value) (q : Rat) : Prop := ∃ xo xl xc yo yl yc, v = .agg #[.bool (decide (q < 0)), .slice xo xl xc, .slice yo yl yc] ∧ RIs w (.slice xo xl xc) q.num.natAbs ∧ RIs w (.slice yo yl yc) q.den
theorem RQIs.below {w w' : World} {v : Value} {q : Rat} (h : RQIs w v q) (hb : Below w.heap.size w w') : RQIs w' v q := by
  obtain ⟨xo, xl, xc, yo, yl, yc, h1, h2, h3⟩ := h
  exact ⟨xo, xl, xc, yo, yl, yc, h1, h2.below hb, h3.below hb⟩
theorem NatIs.form {w : World} {v : Value} {n : Nat} (h : NatIs w v n) : ∃ o l c, v = .agg #[.slice o l c] := by
  obtain ⟨ao, ca, rfl, _⟩ := h.open
  exact ⟨_, _, _, rfl⟩
theorem RIs.form {w : World} {v : Value} {n : Nat} (h : RIs w v n) : ∃ o l c, v = .slice o l c := by
  obtain ⟨ao, ca, rfl, _⟩ := h.open
  exact ⟨_, _, _, rfl⟩
theorem QIs.form {w : World} {v : Value} {q : Rat} (h : QIs w v q) : ∃ s xo xl xc yo yl yc, v = .agg #[.bool s, .slice xo xl xc, .slice yo yl yc] ∧ s = decide (q < 0) ∧ NatIs w (.agg #[.slice xo xl xc]) q.num.natAbs ∧ NatIs w (.agg #[.slice yo yl yc]) (den0 q) := by
  obtain ⟨xo, xl, xc, yo, yl, yc, h1, h2, h3⟩ := h
  exact ⟨_, xo, xl, xc, yo, yl, yc, h1, rfl, h2, h3⟩
theorem RQIs.form {w : World} {v : Value} {q : Rat} (h : RQIs w v q) : ∃ s xo xl xc yo yl yc, v = .agg #[.bool s, .slice xo xl xc, .slice yo yl yc] ∧ s = decide (q < 0) ∧ RIs w (.slice xo xl xc) q.num.natAbs ∧ RIs w (.slice yo yl yc) q.den := by
  obtain ⟨xo, xl, xc, yo, yl, yc, h1, h2, h3⟩ := h
  exact ⟨_, xo, xl, xc, yo, yl, yc, h1, rfl, h2, h3⟩
theorem RQIs.mk {w : World} {x y : Value} {q : Rat} {s : Bool} (hs : s = decide (q < 0)) (h2 : RIs w x q.num.natAbs) (h3 : RIs w y q.den) : RQIs w (.agg #[.bool s, x, y]) q := by
  obtain ⟨ao, ca, rfl, _⟩ := h2.open
  obtain ⟨bo, cb, rfl, _⟩ := h3.open
  subst hs
  exact ⟨_, _, _, _, _, _, rfl, h2, h3⟩
/-- A cell that holds no number. -/
theorem RIs.set {w : World} {v : Value} {n : Nat} (h : RIs w v n) (p : Addr) (u : Value) (hp : ∀ n, w.cell? p ≠ some (.int .i64 n)) : RIs (w.setCell p u) v n := Ints.set h p u hp
section
variable {w : World} {b : Nat} {s0 : Bool} {o1 o2 : Option Addr} {l1 l2 c1 c2 : Nat} {u0 u1 u2 : Value}
end
theorem Box3.drew {w : World} {b : Nat} {x y z : Value} (h : Box3 w b x y z) : Box3 w.drew b x y z := ⟨h.c0, h.c1, h.c2, h.f0, h.f1, h.f2⟩
/-- What a function that makes a fraction answers. -/
def QPost (w : World) (q : Rat) (e : Ending) (w' : World) : Prop := ∃ r, e = .returned r ∧ QIs w' r q ∧ Below w.heap.size w w'
def QPostC (w : World) (q : Rat) (c : Int) (e : Ending) (w' : World) : Prop := ∃ r, e = .returned (.tuple #[r, .int .i64 c]) ∧ QIs w' r q ∧ Below w.heap.size w w'
def RQPost (w : World) (q : Rat) (e : Ending) (w' : World) : Prop := ∃ r, e = .returned r ∧ RQIs w' r q ∧ Below w.heap.size w w'
theorem QPost.out {w w' : World} {q : Rat} {e : Ending} (h : QPost w q e w') : ∃ s xo xl xc yo yl yc, e = .returned (.agg #[.bool s, .slice xo xl xc, .slice yo yl yc]) ∧ s = decide (q < 0) ∧ NatIs w' (.agg #[.slice xo xl xc]) q.num.natAbs ∧ NatIs w' (.agg #[.slice yo yl yc]) (den0 q) ∧ QIs w' (.agg #[.bool s, .slice xo xl xc, .slice yo yl yc]) q ∧ Below w.heap.size w w' := by
  obtain ⟨r, rfl, hq, hb⟩ := h
  obtain ⟨s, xo, xl, xc, yo, yl, yc, rfl, h1, h2, h3⟩ := hq.form
  exact ⟨_, _, _, _, _, _, _, rfl, h1, h2, h3, hq, hb⟩
theorem RQPost.out {w w' : World} {q : Rat} {e : Ending} (h : RQPost w q e w') : ∃ s xo xl xc yo yl yc, e = .returned (.agg #[.bool s, .slice xo xl xc, .slice yo yl yc]) ∧ s = decide (q < 0) ∧ RIs w' (.slice xo xl xc) q.num.natAbs ∧ RIs w' (.slice yo yl yc) q.den ∧ RQIs w' (.agg #[.bool s, .slice xo xl xc, .slice yo yl yc]) q ∧ Below w.heap.size w w' := by
  obtain ⟨r, rfl, hq, hb⟩ := h
  obtain ⟨s, xo, xl, xc, yo, yl, yc, rfl, h1, h2, h3⟩ := hq.form
  exact ⟨_, _, _, _, _, _, _, rfl, h1, h2, h3, hq, hb⟩
section
variable {fn : Func} {s : Nat} {act : Act} {w w9 : World} {b : Nat} {s0 : Bool} {o1 o2 : Option Addr} {l1 l2 c1 c2 : Nat} {u0 u1 u2 : Value} {q : Rat}
end
def RQPostC (w : World) (q : Rat) (c : Int) (e : Ending) (w' : World) : Prop := ∃ r, e = .returned (.tuple #[r, .int .i64 c]) ∧ RQIs w' r q ∧ Below w.heap.size w w'
section
variable {fn : Func} {s : Nat} {act : Act} {w w9 : World} {b : Nat} {s0 : Bool} {o1 o2 : Option Addr} {l1 l2 c1 c2 : Nat} {u0 u1 u2 : Value} {q : Rat}
end
theorem RQIs.zero {w : World} {y : Value} (hy : RIs w y 1) : RQIs w (.agg #[.bool false, .slice none 0 0, y]) 0 := RQIs.mk (by decide) (RIs.nil w) hy
theorem QPostC.out {w w' : World} {q : Rat} {c : Int} {e : Ending} (h : QPostC w q c e w') : ∃ s xo xl xc yo yl yc, e = .returned (.tuple #[.agg #[.bool s, .slice xo xl xc, .slice yo yl yc], .int .i64 c]) ∧ s = decide (q < 0) ∧ NatIs w' (.agg #[.slice xo xl xc]) q.num.natAbs ∧ NatIs w' (.agg #[.slice yo yl yc]) (den0 q) ∧ QIs w' (.agg #[.bool s, .slice xo xl xc, .slice yo yl yc]) q ∧ Below w.heap.size w w' := by
  obtain ⟨r, rfl, hq, hb⟩ := h
  obtain ⟨s, xo, xl, xc, yo, yl, yc, rfl, h1, h2, h3⟩ := hq.form
  exact ⟨_, _, _, _, _, _, _, rfl, h1, h2, h3, hq, hb⟩
theorem RQPostC.out {w w' : World} {q : Rat} {c : Int} {e : Ending} (h : RQPostC w q c e w') : ∃ s xo xl xc yo yl yc, e = .returned (.tuple #[.agg #[.bool s, .slice xo xl xc, .slice yo yl yc], .int .i64 c]) ∧ s = decide (q < 0) ∧ RIs w' (.slice xo xl xc) q.num.natAbs ∧ RIs w' (.slice yo yl yc) q.den ∧ RQIs w' (.agg #[.bool s, .slice xo xl xc, .slice yo yl yc]) q ∧ Below w.heap.size w w' := by
  obtain ⟨r, rfl, hq, hb⟩ := h
  obtain ⟨s, xo, xl, xc, yo, yl, yc, rfl, h1, h2, h3⟩ := hq.form
  exact ⟨_, _, _, _, _, _, _, rfl, h1, h2, h3, hq, hb⟩
end Go.Proofs.YtlmjkbdodecbmaaDoor

namespace Go.Proofs.YtlmjkbdodecbmaaDoor
open Go.RowKit
set_option linter.unusedVariables false
section
variable {P : Program} {ops : Array Oper} {Q : Exit → Act → World → Prop} {S : World → Prop}
/-- The walk in one order. -/
def wpSeqH (P : Program) (ops : Array Oper) (Q : Exit → Act → World → Prop) (S : World → Prop) : List (Bool × Oper) → Act → World → Prop
  | [], a, w => Q .normal a w
  | (true, o) :: rest, a, w => ∃ v, YieldsIf P ops S o v a ∧ wpSeqH P ops Q S rest (a.put o.dst v) w
  | (false, o) :: rest, a, w => ∀ K : Act → World → Prop, Shut (∀ a w, S w → (S w → wpSeqH P ops Q S rest a w) → K a w) →
      if Region.wanted o (yielded ops a.tmps) = true then Oper.wp P o a w K Q else K (a.put o.dst undef) w
/-- Is the order one that the region allows? -/
def seqOk (ops : Array Oper) : List (Bool × Nat) → Array Bool → Bool
  | [], listed => (Region.ready .any ops listed).isEmpty
  | (true, i) :: r, listed => Region.free .any ops listed i && (Region.ready .any ops listed).contains i && seqOk ops r (listed.setIfInBounds i true)
  | (false, i) :: r, listed => (Region.ready .any ops listed == [i]) && seqOk ops r (listed.setIfInBounds i true)
def pickOps (ops : Array Oper) : List (Bool × Nat) → List (Bool × Oper)
  | [] => []
  | (b, i) :: r => match ops[i]? with
    | some o => (b, o) :: pickOps ops r
    | none => pickOps ops r
theorem wpAnyH_of_seq (hs : Region.noSelect ops = true) (hQ : ∀ d v c a w, Q (.panic c) (a.put d v) w → Q (.panic c) a w) :
    ∀ (l : List (Bool × Nat)) (listed : Array Bool) (a : Act) (w : World), seqOk ops l listed = true → (l.all fun x => decide (x.2 < ops.size)) = true → S w → wpSeqH P ops Q S (pickOps ops l) a w → wpAnyH P .any ops Q S l.length listed a w
  | [], listed, a, w, hk, _, _, h => by
    simp only [seqOk, List.isEmpty_iff] at hk
    exact ⟨hk, h⟩
  | (b, i) :: r, listed, a, w, hk, hlt, hS, h => by
    simp only [List.all_cons, Bool.and_eq_true, decide_eq_true_eq] at hlt
    have hi : ops[i]? = some ops[i] := Array.getElem?_eq_getElem hlt.1
    simp only [pickOps, hi] at h
    cases b with
    | true =>
      simp only [seqOk, Bool.and_eq_true] at hk
      obtain ⟨v, hy, h⟩ := h
      exact wpAnyH_take hi hs hk.1.1 hk.1.2 (fun c a w => hQ _ _ c a w) hy hS (wpAnyH_of_seq hs hQ r _ _ _ hk.2 hlt.2 hS h)
    | false =>
      simp only [seqOk, Bool.and_eq_true, beq_iff_eq] at hk
      refine wpAnyH_ready hk.1 (by simp) (AllReadyH.cons hi (fun K hK => ?_) AllReadyH.nil)
      exact h K (fun a' w' hS' hw => hK.out a' w' hS' fun hS'' => wpAnyH_of_seq hs hQ r _ _ _ hk.2 hlt.2 hS'' (hw hS''))
theorem wp_region_seq {id : Nat} {a : Act} {w : World} (l : List (Bool × Nat)) (hm : P.follows .mixedOrders = true) (hs : Region.noSelect ops = true) (hl : l.length = ops.size) (hlt : (l.all fun x => decide (x.2 < ops.size)) = true)
    (hk : seqOk ops l (Array.replicate ops.size false) = true) (hQ : ∀ d v c a w, Q (.panic c) (a.put d v) w → Q (.panic c) a w) (hS : S w.drew)
    (h : S w.drew → wpSeqH P ops Q S (pickOps ops l) a w.drew) : (Code.region id ops true).wp P Q a w := by
  refine wp_region_held_drew hm hS fun hS' => ?_
  have := wpAnyH_of_seq (P := P) (Q := Q) (S := S) hs hQ l _ _ _ hk hlt hS' (h hS')
  rwa [hl] at this
theorem seq_take {o : Oper} {rest : List (Bool × Oper)} {a : Act} {w : World} {v : Value} (hw : Region.wanted o (yielded ops a.tmps) = true) (hy : ∀ w, S w → (execOp a.eval o).run P w = .ok (.value v) w)
    (h : wpSeqH P ops Q S rest (a.put o.dst v) w) : wpSeqH P ops Q S ((true, o) :: rest) a w := ⟨v, .inl ⟨hw, hy⟩, h⟩
theorem seq_leave {o : Oper} {rest : List (Bool × Oper)} {a : Act} {w : World} (hw : Region.wanted o (yielded ops a.tmps) = false)
    (h : wpSeqH P ops Q S rest (a.put o.dst undef) w) : wpSeqH P ops Q S ((true, o) :: rest) a w := ⟨undef, .inr ⟨hw, rfl⟩, h⟩
theorem seq_step {o : Oper} {rest : List (Bool × Oper)} {a : Act} {w : World} (hw : Region.wanted o (yielded ops a.tmps) = true)
    (h : ∀ K : Act → World → Prop, Shut (∀ a w, S w → (S w → wpSeqH P ops Q S rest a w) → K a w) → Oper.wp P o a w K Q) : wpSeqH P ops Q S ((false, o) :: rest) a w := fun K hK => by
  rw [if_pos hw]; exact h K hK
theorem seq_end {a : Act} {w : World} (h : Q .normal a w) : wpSeqH P ops Q S [] a w := h
end
end Go.Proofs.YtlmjkbdodecbmaaDoor
