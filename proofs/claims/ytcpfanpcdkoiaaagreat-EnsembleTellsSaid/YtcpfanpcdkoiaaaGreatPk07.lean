/-
  Pk07: ComN MathQ MathR MathS MathT MathI MathO (what is needed of them).
-/
import Derived.Test.YtcpfanpcdkoiaaaGreatPk01
import Derived.Test.YtcpfanpcdkoiaaaGreatPk05
import Derived.Test.YtcpfanpcdkoiaaaGreatPk06
import Derived.WalkKit
import Derived.Lib.RowBridge
import Derived.Lib.SlBy
set_option maxRecDepth 100000
set_option linter.unusedVariables false
set_option linter.unusedSimpArgs false

namespace Go.Proofs.YtcpfanpcdkoiaaaGreat
open Go.RowKit Go.Shelf


attribute [local go_sem] Oper.semAt_some
attribute [local go_sem] field_nat
def KeepNat (W W' : World) : Prop := ∀ v n, NatIs W v n → NatIs W' v n
theorem KeepNat.trans {A C D : World} (h : KeepNat A C) (h' : KeepNat C D) : KeepNat A D := fun v n hn => h' v n (h v n hn)
theorem KeepNat.of_cells {A C : World} (hs : A.heap.size ≤ C.heap.size) (h : ∀ p n, A.cell? p = some (.int .u32 n) → C.cell? p = some (.int .u32 n)) : KeepNat A C := by
 rintro v n ⟨sv, rfl, ao, cap, h1, h2, h3, h4, h5⟩
 refine ⟨sv, rfl, ao, cap, h1, h2, h3, h4, ?_⟩
 rcases h5 with h5 | ⟨b, off, h6, h7, h8⟩
 ·exact .inl h5
 ·refine .inr ⟨b, off, h6, Nat.lt_of_lt_of_le h7 hs, fun i hi => ?_⟩
  exact h _ _ (h8 i hi)
theorem KeepNat.below {A C : World} (h : Below A.heap.size A C) : KeepNat A C := fun v n hn => hn.below h
theorem Ext.block {B : Nat} {A C : World} (h : Ext B A C) {p : Addr} {v : Value} (hp : A.cell? p = some v) : C.heap[p.block]? = A.heap[p.block]? := by
 unfold World.cell? at hp
 split at hp
 ·rename_i hb
  rw [hb]; exact h.cells _ _ hb rfl
 ·cases hp
theorem Ext.cell {B : Nat} {A C : World} (h : Ext B A C) {p : Addr} {v : Value} (hp : A.cell? p = some v) : C.cell? p = some v :=
 (World.cell?_of_block (h.block hp)).trans hp
theorem KeepNat.ext {B : Nat} {A C : World} (h : Ext B A C) : KeepNat A C := KeepNat.of_cells h.size fun p n hp => h.cell hp
theorem Box.ext {B : Nat} {A C : World} {b : Nat} {v : Value} (hx : Box A b v) (h : Ext B A C) : Box C b v :=
 ⟨h.cell hx.cell, (World.frozen?_of_block (h.block hx.cell)).trans hx.free, Nat.lt_of_lt_of_le hx.lt h.size⟩
theorem Owns.of_block {base : Nat} {e : TypeId} {w w' : World} {v : Value} {xs : List Value} (h : Owns base e w v xs) (hb : ∀ g, v.ownBlock = some g → w'.heap[g]? = w.heap[g]?) : Owns base e w' v xs := by
 refine ⟨h.1, ?_⟩
 rcases h.2 with h1 | ⟨g, cap, cur, rfl, h2, h3, h4⟩
 ·exact .inl h1
 ·exact .inr ⟨g, cap, cur, rfl, h2, (hb g rfl).trans h3, h4⟩
theorem Owns.ext {B base : Nat} {e : TypeId} {w w' : World} {v : Value} {xs : List Value} (h : Owns base e w v xs) (hx : Ext B w w') : Owns base e w' v xs := by
 refine ⟨h.1, ?_⟩
 rcases h.2 with h1 | ⟨g, cap, cur, rfl, h2, h3, h4⟩
 ·exact .inl h1
 ·exact .inr ⟨g, cap, cur, rfl, h2, hx.cells _ _ h3 rfl, h4⟩
theorem below_ext {B D : Nat} {w W W' : World} (h : Below B w W) (hx : Ext D W W') (hD : B ≤ D) (hBw : B ≤ W.heap.size) : Below B w W' :=
 ⟨hx.os.trans h.os, hx.tape.trans h.tape, hx.output.trans h.output, Nat.le_trans h.size hx.size, fun k hk => (hx.low k (by omega) (by omega)).trans (h.block k hk)⟩
theorem Iter.mono {α : Type} {P : Program} {gf : Nat} {lb : Array Value} {Enc : World → Value → α → Prop} {xs : List α} {B : Nat} {Kp : World → World → Prop} {w w' : World} (h : Iter P gf lb Enc xs B Kp w) (hb : Below w.heap.size w w') :
  Iter P gf lb Enc xs B Kp w' := fun l J Jx S0 W1 hW => h l J Jx S0 W1 (hb.trans (hW.mono hb.size))
theorem grown_foot {W w1 : World} {bx : Nat} {v v' : Value} (hg : W.grownBy w1 v.ownBlock) (hlt : bx < W.heap.size) (ho : ∀ g, v'.ownBlock = some g → v.ownBlock = some g ∨ W.heap.size ≤ g) (u : Value) :
  Foot (fun k => k = bx ∨ v.ownBlock = some k) (fun k => k = bx ∨ v'.ownBlock = some k) W (w1.setCell ⟨bx, 0, none⟩ u) where
 os := hg.os
 tape := hg.tape
 output := hg.output
 size := by simpa using hg.size
 same k hk hs := by
  have h1 : k ≠ bx := fun e => hs (.inl e)
  have h2 : ¬ (some k = v.ownBlock) := fun e => hs (.inr e.symm)
  have := (grownBy_set (grownBy_refl w1 (some bx)) 0 u).block k (Nat.lt_of_lt_of_le hk hg.size) (by simpa using h1)
  exact this.trans (hg.block k hk h2)
 fresh k h := by
  rcases h with h | h
  ·exact .inl (.inl h)
  ·rcases ho k h with h1 | h1
   ·exact .inl (.inr h1)
   ·exact .inr h1
theorem owns_snoc {base : Nat} {e : TypeId} {w : World} {v u : Value} {xs : List Value} (h : Owns base e w v (xs ++ [u])) : ∃ g cap, v = .slice (some ⟨g, 0, none⟩) (xs.length + 1) cap := by
 rcases h.shape with ⟨_, h1⟩ | ⟨g, cap, h1, _⟩
 ·simp at h1
 ·exact ⟨g, cap, by rw [h1]; simp⟩
theorem RowAll.block {p : Value → Prop} {W W' : World} {v : Value} (h : RowAll p W v) (hb : ∀ g, v.ownBlock = some g → W'.heap[g]? = W.heap[g]?) : RowAll p W' v :=
 fun g hg j c hc => h g hg j c ((World.cell?_of_block (a := ⟨g, j, none⟩) (hb g hg)).symm.trans hc)
theorem Owns.at_cells {base : Nat} {e : TypeId} {w : World} {v : Value} {xs : List Value} (h : Owns base e w v xs) : ∀ g, v.ownBlock = some g → base ≤ g ∧ g < w.heap.size ∧ ∃ o : Obj, w.heap[g]? = some o ∧ o.isCells = true := by
 intro g hg
 rcases h.2 with ⟨rfl, _⟩ | ⟨g', cap, cur, rfl, h2, h3, h4⟩
 ·simp [Value.ownBlock] at hg
 ·simp [Value.ownBlock] at hg
  subst hg
  exact ⟨h2, (Array.getElem?_eq_some_iff.1 h3).1, _, h3, rfl⟩
theorem RowAll.ext {p : Value → Prop} {B base : Nat} {e : TypeId} {W W' : World} {v : Value} {xs : List Value} (h : RowAll p W v) (hx : Ext B W W') (hO : Owns base e W v xs) : RowAll p W' v :=
 h.block fun g hg => by obtain ⟨_, _, o, h1, h2⟩ := hO.at_cells g hg; rw [h1]; exact hx.cells _ _ h1 h2
theorem RowAll.below {p : Value → Prop} {base : Nat} {e : TypeId} {W W' : World} {v : Value} {xs : List Value} (h : RowAll p W v) (hb : Below W.heap.size W W') (hO : Owns base e W v xs) : RowAll p W' v := h.ext (B := 0) (Ext.of_below hb) hO
theorem ext_deferred {W : World} {D : Nat} (hD : W.heap[D]? = some (.deferred (some []))) : Ext D W (W.putObj D (.deferred none)) := Ext.put (Nat.le_refl _) hD rfl
theorem Iter.up {α : Type} {P : Program} {gf : Nat} {lb : Array Value} {Enc : World → Value → α → Prop} {xs : List α} {B B' : Nat} {Kp : World → World → Prop} {w w' : World} (h : Iter P gf lb Enc xs B Kp w) (hb : Below w.heap.size w w') (hB : B ≤ B') :
  Iter P gf lb Enc xs B' Kp w' := fun l J Jx S0 W1 hW hS => h l J Jx S0 W1 (hb.trans (hW.mono hb.size)) (fun k hk => ⟨Nat.le_trans hB (hS k hk).1, (hS k hk).2⟩)
theorem limbs_mul {a b m n : Nat} (ha : (limbs a).length ≤ m) (hb : (limbs b).length ≤ n) : (limbs (a * b)).length ≤ m + n := by
 have h1 := lt_pow_limbs a
 have h2 := lt_pow_limbs b
 refine Nat.le_trans (limbs_length_le (k := (limbs a).length + (limbs b).length) ?_) (by omega)
 rw [Nat.pow_add]
 rcases Nat.eq_zero_or_pos b with h0 | h0
 ·subst h0; rw [Nat.mul_zero]; exact Nat.mul_pos (Nat.pow_pos (by decide)) (Nat.pow_pos (by decide))
 ·exact Nat.lt_of_lt_of_le (Nat.mul_lt_mul_of_pos_right h1 h0) (Nat.mul_le_mul_left _ (Nat.le_of_lt h2))
theorem limbs_add {a b m : Nat} (ha : (limbs a).length ≤ m) (hb : (limbs b).length ≤ m) : (limbs (a + b)).length ≤ m + 1 := by
 have h1 : a < 4294967296 ^ m := Nat.lt_of_lt_of_le (lt_pow_limbs a) (Nat.pow_le_pow_right (by decide) ha)
 have h2 : b < 4294967296 ^ m := Nat.lt_of_lt_of_le (lt_pow_limbs b) (Nat.pow_le_pow_right (by decide) hb)
 refine limbs_length_le ?_
 rw [Nat.pow_succ]
 omega
theorem NatIs.alloc {w : World} {v : Value} {n : Nat} (h : NatIs w v n) (o : Obj) : NatIs (w.alloc o) v n := h.below ((Below.refl _ _).alloc (Nat.le_refl _) _)
def NotI (c : Value) : Prop := ∀ k n, c ≠ .int k n
structure KeepI (W W' : World) : Prop where
 size : W.heap.size ≤ W'.heap.size
 cell : ∀ k p n, W.cell? p = some (.int k n) → W'.cell? p = some (.int k n)
theorem KeepI.trans {A C D : World} (h : KeepI A C) (h' : KeepI C D) : KeepI A D := ⟨Nat.le_trans h.size h'.size, fun k p n hp => h'.cell k p n (h.cell k p n hp)⟩
theorem KeepI.below {A C : World} (h : Below A.heap.size A C) : KeepI A C := ⟨h.size, fun k p n hp => (h.cell (p := p) (World.block_lt_of_cell? A p hp)).trans hp⟩
theorem KeepI.grown {W w1 : World} {v : Value} (hg : W.grownBy w1 v.ownBlock) (ha : RowAll NotI W v) : KeepI W w1 := by
 refine ⟨hg.size, fun k p n hp => ?_⟩
 refine hg.cell hp ?_
 intro e
 obtain ⟨blk, off, spot⟩ := p
 have : spot = none := by
  unfold World.cell? at hp
  split at hp
  ·cases spot with
   | none => rfl
   | some x => simp at hp
  ·cases hp
 subst this
 exact ha blk e.symm off _ hp k n rfl
def ListAt (R : World → Value → Nat → Prop) (W : World) (svs : List Value) (ns : List Nat) : Prop := svs.length = ns.length ∧ ∀ (i : Nat) (sv : Value), svs[i]? = some sv → R W sv (ns[i]?.getD 0)
theorem ListAt.nil (R : World → Value → Nat → Prop) (W : World) : ListAt R W [] [] := ⟨rfl, fun i sv h => by simp at h⟩
theorem ListAt.keep {R : World → Value → Nat → Prop} {W W' : World} {svs : List Value} {ns : List Nat} (h : ListAt R W svs ns) (hk : ∀ v n, R W v n → R W' v n) : ListAt R W' svs ns :=
 ⟨h.1, fun i sv hi => hk _ _ (h.2 i sv hi)⟩
theorem ListAt.snoc {R : World → Value → Nat → Prop} {W : World} {svs : List Value} {ns : List Nat} {sv : Value} {n : Nat} (h : ListAt R W svs ns) (hn : R W sv n) : ListAt R W (svs ++ [sv]) (ns ++ [n]) := by
 refine ⟨by simp [h.1], fun i u hi => ?_⟩
 by_cases hlt : i < svs.length
 ·rw [List.getElem?_append_left hlt] at hi
  rw [List.getElem?_append_left (by rw [← h.1]; exact hlt)]
  exact h.2 i u hi
 ·have hie : i = svs.length := by
   have := (List.getElem?_eq_some_iff.1 hi).1
   simp at this; omega
  subst hie
  simp at hi
  subst hi
  rw [h.1]; simpa using hn
def Strs (w : World) (v : Value) (ls : List (List UInt8)) : Prop :=
 ∃ ao cap, v = .slice ao ls.length cap ∧ ls.length ≤ cap ∧ cap ≤ maxLen ∧ (ls = [] ∨ ∃ b off, ao = some ⟨b, off, none⟩ ∧ b < w.heap.size ∧ ∀ i, i < ls.length → w.cell? ⟨b, off + i, none⟩ = some (.string ⟨(ls[i]?.getD []).toArray⟩))
theorem Strs.below {w w' : World} {v : Value} {ls : List (List UInt8)} (h : Strs w v ls) (hb : Below w.heap.size w w') : Strs w' v ls := by
 obtain ⟨ao, cap, h1, h2, h3, h4⟩ := h
 refine ⟨ao, cap, h1, h2, h3, ?_⟩
 rcases h4 with h4 | ⟨b, off, h5, h6, h7⟩
 ·exact .inl h4
 ·exact .inr ⟨b, off, h5, Nat.lt_of_lt_of_le h6 hb.size, fun i hi => (hb.cell (p := ⟨b, off + i, none⟩) h6).trans (h7 i hi)⟩
theorem RowAll.grown {p : Value → Prop} {base : Nat} {e : TypeId} {W W' : World} {v u : Value} {xs : List Value} (h : RowAll p W v) (hO : Owns base e W v xs) (hg : W.grownBy W' u.ownBlock) (hne : ∀ g, v.ownBlock = some g → u.ownBlock ≠ some g) : RowAll p W' v :=
 h.block fun g hg' => hg.block g (hO.at_cells g hg').2.1 (fun e => hne g hg' e.symm)
end Go.Proofs.YtcpfanpcdkoiaaaGreat

namespace Go.Proofs.YtcpfanpcdkoiaaaGreat


def sg (neg : Bool) (n : Nat) : Int := if neg then -(n : Int) else n
theorem sg_natAbs (neg : Bool) (n : Nat) : (sg neg n).natAbs = n := by cases neg <;> simp [sg]
def qOf (neg : Bool) (n d : Nat) : Rat := mkRat (sg neg n) d
theorem qOf_num {neg : Bool} {n d : Nat} (hd : 0 < d) : (qOf neg n d).num = sg neg (n / Nat.gcd n d) := by
 have hd' : d ≠ 0 := by omega
 unfold qOf
 rw [Rat.mkRat_def, dif_neg hd', Rat.normalize_eq]
 simp only [sg_natAbs]
 cases neg
 ·simp [sg]
 ·simp only [sg, if_true]
  rw [Int.neg_ediv_of_dvd (Int.natCast_dvd_natCast.2 (Nat.gcd_dvd_left _ _))]
  simp
theorem qOf_den {neg : Bool} {n d : Nat} (hd : 0 < d) : (qOf neg n d).den = d / Nat.gcd n d := by
 have hd' : d ≠ 0 := by omega
 unfold qOf
 rw [Rat.mkRat_def, dif_neg hd', Rat.normalize_eq]
 simp only [sg_natAbs]
theorem qOf_zero (neg : Bool) (d : Nat) : qOf neg 0 d = 0 := by
 unfold qOf
 have : sg neg 0 = 0 := by cases neg <;> rfl
 rw [this, Rat.zero_mkRat]
theorem q_neg (q : Rat) : q < 0 ↔ q.num < 0 := by rw [Rat.lt_iff]; simp
theorem qOf_self (q : Rat) : qOf (decide (q < 0)) q.num.natAbs q.den = q := by
 have h : sg (decide (q < 0)) q.num.natAbs = q.num := by
  unfold sg
  by_cases h : q < 0
  ·have := (q_neg q).1 h
   simp only [h, decide_true, if_true]; omega
  ·have h1 : ¬ q.num < 0 := fun h2 => h ((q_neg q).2 h2)
   simp only [h, decide_false]
   simp; omega
 unfold qOf
 rw [h, Rat.mkRat_self]
theorem qOf_neg {neg : Bool} {n d : Nat} (hn : 0 < n) (hd : 0 < d) : decide (qOf neg n d < 0) = neg := by
 have hg : 0 < n / Nat.gcd n d := Nat.div_pos (Nat.gcd_le_left _ hn) (Nat.gcd_pos_of_pos_left _ hn)
 have h := q_neg (qOf neg n d)
 rw [qOf_num hd] at h
 cases neg
 ·rw [decide_eq_false_iff_not, h]; simp [sg]; omega
 ·rw [decide_eq_true_iff, h]; simp only [sg, if_true]; omega
theorem qOf_eq_zero {neg : Bool} {n d : Nat} (hn : 0 < n) (hd : 0 < d) : qOf neg n d ≠ 0 := by
 intro h
 have hg : 0 < n / Nat.gcd n d := Nat.div_pos (Nat.gcd_le_left _ hn) (Nat.gcd_pos_of_pos_left _ hn)
 have h1 := qOf_num (neg := neg) (n := n) hd
 rw [h] at h1
 have h2 := congrArg Int.natAbs h1
 rw [sg_natAbs] at h2
 simp at h2
 omega
/-! What is reckoned of signs, numerators and denominators is what is reckoned of the fractions. -/
theorem qOf_frac (neg : Bool) (n : Nat) {d : Nat} (hd : 0 < d) : qOf neg n d = (sg neg n : Rat) / (d : Rat) := by
 unfold qOf
 rw [Rat.mkRat_eq_div]
theorem q_num_sg (q : Rat) : q.num = sg (decide (q < 0)) q.num.natAbs := by
 have := congrArg Rat.num (qOf_self q)
 have h : sg (decide (q < 0)) q.num.natAbs = q.num := by
  unfold sg
  by_cases h : q < 0
  ·have := (q_neg q).1 h
   simp only [h, decide_true, if_true]; omega
  ·have h1 : ¬ q.num < 0 := fun h2 => h ((q_neg q).2 h2)
   simp only [h, decide_false]
   simp; omega
 exact h.symm
theorem q_add_eq (a b : Rat) : a + b = mkRat (a.num * b.den + b.num * a.den) (a.den * b.den) := by
 rw [Rat.add_def, Rat.mkRat_def, dif_neg (Nat.ne_of_gt (Nat.mul_pos a.den_pos b.den_pos))]
theorem qadd_same {a b : Rat} {s : Bool} (ha : decide (a < 0) = s) (hb : decide (b < 0) = s) : qOf s (a.num.natAbs * b.den + b.num.natAbs * a.den) (a.den * b.den) = a + b := by
 have h1 := q_num_sg a
 have h2 := q_num_sg b
 rw [ha] at h1
 rw [hb] at h2
 rw [q_add_eq]
 unfold qOf
 congr 1
 generalize a.num.natAbs = n at *
 generalize b.num.natAbs = m at *
 rw [h1, h2]
 cases s
 ·simp [sg]
 ·simp [sg]; grind
theorem qadd_more {a b : Rat} (hab : decide (a < 0) ≠ decide (b < 0)) (hge : b.num.natAbs * a.den ≤ a.num.natAbs * b.den) : qOf (decide (a < 0)) (a.num.natAbs * b.den - b.num.natAbs * a.den) (a.den * b.den) = a + b := by
 have h1 := q_num_sg a
 have h2 := q_num_sg b
 rw [q_add_eq]
 unfold qOf
 congr 1
 generalize a.num.natAbs = n at *
 generalize b.num.natAbs = m at *
 generalize decide (a < 0) = s at *
 generalize decide (b < 0) = t at *
 rw [h1, h2]
 have h3 : ((n * b.den - m * a.den : Nat) : Int) = (n : Int) * b.den - (m : Int) * a.den := by
  rw [Int.natCast_sub hge, Int.natCast_mul, Int.natCast_mul]
 cases s <;> cases t <;> simp [sg, h3] at * <;> grind
theorem qsub_is (a b : Rat) : a - b = a + -b := Rat.sub_eq_add_neg a b
theorem qneg_num (a : Rat) : (-a).num.natAbs = a.num.natAbs ∧ (-a).den = a.den := by
 simp
theorem qneg_sign (a : Rat) : decide (-a < 0) = (!decide (a < 0) && !decide (a.num.natAbs = 0)) := by
 have h1 := q_neg a
 have h2 := q_neg (-a)
 have h3 : (-a).num = -a.num := by simp
 rw [h3] at h2
 by_cases ha : a.num < 0
 ·rw [decide_eq_true (h1.2 ha), decide_eq_false (fun h => by have := h2.1 h; omega)]; rfl
 ·rw [decide_eq_false (fun h => ha (h1.1 h))]
  by_cases h0 : a.num = 0
  ·rw [decide_eq_false (fun h => by have := h2.1 h; omega), decide_eq_true (by omega)]; rfl
  ·rw [decide_eq_true (h2.2 (by omega)), decide_eq_false (by omega)]; rfl
end Go.Proofs.YtcpfanpcdkoiaaaGreat

namespace Go.Proofs.YtcpfanpcdkoiaaaGreat
open Go.RowKit


def QB (q : Rat) (k : Nat) : Prop := (limbs q.num.natAbs).length ≤ k ∧ (limbs q.den).length ≤ k
theorem QB.mono {q : Rat} {k m : Nat} (h : QB q k) (hk : k ≤ m) : QB q m := ⟨Nat.le_trans h.1 hk, Nat.le_trans h.2 hk⟩
theorem QB.neg {q : Rat} {k : Nat} (h : QB q k) : QB (-q) k := by
 unfold QB; rw [(qneg_num q).1, (qneg_num q).2]; exact h
theorem mkRat_le (z : Int) {d : Nat} (hd : 0 < d) : (mkRat z d).num.natAbs ≤ z.natAbs ∧ (mkRat z d).den ≤ d := by
 have hd' : d ≠ 0 := by omega
 rw [Rat.mkRat_def, dif_neg hd', Rat.normalize_eq]
 refine ⟨?_, Nat.div_le_self _ _⟩
 show (z / ((Nat.gcd z.natAbs d : Nat) : Int)).natAbs ≤ z.natAbs
 rw [Int.natAbs_ediv_of_dvd (Int.ofNat_dvd_left.2 (Nat.gcd_dvd_left _ _))]
 exact Nat.div_le_self _ _
theorem qOf_le (neg : Bool) (n : Nat) {d : Nat} (hd : 0 < d) : (qOf neg n d).num.natAbs ≤ n ∧ (qOf neg n d).den ≤ d := by
 have h := mkRat_le (sg neg n) hd
 rw [sg_natAbs] at h
 exact h
theorem QB.of {n d k : Nat} (neg : Bool) (hn : (limbs n).length ≤ k) (hd : (limbs d).length ≤ k) (h0 : 0 < d) : QB (qOf neg n d) k := by
 have h := qOf_le neg n h0
 exact ⟨Nat.le_trans (limbs_length_mono h.1) hn, Nat.le_trans (limbs_length_mono h.2) hd⟩
theorem limbs_one : (limbs 1).length = 1 := by rw [limbs_pos (by omega)]; simp [limbs_zero]
theorem limbs_bound {n k : Nat} (h : n < 4294967296) (hk : 1 ≤ k) : (limbs n).length ≤ k := Nat.le_trans (limbs_length_le (k := 1) (by omega)) hk
theorem QB.zero (k : Nat) (hk : 1 ≤ k) : QB 0 k := ⟨limbs_bound (by decide) hk, limbs_bound (by decide) hk⟩
theorem QB.num {q : Rat} {k : Nat} (h : QB q k) : (limbs q.num.natAbs).length ≤ k := h.1
theorem QB.den {q : Rat} {k : Nat} (h : QB q k) : (limbs q.den).length ≤ k := h.2
theorem QB.add {a b : Rat} {i j : Nat} (ha : QB a i) (hb : QB b j) : QB (a + b) (i + j + 1) := by
 rw [q_add_eq]
 have h := mkRat_le (a.num * b.den + b.num * a.den) (Nat.mul_pos a.den_pos b.den_pos)
 have h1 : (a.num * b.den + b.num * a.den).natAbs ≤ a.num.natAbs * b.den + b.num.natAbs * a.den := by
  refine Nat.le_trans (Int.natAbs_add_le _ _) ?_
  rw [Int.natAbs_mul, Int.natAbs_mul]; simp
 have h2 := limbs_mul ha.1 hb.2
 have h3 := limbs_mul hb.1 ha.2
 rw [Nat.add_comm j i] at h3
 have h4 := limbs_add h2 h3
 have h5 := limbs_mul ha.2 hb.2
 exact ⟨Nat.le_trans (limbs_length_mono (Nat.le_trans h.1 h1)) h4, Nat.le_trans (limbs_length_mono h.2) (by omega)⟩
theorem QB.sub {a b : Rat} {i j : Nat} (ha : QB a i) (hb : QB b j) : QB (a - b) (i + j + 1) := by
 rw [qsub_is]; exact ha.add hb.neg
def qtext (q : Rat) : List UInt8 := (if decide (q < 0) = true then [45] else []) ++ (str (dec q.num.natAbs) ++ (if q.den = 1 then [] else 47 :: str (dec q.den)))
def cutNeg (l : List UInt8) : Bool × List UInt8 := if l.head? = some 45 then (true, l.tail) else (false, l)
def cutAt (l : List UInt8) : List UInt8 := l.takeWhile (· != 47)
def cutOn (l : List UInt8) : List UInt8 := if 47 ∈ l then (l.dropWhile (· != 47)).tail else [49]
def qneg (l : List UInt8) : Bool := (cutNeg l).1
def qnum (l : List UInt8) : List UInt8 := cutAt (cutNeg l).2
def qden (l : List UInt8) : List UInt8 := cutOn (cutNeg l).2
def qmade (l : List UInt8) : Rat := qOf (qneg l) (pval (qnum l)) (pval (qden l))
def qcode (l : List UInt8) : Int :=
 if pcode (qnum l) = 3 ∨ pcode (qden l) = 3 then 3 else if pcode (qnum l) ≠ 0 ∨ pcode (qden l) ≠ 0 then 2 else if pval (qden l) = 0 then 3 else if qtext (qmade l) ≠ l then 3 else 0
def qval (l : List UInt8) : Rat := if qcode l = 0 then qmade l else 0
theorem pval_lt {l : List UInt8} {K : Nat} (h : l.length ≤ K) : pval l < 10 ^ K := by
 have h0 : 0 < 10 ^ K := Nat.pow_pos (by decide)
 unfold pval
 split
 ·rename_i hok
  split
  ·exact h0
  ·simp only [numOk, Bool.and_eq_true] at hok
   exact Nat.lt_of_lt_of_le (dnum_lt l hok.1) (Nat.pow_le_pow_right (by decide) h)
 ·exact h0
theorem limbs_pow10 {n k : Nat} (h : n < 10 ^ k) : (limbs n).length ≤ k :=
 limbs_length_le (Nat.lt_of_lt_of_le h (Nat.pow_le_pow_left (by decide) _))
theorem cutNeg_le (l : List UInt8) : (cutNeg l).2.length ≤ l.length := by
 unfold cutNeg; split <;> simp
theorem cutAt_le (l : List UInt8) : (cutAt l).length ≤ l.length := (List.takeWhile_sublist _).length_le
theorem cutOn_le (l : List UInt8) : (cutOn l).length ≤ l.length + 1 := by
 unfold cutOn
 split
 ·have := (List.dropWhile_sublist (p := (· != 47)) (l := l)).length_le
  simp only [List.length_tail]; omega
 ·simp
theorem qnum_le (l : List UInt8) : (qnum l).length ≤ l.length := Nat.le_trans (cutAt_le _) (cutNeg_le l)
theorem qden_le (l : List UInt8) : (qden l).length ≤ l.length + 1 := Nat.le_trans (cutOn_le _) (by have := cutNeg_le l; omega)
theorem qval_lt {l : List UInt8} {K : Nat} (h : l.length + 1 ≤ K) : (qval l).num.natAbs < 10 ^ K ∧ (qval l).den < 10 ^ K := by
 have h1 := pval_lt (l := qnum l) (K := K) (by have := qnum_le l; omega)
 have h2 := pval_lt (l := qden l) (K := K) (by have := qden_le l; omega)
 have h9 : 1 < 10 ^ K := Nat.one_lt_pow (by omega) (by decide)
 unfold qval
 split
 ·rename_i h0
  have hd : 0 < pval (qden l) := by
   rcases Nat.eq_zero_or_pos (pval (qden l)) with h3 | h3
   ·exfalso
    unfold qcode at h0
    rw [if_pos h3] at h0
    split at h0
    ·omega
    ·split at h0 <;> omega
   ·exact h3
  have h4 := qOf_le (qneg l) (pval (qnum l)) hd
  exact ⟨Nat.lt_of_le_of_lt h4.1 h1, Nat.lt_of_le_of_lt h4.2 h2⟩
 ·exact ⟨by show 0 < _; omega, h9⟩
theorem QB.val {l : List UInt8} {K : Nat} (h : l.length + 1 ≤ K) : QB (qval l) K :=
 ⟨limbs_pow10 (qval_lt h).1, limbs_pow10 (qval_lt h).2⟩
end Go.Proofs.YtcpfanpcdkoiaaaGreat

namespace Go.Proofs.YtcpfanpcdkoiaaaGreat
open Go.RowKit


theorem qOf_one (s : Bool) (n : Nat) : qOf s n 1 = ((sg s n : Int) : Rat) := by
 rw [qOf_frac _ _ (by omega)]; simp; grind
def qround (q : Rat) : Rat := qOf (decide (q < 0)) ((q.num.natAbs * 2 + q.den) / (q.den * 2)) 1
theorem QB.round {q : Rat} {k : Nat} (h : QB q k) : QB (qround q) (k + 2) := by
 unfold qround
 have h1 : (limbs 2).length ≤ 1 := limbs_bound (by decide) (by omega)
 have h2 : (limbs (q.num.natAbs * 2 + q.den)).length ≤ k + 2 := limbs_add (limbs_mul h.1 h1) (Nat.le_trans h.2 (by omega))
 exact QB.of _ (Nat.le_trans (limbs_length_mono (Nat.div_le_self _ _)) h2) (limbs_bound (by decide) (by omega)) (by decide)
end Go.Proofs.YtcpfanpcdkoiaaaGreat

namespace Go.Proofs.YtcpfanpcdkoiaaaGreat


def fint (F n : Nat) : Nat := if n / 2 ^ F = 0 then n else (n % 2 ^ F + 2 ^ F) * 2 ^ (n / 2 ^ F - 1)
theorem fint_next (F n : Nat) : fint F n < fint F (n + 1) := by
 have hP : 0 < 2 ^ F := Nat.pow_pos (by decide)
 unfold fint
 have h1 := Nat.div_add_mod n (2 ^ F)
 have h2 := Nat.mod_lt n hP
 generalize n / 2 ^ F = e at *
 generalize n % 2 ^ F = m at *
 generalize 2 ^ F = P at *
 by_cases h : m + 1 < P
 ·have hd : (n + 1) / P = e := by rw [show n + 1 = P * e + (m + 1) by omega, Nat.mul_add_div hP, Nat.div_eq_of_lt h, Nat.add_zero]
  have hr : (n + 1) % P = m + 1 := by rw [show n + 1 = P * e + (m + 1) by omega, Nat.mul_add_mod, Nat.mod_eq_of_lt h]
  rw [hd, hr]
  by_cases h0 : e = 0
  ·rw [if_pos h0, if_pos h0]; omega
  ·rw [if_neg h0, if_neg h0]
   exact Nat.mul_lt_mul_of_pos_right (by omega) (Nat.pow_pos (by decide))
 ·have he : m + 1 = P := by omega
  have hn : n + 1 = P * (e + 1) := by rw [Nat.mul_succ]; omega
  have hd : (n + 1) / P = e + 1 := by rw [hn, Nat.mul_div_cancel_left _ hP]
  have hr : (n + 1) % P = 0 := by rw [hn, Nat.mul_mod_right]
  rw [hd, hr, if_neg (show ¬ e + 1 = 0 by omega)]
  by_cases h0 : e = 0
  ·subst h0
   rw [if_pos rfl]
   simp at h1 ⊢; omega
  ·rw [if_neg h0]
   obtain ⟨k, rfl⟩ : ∃ k, e = k + 1 := ⟨e - 1, by omega⟩
   simp only [Nat.add_sub_cancel, Nat.zero_add]
   rw [Nat.pow_succ, Nat.mul_comm (2 ^ k) 2, ← Nat.mul_assoc]
   exact Nat.mul_lt_mul_of_pos_right (by omega) (Nat.pow_pos (by decide))
theorem fint_mono {F a b : Nat} (h : a < b) : fint F a < fint F b := by
 induction b with
 | zero => omega
 | succ b ih =>
  rcases Nat.lt_or_ge a b with h1 | h1
  ·exact Nat.lt_trans (ih h1) (fint_next F b)
  ·have : a = b := by omega
   subst this; exact fint_next F a
theorem fint_lt {F a b : Nat} : fint F a < fint F b ↔ a < b := by
 constructor
 ·intro h
  rcases Nat.lt_or_ge a b with h1 | h1
  ·exact h1
  ·rcases Nat.lt_or_ge b a with h2 | h2
   ·have := fint_mono (F := F) h2; omega
   ·have : a = b := by omega
    subst this; omega
 ·exact fint_mono
theorem fint_zero (F : Nat) : fint F 0 = 0 := by unfold fint; simp
def tval (n : Nat) (e : Int) : Rat := if e < 0 then qOf false n (2 ^ (-e).toNat) else qOf false (n * 2 ^ e.toNat) 1
theorem scale (n d : Nat) {B : Nat} (hB : 0 < B) : qOf false (n * B) (d * B) = qOf false n d := by
 unfold qOf
 have h : sg false (n * B) = sg false n * (B : Int) := by simp [sg]
 rw [h, Rat.mkRat_mul_right (by omega)]
theorem tval_shift (n k : Nat) {c : Int} (hc : c < 0) : tval n ((k : Int) + c) = tval (n * 2 ^ k) c := by
 unfold tval
 obtain ⟨s, hs⟩ : ∃ s : Nat, -c = (s : Int) := ⟨(-c).toNat, by omega⟩
 rw [if_pos hc]
 have hs2 : (-c).toNat = s := by omega
 rw [hs2]
 by_cases h : (k : Int) + c < 0
 ·have h3 : (-((k : Int) + c)).toNat = s - k := by omega
  rw [if_pos h, h3, ← scale n (2 ^ (s - k)) (show 0 < 2 ^ k from Nat.pow_pos (by decide)), ← Nat.pow_add, show s - k + k = s by omega]
 ·have h3 : ((k : Int) + c).toNat = k - s := by omega
  rw [if_neg h, h3, ← scale (n * 2 ^ (k - s)) 1 (show 0 < 2 ^ s from Nat.pow_pos (by decide)), Nat.mul_assoc, ← Nat.pow_add, Nat.one_mul, show k - s + s = k by omega]
def places (E F : Nat) : Nat := 2 ^ (E - 1) + F - 2
def fval (E F n : Nat) : Rat := qOf false (fint F n) (2 ^ places E F)
theorem fval_is {E F n : Nat} (hE : 2 ≤ E) (hF : 1 ≤ F) : tval (n % 2 ^ F + if 0 < n / 2 ^ F then 2 ^ F else 0) ((max (n / 2 ^ F) 1 : Nat) - (2 ^ (E - 1) - 1 : Nat) - (F : Nat) : Int) = fval E F n := by
 have h2 : 2 ≤ 2 ^ (E - 1) := by
  have : 2 ^ 1 ≤ 2 ^ (E - 1) := Nat.pow_le_pow_right (by decide) (by omega)
  simpa using this
 have hP : 0 < 2 ^ F := Nat.pow_pos (by decide)
 have h1 := Nat.div_add_mod n (2 ^ F)
 generalize hne : n / 2 ^ F = e at *
 have hpl : (places E F : Nat) + 2 = 2 ^ (E - 1) + F := by unfold places; omega
 have hsum : ((max e 1 : Nat) - (2 ^ (E - 1) - 1 : Nat) - (F : Nat) : Int) = ((e - 1 : Nat) : Int) + -((places E F : Nat) : Int) := by
  generalize 2 ^ (E - 1) = B at *
  omega
 have hneg : -((places E F : Nat) : Int) < 0 := by
  generalize 2 ^ (E - 1) = B at *
  omega
 rw [hsum, tval_shift _ _ hneg]
 unfold fval tval
 rw [if_pos hneg, show (- -((places E F : Nat) : Int)).toNat = places E F by omega]
 congr 1
 unfold fint
 rw [hne]
 by_cases h0 : e = 0
 ·rw [if_pos h0, if_neg (by omega), h0]
  rw [h0] at h1
  simp at h1 ⊢; exact h1
 ·rw [if_neg h0, if_pos (by omega)]
theorem qOf_lt {a b D : Nat} (hD : 0 < D) : qOf false a D < qOf false b D ↔ a < b := by
 have hD' : (0 : Rat) < (D : Rat) := Rat.natCast_pos.2 hD
 rw [qOf_frac _ _ hD, qOf_frac _ _ hD]
 have h1 : ((sg false a : Int) : Rat) = (a : Rat) := rfl
 have h2 : ((sg false b : Int) : Rat) = (b : Rat) := rfl
 have hne : (D : Rat) ≠ 0 := fun h => by rw [h] at hD'; exact Rat.lt_irrefl hD'
 rw [h1, h2, Rat.div_lt_iff hD', Rat.div_mul_cancel hne, Rat.natCast_lt_natCast]
theorem fval_lt {E F a b : Nat} : fval E F a < fval E F b ↔ a < b := by
 unfold fval
 rw [qOf_lt (Nat.pow_pos (by decide)), fint_lt]
theorem fval_le {E F a b : Nat} : fval E F a ≤ fval E F b ↔ a ≤ b := by
 rw [← Rat.not_lt, fval_lt]; omega
theorem fval_zero (E F : Nat) : fval E F 0 = 0 := by unfold fval; rw [fint_zero, qOf_zero]
def finf (E F : Nat) : Nat := (2 ^ E - 1) * 2 ^ F
theorem finf_lt (E F : Nat) : finf E F < 2 ^ (E + F) := by
 unfold finf
 rw [Nat.pow_add]
 exact Nat.mul_lt_mul_of_pos_right (by have : 0 < 2 ^ E := Nat.pow_pos (by decide); omega) (Nat.pow_pos (by decide))
theorem finf_pos {E F : Nat} (hE : 1 ≤ E) : 0 < finf E F := by
 unfold finf
 refine Nat.mul_pos ?_ (Nat.pow_pos (by decide))
 have : 2 ^ 1 ≤ 2 ^ E := Nat.pow_le_pow_right (by decide) hE
 omega
structure Under (E F : Nat) (r : Rat) (n : Nat) : Prop where
 lt : n < finf E F
 le : fval E F n ≤ r
 up : ∀ m, n < m → m < finf E F → r < fval E F m
structure BitInv (E F : Nat) (r : Rat) (g out : Nat) : Prop where
 low : out % 2 ^ g = 0
 top : out + 2 ^ g ≤ 2 ^ (E + F)
 lt : out < finf E F
 le : fval E F out ≤ r
 up : ∀ m, out + 2 ^ g ≤ m → m < finf E F → r < fval E F m
theorem BitInv.start {E F : Nat} {r : Rat} (hE : 1 ≤ E) (hr : ¬ r < 0) : BitInv E F r (E + F) 0 :=
 ⟨Nat.zero_mod _, by omega, finf_pos hE, by rw [fval_zero]; exact Rat.not_lt.1 hr, fun m h1 h2 => by have := finf_lt E F; omega⟩
theorem BitInv.skip {E F : Nat} {r : Rat} {k out : Nat} (h : BitInv E F r (k + 1) out) (hs : finf E F ≤ out + 2 ^ k ∨ r < fval E F (out + 2 ^ k)) : BitInv E F r k out := by
 have hp : 2 ^ (k + 1) = 2 ^ k + 2 ^ k := by rw [Nat.pow_succ]; omega
 have hk0 : 0 < 2 ^ k := Nat.pow_pos (by decide)
 refine ⟨?_, by have := h.top; omega, h.lt, h.le, fun m h1 h2 => ?_⟩
 ·have h1 := h.low
  exact Nat.mod_eq_zero_of_dvd (Nat.dvd_trans (Nat.pow_dvd_pow 2 (by omega)) (Nat.dvd_of_mod_eq_zero h1))
 ·rcases hs with hs | hs
  ·omega
  ·exact Std.lt_of_lt_of_le hs (fval_le.2 h1)
theorem BitInv.take {E F : Nat} {r : Rat} {k out : Nat} (h : BitInv E F r (k + 1) out) (h1 : out + 2 ^ k < finf E F) (h2 : fval E F (out + 2 ^ k) ≤ r) : BitInv E F r k (out + 2 ^ k) := by
 have hp : 2 ^ (k + 1) = 2 ^ k + 2 ^ k := by rw [Nat.pow_succ]; omega
 have hk0 : 0 < 2 ^ k := Nat.pow_pos (by decide)
 refine ⟨?_, by have := h.top; omega, h1, h2, fun m h3 h4 => h.up m (by omega) h4⟩
 have h3 : 2 ^ k ∣ out := Nat.dvd_trans (Nat.pow_dvd_pow 2 (by omega)) (Nat.dvd_of_mod_eq_zero h.low)
 exact Nat.mod_eq_zero_of_dvd (Nat.dvd_add h3 (Nat.dvd_refl _))
theorem BitInv.done {E F : Nat} {r : Rat} {out : Nat} (h : BitInv E F r 0 out) : Under E F r out := ⟨h.lt, h.le, fun m h1 h2 => h.up m (by simp; omega) h2⟩
structure HalfInv (E F : Nat) (r : Rat) (lo hi : Nat) : Prop where
 le : lo ≤ hi
 top : hi < finf E F
 at_ : fval E F lo ≤ r
 up : ∀ m, hi < m → m < finf E F → r < fval E F m
theorem HalfInv.start {E F : Nat} {r : Rat} (hE : 1 ≤ E) (hr : ¬ r < 0) : HalfInv E F r 0 (finf E F - 1) :=
 ⟨Nat.zero_le _, by have := finf_pos (F := F) hE; omega, by rw [fval_zero]; exact Rat.not_lt.1 hr, fun m h1 h2 => by omega⟩
theorem HalfInv.up' {E F : Nat} {r : Rat} {lo hi m : Nat} (h : HalfInv E F r lo hi) (h1 : m ≤ hi) (h2 : fval E F m ≤ r) : HalfInv E F r m hi := ⟨h1, h.top, h2, h.up⟩
theorem HalfInv.down {E F : Nat} {r : Rat} {lo hi m : Nat} (h : HalfInv E F r lo hi) (h0 : lo < m) (h1 : m ≤ hi) (h2 : r < fval E F m) : HalfInv E F r lo (m - 1) :=
 ⟨by omega, by have := h.top; omega, h.at_, fun k h3 h4 => Std.lt_of_lt_of_le h2 (fval_le.2 (by omega))⟩
theorem HalfInv.done {E F : Nat} {r : Rat} {lo hi : Nat} (h : HalfInv E F r lo hi) (he : hi ≤ lo) : Under E F r lo := by
 have : lo = hi := by have := h.le; omega
 subst this
 exact ⟨h.top, h.at_, h.up⟩
theorem Under.next {E F : Nat} {r : Rat} {n : Nat} (h : Under E F r n) (hn : n + 1 < finf E F) : r < fval E F (n + 1) := h.up _ (by omega) hn
def dkind (E F b : Nat) : Int := if finf E F < b % 2 ^ (E + F) then 4 else if b % 2 ^ (E + F) = finf E F then (if b.testBit (E + F) then 3 else 2) else 1
def dval' (E F b : Nat) : Rat := if b % 2 ^ (E + F) < finf E F then (if b.testBit (E + F) then -(fval E F (b % 2 ^ (E + F))) else fval E F (b % 2 ^ (E + F))) else 0
theorem places_le {E F : Nat} (hE : E ≤ 11) (hF : F ≤ 52) : places E F ≤ 1074 := by
 unfold places
 have : 2 ^ (E - 1) ≤ 2 ^ 10 := Nat.pow_le_pow_right (by decide) (by omega)
 omega
theorem fint_le {E F n K : Nat} (hE : E ≤ 11) (hF : F ≤ 52) (hn : n < 2 ^ (E + F)) (hK : 2101 ≤ K) : fint F n < 2 ^ K := by
 have hP : 0 < 2 ^ F := Nat.pow_pos (by decide)
 have he : n / 2 ^ F < 2 ^ E := by
  rw [Nat.div_lt_iff_lt_mul hP, ← Nat.pow_add]; exact hn
 have he2 : 2 ^ E ≤ 2 ^ 11 := Nat.pow_le_pow_right (by decide) hE
 have hF2 : 2 ^ F ≤ 2 ^ 52 := Nat.pow_le_pow_right (by decide) hF
 have hm := Nat.mod_lt n hP
 have h0 : n < 2 ^ 63 := Nat.lt_of_lt_of_le hn (Nat.pow_le_pow_right (by decide) (by omega))
 unfold fint
 split
 ·exact Nat.lt_of_lt_of_le h0 (Nat.pow_le_pow_right (by decide) (by omega))
 ·have h1 : n % 2 ^ F + 2 ^ F < 2 ^ 53 := by
   have : (2 : Nat) ^ 53 = 2 ^ 52 + 2 ^ 52 := by decide
   omega
  obtain ⟨q, hq⟩ : ∃ q, q = n / 2 ^ F - 1 := ⟨_, rfl⟩
  have hq2 : 53 + q ≤ K := by omega
  rw [← hq]
  refine Nat.lt_of_lt_of_le (Nat.mul_lt_mul_of_pos_right h1 (Nat.pow_pos (by decide))) ?_
  rw [← Nat.pow_add]
  exact Nat.pow_le_pow_right (by decide) hq2
theorem limbs_bits {n k : Nat} (h : n < 2 ^ (32 * k)) : (limbs n).length ≤ k := limbs_length_le (by rw [show (4294967296 : Nat) = 2 ^ 32 by decide, ← Nat.pow_mul]; exact h)
theorem fint_limbs {E F n k : Nat} (hE : E ≤ 11) (hF : F ≤ 52) (hn : n < 2 ^ (E + F)) (hk : 66 ≤ k) : (limbs (fint F n)).length ≤ k := limbs_bits (fint_le hE hF hn (by omega))
theorem places_limbs {E F k : Nat} (hE : E ≤ 11) (hF : F ≤ 52) (hk : 66 ≤ k) : (limbs (2 ^ places E F)).length ≤ k :=
 limbs_bits (Nat.pow_lt_pow_right (by decide) (by have := places_le hE hF; omega))
theorem QB.fval {E F n k : Nat} (hE : E ≤ 11) (hF : F ≤ 52) (hn : n < 2 ^ (E + F)) (hk : 66 ≤ k) : QB (fval E F n) k := by
 unfold Go.Proofs.YtcpfanpcdkoiaaaGreat.fval
 exact QB.of _ (fint_limbs hE hF hn hk) (places_limbs hE hF hk) (Nat.pow_pos (by decide))
end Go.Proofs.YtcpfanpcdkoiaaaGreat

namespace Go.Proofs.YtcpfanpcdkoiaaaGreat
open Go.RowKit


structure EN where
 tree : Int
 node : Int
 feat : Int
 mode : Int
 val : Nat
 tru : Int
 fls : Int
 trk : Bool
 deriving DecidableEq
structure EL where
 tree : Int
 node : Int
 tgt : Int
 wt : Nat
 deriving DecidableEq
structure EE where
 feats : Int
 tgts : Int
 agg : List UInt8
 post : List UInt8
 base : List Nat
 nodes : List EN
 leaves : List EL
 deriving DecidableEq
instance : Inhabited EN := ⟨⟨0, 0, 0, 0, 0, 0, 0, false⟩⟩
instance : Inhabited EL := ⟨⟨0, 0, 0, 0⟩⟩
def insT (x : Int) : List Int → List Int
 | [] => [x]
 | y :: r => if y < x then y :: insT x r else if y = x then y :: r else x :: y :: r
def setT (l : List Int) : List Int := l.foldl (fun a x => insT x a) []
def treesE (ns : List EN) : List Int := setT (ns.map (·.tree))
theorem insT_mem (x : Int) : ∀ (l : List Int) (y : Int), y ∈ insT x l ↔ y = x ∨ y ∈ l
 | [], y => by simp [insT]
 | z :: r, y => by
  unfold insT
  split
  ·rw [List.mem_cons, insT_mem x r y, List.mem_cons]
   constructor
   ·rintro (h | h | h) <;> simp [h]
   ·rintro (h | h | h) <;> simp [h]
  ·split
   ·rename_i h1 h2
    subst h2
    simp only [List.mem_cons]
    constructor
    ·rintro (h | h) <;> simp [h]
    ·rintro (h | h | h) <;> simp [h]
   ·simp only [List.mem_cons]
theorem insT_sorted (x : Int) : ∀ (l : List Int), l.Pairwise (· < ·) → (insT x l).Pairwise (· < ·)
 | [], _ => by simp [insT]
 | z :: r, h => by
  rw [List.pairwise_cons] at h
  unfold insT
  split
  ·rename_i h1
   rw [List.pairwise_cons]
   refine ⟨fun a ha => ?_, insT_sorted x r h.2⟩
   rcases (insT_mem x r a).1 ha with rfl | ha
   ·exact h1
   ·exact h.1 a ha
  ·split
   ·rw [List.pairwise_cons]; exact h
   ·rename_i h1 h2
    rw [List.pairwise_cons, List.pairwise_cons]
    refine ⟨fun a ha => ?_, h⟩
    rcases List.mem_cons.1 ha with rfl | ha
    ·omega
    ·have := h.1 a ha; omega
theorem setT_go : ∀ (l a : List Int), a.Pairwise (· < ·) → (l.foldl (fun a x => insT x a) a).Pairwise (· < ·) ∧ ∀ y, y ∈ l.foldl (fun a x => insT x a) a ↔ y ∈ l ∨ y ∈ a
 | [], a, h => ⟨h, fun y => by simp⟩
 | x :: r, a, h => by
  obtain ⟨h1, h2⟩ := setT_go r (insT x a) (insT_sorted x a h)
  refine ⟨h1, fun y => ?_⟩
  rw [List.foldl_cons, h2 y, insT_mem, List.mem_cons]
  constructor
  ·rintro (h | h | h) <;> simp [h]
  ·rintro ((h | h) | h) <;> simp [h]
theorem setT_sorted (l : List Int) : (setT l).Pairwise (· < ·) := (setT_go l [] List.Pairwise.nil).1
theorem setT_mem (l : List Int) (y : Int) : y ∈ setT l ↔ y ∈ l := by
 have := (setT_go l [] List.Pairwise.nil).2 y
 simpa [setT] using this
theorem rising_eq : ∀ (a b : List Int), a.Pairwise (· < ·) → b.Pairwise (· < ·) → (∀ y, y ∈ a ↔ y ∈ b) → a = b
 | [], [], _, _, _ => rfl
 | [], y :: b, _, _, h => absurd ((h y).2 (by simp)) (by simp)
 | x :: a, [], _, _, h => absurd ((h x).1 (by simp)) (by simp)
 | x :: a, y :: b, ha, hb, h => by
  rw [List.pairwise_cons] at ha hb
  have e : x = y := by
   rcases List.mem_cons.1 ((h x).1 (by simp)) with h1 | h1
   ·exact h1
   ·rcases List.mem_cons.1 ((h y).2 (by simp)) with h2 | h2
    ·exact h2.symm
    ·have := hb.1 x h1; have := ha.1 y h2; omega
  subst e
  rw [rising_eq a b ha.2 hb.2 (fun z => ?_)]
  constructor
  ·intro hz
   rcases List.mem_cons.1 ((h z).1 (List.mem_cons_of_mem _ hz)) with rfl | h1
   ·exact absurd (ha.1 z hz) (by omega)
   ·exact h1
  ·intro hz
   rcases List.mem_cons.1 ((h z).2 (List.mem_cons_of_mem _ hz)) with rfl | h1
   ·exact absurd (hb.1 z hz) (by omega)
   ·exact h1
theorem compact_go (d : Array Int) (hs : ∀ i j, i ≤ j → j < d.size → d[i]! ≤ d[j]!) : ∀ m, m ≤ d.size →
  (Go.Lib.compactUpTo d m).Pairwise (· < ·) ∧ (∀ y, y ∈ Go.Lib.compactUpTo d m ↔ ∃ i, i < m ∧ d[i]! = y)
 | 0, _ => by
  have : Go.Lib.compactUpTo d 0 = [] := by simp [Go.Lib.compactUpTo]
  rw [this]
  exact ⟨List.Pairwise.nil, fun y => by simp⟩
 | m + 1, hm => by
  obtain ⟨h1, h2⟩ := compact_go d hs m (by omega)
  rw [Go.Lib.compactUpTo_succ]
  by_cases hk : Go.Lib.keeps d m = true
  ·rw [if_pos hk]
   have hk' : m = 0 ∨ d[m]! ≠ d[m - 1]! := by simpa [Go.Lib.keeps] using hk
   refine ⟨List.pairwise_append.2 ⟨h1, by simp, fun a ha b hb => ?_⟩, fun y => ?_⟩
   ·obtain ⟨i, hi, rfl⟩ := (h2 a).1 ha
    simp only [List.mem_singleton] at hb
    subst hb
    rcases hk' with h0 | h0
    ·omega
    ·have := hs i (m - 1) (by omega) (by omega)
     have := hs (m - 1) m (by omega) (by omega)
     omega
   ·rw [List.mem_append, h2 y, List.mem_singleton]
    constructor
    ·rintro (⟨i, hi, h⟩ | rfl)
     ·exact ⟨i, by omega, h⟩
     ·exact ⟨m, by omega, rfl⟩
    ·rintro ⟨i, hi, h⟩
     by_cases e : i = m
     ·subst e; exact .inr h.symm
     ·exact .inl ⟨i, by omega, h⟩
  ·rw [if_neg hk, List.append_nil]
   have hk' : m ≠ 0 ∧ d[m]! = d[m - 1]! := by simpa [Go.Lib.keeps] using hk
   refine ⟨h1, fun y => ?_⟩
   rw [h2 y]
   constructor
   ·rintro ⟨i, hi, h⟩; exact ⟨i, by omega, h⟩
   ·rintro ⟨i, hi, h⟩
    by_cases e : i = m
    ·subst e; exact ⟨i - 1, by omega, by rw [← h, hk'.2]⟩
    ·exact ⟨i, by omega, h⟩
theorem sort_compact (l : List Int) : Go.Lib.compact (l.mergeSort fun x y => decide (x ≤ y)) = setT l := by
 have hp := List.pairwise_mergeSort (le := fun (x y : Int) => decide (x ≤ y)) (by simp; omega) (by simp; omega) l
 have hm : ∀ y, y ∈ l.mergeSort (fun x y => decide (x ≤ y)) ↔ y ∈ l := fun y => List.mem_mergeSort
 generalize l.mergeSort (fun x y => decide (x ≤ y)) = s at hp hm
 have hs : ∀ i j, i ≤ j → j < s.toArray.size → s.toArray[i]! ≤ s.toArray[j]! := by
  intro i j hij hj
  simp only [List.size_toArray] at hj
  by_cases e : i = j
  ·subst e; exact Int.le_refl _
  ·have := List.pairwise_iff_getElem.1 hp i j (by omega) hj (by omega)
   simpa [getElem!_pos, hj, show i < s.length by omega] using this
 obtain ⟨h1, h2⟩ := compact_go s.toArray hs s.length (by simp)
 refine rising_eq _ _ h1 (setT_sorted l) (fun y => ?_)
 unfold Go.Lib.compact
 rw [h2 y, setT_mem, ← hm y]
 constructor
 ·rintro ⟨i, hi, rfl⟩
  simp [getElem!_pos, hi]
 ·intro hy
  obtain ⟨i, hi, rfl⟩ := List.mem_iff_getElem.1 hy
  exact ⟨i, hi, by simp [getElem!_pos, hi]⟩
def findE (ns : List EN) (t n : Int) : Option Nat := ns.findIdx? (fun y => decide (y.tree = t) && decide (y.node = n))
theorem findE_lt {ns : List EN} {t n : Int} {k : Nat} (h : findE ns t n = some k) : k < ns.length := by
 have := List.findIdx?_eq_some_iff_getElem.1 h
 exact this.1
theorem findE_at {ns : List EN} {t n : Int} {k : Nat} (h : findE ns t n = some k) (hk : k < ns.length) : ns[k].tree = t ∧ ns[k].node = n := by
 have := (List.findIdx?_eq_some_iff_getElem.1 h).2.1
 simpa using this
def kidsE (ns : List EN) (n : EN) : List Nat := if n.mode = 7 then [] else ((findE ns n.tree n.tru).toList ++ (findE ns n.tree n.fls).toList)
def behindE (ns : List EN) (t x : Int) : Bool := ns.any (fun m => decide (m.tree = t) && (decide (m.mode ≠ 7) && (decide (m.tru = x) || decide (m.fls = x))))
def rootE (ns : List EN) (t : Int) : Option Nat := ns.findIdx? (fun n => decide (n.tree = t) && !behindE ns t n.node)
def weightsE (ls : List EL) (t n g : Int) : List Nat := (ls.filter (fun l => decide (l.tree = t) && (decide (l.node = n) && decide (l.tgt = g)))).map (·.wt)
def finP (p : Nat) : Bool := decide (p < 4294967296) && decide (dkind 8 23 p = 1)
def sizeE (e : EE) : Bool := decide (0 ≤ e.feats) && (decide (e.feats ≤ 40) && (decide (1 ≤ e.tgts) && (decide (e.tgts ≤ 20) && (decide (1 ≤ e.nodes.length) && (decide (e.nodes.length ≤ 2000) && (decide (e.leaves.length ≤ 2000) && decide ((treesE e.nodes).length ≤ 100)))))))
def baseE (e : EE) : Bool := (decide (e.base.length = 0) || decide ((e.base.length : Int) = e.tgts)) && e.base.all finP
def numsE (ns : List EN) : Bool := (List.range ns.length).all (fun k => let n := ns[k]!; decide (0 ≤ n.tree) && (decide (0 ≤ n.node) && decide ((findE ns n.tree n.node).getD 0 = k)))
def everyE (ns : List EN) (all : Bool) (p : EN → Bool) : Bool := !ns.any (fun n => (all || decide (n.mode ≠ 7)) && !p n)
def kidE (ns : List EN) : Bool := everyE ns false (fun n => (findE ns n.tree n.tru).isSome && ((findE ns n.tree n.fls).isSome && decide (n.tru ≠ n.fls)))
def upK (k : Nat) : List Nat → List Int → Option (List Int)
 | [], up => some up
 | a :: r, up => if up[a]?.getD 0 ≠ -1 then none else upK k r (up.set a (k : Int))
def upL (ns : List EN) : List Nat → List Int → Option (List Int)
 | [], up => some up
 | k :: r, up => (upK k (kidsE ns ns[k]!) up).bind (upL ns r)
def upE (ns : List EN) : Option (List Int) := upL ns (List.range ns.length) (List.replicate ns.length (-1))
def okE (up : List Int) : Nat → Int → Bool
 | 0, at' => decide (at' = -1)
 | f + 1, at' => decide (at' = -1) || okE up f (up[at'.toNat]?.getD (-1))
def rootsE (ns : List EN) (up : List Int) (t : Int) : Nat := ((List.range ns.length).filter (fun k => decide (ns[k]!.tree = t) && decide (up[k]?.getD 0 = -1))).length
def singleE (ns : List EN) (up : List Int) : Bool := (treesE ns).all (fun t => decide (rootsE ns up t = 1))
def forestE (ns : List EN) : Bool :=
 match upE ns with
 | none => false
 | some up => (List.range ns.length).all (fun k => okE up 39 (up[k]?.getD 0)) && (decide ((up.filter (fun x => decide (x = -1))).length = (treesE ns).length) && singleE ns up)
def leafE (e : EE) : Bool := !e.leaves.any (fun l => match findE e.nodes l.tree l.node with | none => true | some k => decide (e.nodes[k]!.mode ≠ 7) || (decide (l.tgt < 0) || decide (e.tgts ≤ l.tgt)))
def aggW : List (List UInt8) := [[83, 85, 77], [65, 86, 69, 82, 65, 71, 69], [77, 73, 78], [77, 65, 88]]
def postW : List (List UInt8) := [[78, 79, 78, 69], [83, 79, 70, 84, 77, 65, 88], [76, 79, 71, 73, 83, 84, 73, 67], [83, 79, 70, 84, 77, 65, 88, 95, 90, 69, 82, 79], [80, 82, 79, 66, 73, 84]]
def checkE (e : EE) : Nat :=
 if sizeE e = false then 1 else
 if e.agg ∉ aggW then 2 else
 if e.post ∉ postW then 3 else
 if baseE e = false then 4 else
 if numsE e.nodes = false then 5 else
 if everyE e.nodes true (fun n => decide (1 ≤ n.mode ∧ n.mode ≤ 7)) = false then 6 else
 if everyE e.nodes false (fun n => decide (0 ≤ n.feat ∧ n.feat < e.feats)) = false then 7 else
 if everyE e.nodes false (fun n => finP n.val) = false ∨ everyE e.nodes true (fun n => decide (n.val < 4294967296)) = false then 8 else
 if kidE e.nodes = false then 9 else
 if forestE e.nodes = false then 10 else
 if leafE e = false then 11 else
 if e.leaves.any (fun l => !finP l.wt) = true then 12 else 0
def wordE : Nat → List UInt8
 | 1 => [115, 105, 122, 101]
 | 2 => [97, 103, 103, 114, 101, 103, 97, 116, 101]
 | 3 => [112, 111, 115, 116]
 | 4 => [98, 97, 115, 101]
 | 5 => [110, 117, 109, 98, 101, 114]
 | 6 => [109, 111, 100, 101]
 | 7 => [102, 101, 97, 116, 117, 114, 101]
 | 8 => [118, 97, 108, 117, 101]
 | 9 => [107, 105, 100]
 | 10 => [102, 111, 114, 101, 115, 116]
 | 11 => [108, 101, 97, 102]
 | 12 => [119, 101, 105, 103, 104, 116]
 | _ => []
def modeW : List (List UInt8) := [[66, 82, 65, 78, 67, 72, 95, 76, 69, 81], [66, 82, 65, 78, 67, 72, 95, 76, 84], [66, 82, 65, 78, 67, 72, 95, 71, 84, 69], [66, 82, 65, 78, 67, 72, 95, 71, 84], [66, 82, 65, 78, 67, 72, 95, 69, 81], [66, 82, 65, 78, 67, 72, 95, 78, 69, 81], [76, 69, 65, 70]]
def modeName (m : Int) : List UInt8 := if m < 1 ∨ 7 < m then [] else modeW[(m - 1).toNat]?.getD []
end Go.Proofs.YtcpfanpcdkoiaaaGreat
