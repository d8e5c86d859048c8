/-
  Pc07: ComN MathQ MathR MathS MathT MathI MathO (what is needed of them).
-/
import Derived.Test.YtieffhkfefimeaaGreatDoorPc01
import Derived.Test.YtieffhkfefimeaaGreatDoorPc05
import Derived.Test.YtieffhkfefimeaaGreatDoorPc06
import Derived.WalkKit
import Derived.Lib.RowBridge
import Derived.Lib.SlBy
set_option maxRecDepth 100000
set_option linter.unusedVariables false
set_option linter.unusedSimpArgs false

namespace Go.Proofs.YtieffhkfefimeaaGreatDoor
open Go.RowKit Go.Shelf


attribute [local go_sem] Oper.semAt_some
attribute [local go_sem] field_nat
def KeepNat (W W' : World) : Prop := ∀ v n, NatIs W v n → NatIs W' v n
theorem KeepNat.trans {A C D : World} (h : KeepNat A C) (h' : KeepNat C D) : KeepNat A D := fun v n hn => h' v n (h v n hn)
theorem KeepNat.of_cells {A C : World} (hs : A.heap.size ≤ C.heap.size) (h : ∀ p n, A.cell? p = some (.int .u32 n) → C.cell? p = some (.int .u32 n)) : KeepNat A C := by
 rintro v n ⟨sv, rfl, ao, cap, h1, h2, h3, h4, h5⟩
 refine ⟨sv, rfl, ao, cap, h1, h2, h3, h4, ?_⟩
 rcases h5 with h5 | ⟨b, off, h6, h7, h8⟩
 ·exact .inl h5
 ·refine .inr ⟨b, off, h6, Nat.lt_of_lt_of_le h7 hs, fun i hi => ?_⟩
  exact h _ _ (h8 i hi)
theorem KeepNat.below {A C : World} (h : Below A.heap.size A C) : KeepNat A C := fun v n hn => hn.below h
theorem Ext.block {B : Nat} {A C : World} (h : Ext B A C) {p : Addr} {v : Value} (hp : A.cell? p = some v) : C.heap[p.block]? = A.heap[p.block]? := by
 unfold World.cell? at hp
 split at hp
 ·rename_i hb
  rw [hb]; exact h.cells _ _ hb rfl
 ·cases hp
theorem Ext.cell {B : Nat} {A C : World} (h : Ext B A C) {p : Addr} {v : Value} (hp : A.cell? p = some v) : C.cell? p = some v :=
 (World.cell?_of_block (h.block hp)).trans hp
theorem KeepNat.ext {B : Nat} {A C : World} (h : Ext B A C) : KeepNat A C := KeepNat.of_cells h.size fun p n hp => h.cell hp
theorem Box.ext {B : Nat} {A C : World} {b : Nat} {v : Value} (hx : Box A b v) (h : Ext B A C) : Box C b v :=
 ⟨h.cell hx.cell, (World.frozen?_of_block (h.block hx.cell)).trans hx.free, Nat.lt_of_lt_of_le hx.lt h.size⟩
theorem below_ext {B D : Nat} {w W W' : World} (h : Below B w W) (hx : Ext D W W') (hD : B ≤ D) (hBw : B ≤ W.heap.size) : Below B w W' :=
 ⟨hx.os.trans h.os, hx.tape.trans h.tape, hx.output.trans h.output, Nat.le_trans h.size hx.size, fun k hk => (hx.low k (by omega) (by omega)).trans (h.block k hk)⟩
theorem Iter.mono {α : Type} {P : Program} {gf : Nat} {lb : Array Value} {Enc : World → Value → α → Prop} {xs : List α} {B : Nat} {Kp : World → World → Prop} {w w' : World} (h : Iter P gf lb Enc xs B Kp w) (hb : Below w.heap.size w w') :
  Iter P gf lb Enc xs B Kp w' := fun l J Jx S0 W1 hW => h l J Jx S0 W1 (hb.trans (hW.mono hb.size))
theorem RowAll.block {p : Value → Prop} {W W' : World} {v : Value} (h : RowAll p W v) (hb : ∀ g, v.ownBlock = some g → W'.heap[g]? = W.heap[g]?) : RowAll p W' v :=
 fun g hg j c hc => h g hg j c ((World.cell?_of_block (a := ⟨g, j, none⟩) (hb g hg)).symm.trans hc)
theorem ext_deferred {W : World} {D : Nat} (hD : W.heap[D]? = some (.deferred (some []))) : Ext D W (W.putObj D (.deferred none)) := Ext.put (Nat.le_refl _) hD rfl
theorem str_dec {l : List UInt8} (h : numOk l = true) : str (dec (dnum l)) = l := dec_dnum l h
theorem cons_bytes (c : UInt8) (l : List UInt8) : (⟨#[c]⟩ ++ ⟨l.toArray⟩ : ByteArray) = ⟨(c :: l).toArray⟩ := by
 apply ByteArray.ext
 simp
theorem str_dec_one : str (dec 1) = [49] := str_dec (l := [49]) (by decide)
theorem limbs_mul {a b m n : Nat} (ha : (limbs a).length ≤ m) (hb : (limbs b).length ≤ n) : (limbs (a * b)).length ≤ m + n := by
 have h1 := lt_pow_limbs a
 have h2 := lt_pow_limbs b
 refine Nat.le_trans (limbs_length_le (k := (limbs a).length + (limbs b).length) ?_) (by omega)
 rw [Nat.pow_add]
 rcases Nat.eq_zero_or_pos b with h0 | h0
 ·subst h0; rw [Nat.mul_zero]; exact Nat.mul_pos (Nat.pow_pos (by decide)) (Nat.pow_pos (by decide))
 ·exact Nat.lt_of_lt_of_le (Nat.mul_lt_mul_of_pos_right h1 h0) (Nat.mul_le_mul_left _ (Nat.le_of_lt h2))
theorem limbs_add {a b m : Nat} (ha : (limbs a).length ≤ m) (hb : (limbs b).length ≤ m) : (limbs (a + b)).length ≤ m + 1 := by
 have h1 : a < 4294967296 ^ m := Nat.lt_of_lt_of_le (lt_pow_limbs a) (Nat.pow_le_pow_right (by decide) ha)
 have h2 : b < 4294967296 ^ m := Nat.lt_of_lt_of_le (lt_pow_limbs b) (Nat.pow_le_pow_right (by decide) hb)
 refine limbs_length_le ?_
 rw [Nat.pow_succ]
 omega
def NotI (c : Value) : Prop := ∀ k n, c ≠ .int k n
structure KeepI (W W' : World) : Prop where
 size : W.heap.size ≤ W'.heap.size
 cell : ∀ k p n, W.cell? p = some (.int k n) → W'.cell? p = some (.int k n)
theorem Cells.keepI {k : IntKind} {w w' : World} {ao : Option Addr} {xs : List Nat} (h : Cells k w ao xs) (hk : KeepI w w') : Cells k w' ao xs := by
 rcases h with h | ⟨b, off, h1, h2, h3⟩
 ·exact .inl h
 ·exact .inr ⟨b, off, h1, Nat.lt_of_lt_of_le h2 hk.size, fun i hi => hk.cell _ _ _ (h3 i hi)⟩
theorem NatIs.keepI {w w' : World} {v : Value} {n : Nat} (h : NatIs w v n) (hk : KeepI w w') : NatIs w' v n := by
 obtain ⟨sv, h0, ao, cap, h1, h2, h3, h4, h5⟩ := h
 exact ⟨sv, h0, ao, cap, h1, h2, h3, h4, h5.keepI hk⟩
theorem KeepI.grown {W w1 : World} {v : Value} (hg : W.grownBy w1 v.ownBlock) (ha : RowAll NotI W v) : KeepI W w1 := by
 refine ⟨hg.size, fun k p n hp => ?_⟩
 refine hg.cell hp ?_
 intro e
 obtain ⟨blk, off, spot⟩ := p
 have : spot = none := by
  unfold World.cell? at hp
  split at hp
  ·cases spot with
   | none => rfl
   | some x => simp at hp
  ·cases hp
 subst this
 exact ha blk e.symm off _ hp k n rfl
def Strs (w : World) (v : Value) (ls : List (List UInt8)) : Prop :=
 ∃ ao cap, v = .slice ao ls.length cap ∧ ls.length ≤ cap ∧ cap ≤ maxLen ∧ (ls = [] ∨ ∃ b off, ao = some ⟨b, off, none⟩ ∧ b < w.heap.size ∧ ∀ i, i < ls.length → w.cell? ⟨b, off + i, none⟩ = some (.string ⟨(ls[i]?.getD []).toArray⟩))
theorem Strs.below {w w' : World} {v : Value} {ls : List (List UInt8)} (h : Strs w v ls) (hb : Below w.heap.size w w') : Strs w' v ls := by
 obtain ⟨ao, cap, h1, h2, h3, h4⟩ := h
 refine ⟨ao, cap, h1, h2, h3, ?_⟩
 rcases h4 with h4 | ⟨b, off, h5, h6, h7⟩
 ·exact .inl h4
 ·exact .inr ⟨b, off, h5, Nat.lt_of_lt_of_le h6 hb.size, fun i hi => (hb.cell (p := ⟨b, off + i, none⟩) h6).trans (h7 i hi)⟩
end Go.Proofs.YtieffhkfefimeaaGreatDoor

namespace Go.Proofs.YtieffhkfefimeaaGreatDoor


def sg (neg : Bool) (n : Nat) : Int := if neg then -(n : Int) else n
theorem sg_natAbs (neg : Bool) (n : Nat) : (sg neg n).natAbs = n := by cases neg <;> simp [sg]
def qOf (neg : Bool) (n d : Nat) : Rat := mkRat (sg neg n) d
theorem qOf_num {neg : Bool} {n d : Nat} (hd : 0 < d) : (qOf neg n d).num = sg neg (n / Nat.gcd n d) := by
 have hd' : d ≠ 0 := by omega
 unfold qOf
 rw [Rat.mkRat_def, dif_neg hd', Rat.normalize_eq]
 simp only [sg_natAbs]
 cases neg
 ·simp [sg]
 ·simp only [sg, if_true]
  rw [Int.neg_ediv_of_dvd (Int.natCast_dvd_natCast.2 (Nat.gcd_dvd_left _ _))]
  simp
theorem qOf_den {neg : Bool} {n d : Nat} (hd : 0 < d) : (qOf neg n d).den = d / Nat.gcd n d := by
 have hd' : d ≠ 0 := by omega
 unfold qOf
 rw [Rat.mkRat_def, dif_neg hd', Rat.normalize_eq]
 simp only [sg_natAbs]
theorem qOf_zero (neg : Bool) (d : Nat) : qOf neg 0 d = 0 := by
 unfold qOf
 have : sg neg 0 = 0 := by cases neg <;> rfl
 rw [this, Rat.zero_mkRat]
theorem q_neg (q : Rat) : q < 0 ↔ q.num < 0 := by rw [Rat.lt_iff]; simp
theorem qOf_self (q : Rat) : qOf (decide (q < 0)) q.num.natAbs q.den = q := by
 have h : sg (decide (q < 0)) q.num.natAbs = q.num := by
  unfold sg
  by_cases h : q < 0
  ·have := (q_neg q).1 h
   simp only [h, decide_true, if_true]; omega
  ·have h1 : ¬ q.num < 0 := fun h2 => h ((q_neg q).2 h2)
   simp only [h, decide_false]
   simp; omega
 unfold qOf
 rw [h, Rat.mkRat_self]
theorem qOf_neg {neg : Bool} {n d : Nat} (hn : 0 < n) (hd : 0 < d) : decide (qOf neg n d < 0) = neg := by
 have hg : 0 < n / Nat.gcd n d := Nat.div_pos (Nat.gcd_le_left _ hn) (Nat.gcd_pos_of_pos_left _ hn)
 have h := q_neg (qOf neg n d)
 rw [qOf_num hd] at h
 cases neg
 ·rw [decide_eq_false_iff_not, h]; simp [sg]; omega
 ·rw [decide_eq_true_iff, h]; simp only [sg, if_true]; omega
theorem qOf_eq_zero {neg : Bool} {n d : Nat} (hn : 0 < n) (hd : 0 < d) : qOf neg n d ≠ 0 := by
 intro h
 have hg : 0 < n / Nat.gcd n d := Nat.div_pos (Nat.gcd_le_left _ hn) (Nat.gcd_pos_of_pos_left _ hn)
 have h1 := qOf_num (neg := neg) (n := n) hd
 rw [h] at h1
 have h2 := congrArg Int.natAbs h1
 rw [sg_natAbs] at h2
 simp at h2
 omega
/-! What is reckoned of signs, numerators and denominators is what is reckoned of the fractions. -/
theorem qOf_frac (neg : Bool) (n : Nat) {d : Nat} (hd : 0 < d) : qOf neg n d = (sg neg n : Rat) / (d : Rat) := by
 unfold qOf
 rw [Rat.mkRat_eq_div]
theorem q_frac (q : Rat) : q = (q.num : Rat) / (q.den : Rat) := by
 have := Rat.mkRat_self q
 rw [Rat.mkRat_eq_div] at this
 exact this.symm
theorem q_num_sg (q : Rat) : q.num = sg (decide (q < 0)) q.num.natAbs := by
 have := congrArg Rat.num (qOf_self q)
 have h : sg (decide (q < 0)) q.num.natAbs = q.num := by
  unfold sg
  by_cases h : q < 0
  ·have := (q_neg q).1 h
   simp only [h, decide_true, if_true]; omega
  ·have h1 : ¬ q.num < 0 := fun h2 => h ((q_neg q).2 h2)
   simp only [h, decide_false]
   simp; omega
 exact h.symm
theorem q_add_eq (a b : Rat) : a + b = mkRat (a.num * b.den + b.num * a.den) (a.den * b.den) := by
 rw [Rat.add_def, Rat.mkRat_def, dif_neg (Nat.ne_of_gt (Nat.mul_pos a.den_pos b.den_pos))]
theorem qadd_same {a b : Rat} {s : Bool} (ha : decide (a < 0) = s) (hb : decide (b < 0) = s) : qOf s (a.num.natAbs * b.den + b.num.natAbs * a.den) (a.den * b.den) = a + b := by
 have h1 := q_num_sg a
 have h2 := q_num_sg b
 rw [ha] at h1
 rw [hb] at h2
 rw [q_add_eq]
 unfold qOf
 congr 1
 generalize a.num.natAbs = n at *
 generalize b.num.natAbs = m at *
 rw [h1, h2]
 cases s
 ·simp [sg]
 ·simp [sg]; grind
theorem qadd_more {a b : Rat} (hab : decide (a < 0) ≠ decide (b < 0)) (hge : b.num.natAbs * a.den ≤ a.num.natAbs * b.den) : qOf (decide (a < 0)) (a.num.natAbs * b.den - b.num.natAbs * a.den) (a.den * b.den) = a + b := by
 have h1 := q_num_sg a
 have h2 := q_num_sg b
 rw [q_add_eq]
 unfold qOf
 congr 1
 generalize a.num.natAbs = n at *
 generalize b.num.natAbs = m at *
 generalize decide (a < 0) = s at *
 generalize decide (b < 0) = t at *
 rw [h1, h2]
 have h3 : ((n * b.den - m * a.den : Nat) : Int) = (n : Int) * b.den - (m : Int) * a.den := by
  rw [Int.natCast_sub hge, Int.natCast_mul, Int.natCast_mul]
 cases s <;> cases t <;> simp [sg, h3] at * <;> grind
theorem qsub_is (a b : Rat) : a - b = a + -b := Rat.sub_eq_add_neg a b
theorem qneg_num (a : Rat) : (-a).num.natAbs = a.num.natAbs ∧ (-a).den = a.den := by
 simp
theorem qneg_sign (a : Rat) : decide (-a < 0) = (!decide (a < 0) && !decide (a.num.natAbs = 0)) := by
 have h1 := q_neg a
 have h2 := q_neg (-a)
 have h3 : (-a).num = -a.num := by simp
 rw [h3] at h2
 by_cases ha : a.num < 0
 ·rw [decide_eq_true (h1.2 ha), decide_eq_false (fun h => by have := h2.1 h; omega)]; rfl
 ·rw [decide_eq_false (fun h => ha (h1.1 h))]
  by_cases h0 : a.num = 0
  ·rw [decide_eq_false (fun h => by have := h2.1 h; omega), decide_eq_true (by omega)]; rfl
  ·rw [decide_eq_true (h2.2 (by omega)), decide_eq_false (by omega)]; rfl
theorem qdiv_is {a b : Rat} (hb : b ≠ 0) : qOf (decide (a < 0) != decide (b < 0)) (a.num.natAbs * b.den) (a.den * b.num.natAbs) = a / b := by
 have h1 := q_num_sg a
 have h2 := q_num_sg b
 have hbn : 0 < b.num.natAbs := by
  rcases Nat.eq_zero_or_pos b.num.natAbs with h | h
  ·exact (hb (Rat.num_eq_zero.1 (by omega))).elim
  ·exact h
 have e1 := q_frac a
 have e2 := q_frac b
 have p1 := a.den_pos
 have p2 := b.den_pos
 rw [qOf_frac _ _ (Nat.mul_pos p1 hbn)]
 generalize a.num.natAbs = n at *
 generalize b.num.natAbs = m at *
 generalize a.den = ad at *
 generalize b.den = bd at *
 generalize decide (a < 0) = s at *
 generalize decide (b < 0) = t at *
 rw [h1] at e1
 rw [h2] at e2
 clear h1 h2 hb
 subst e1 e2
 have k1 : (ad : Rat) ≠ 0 := by
  intro h; have := Rat.natCast_eq_zero_iff.1 h; omega
 have k2 : (bd : Rat) ≠ 0 := by
  intro h; have := Rat.natCast_eq_zero_iff.1 h; omega
 have k3 : (m : Rat) ≠ 0 := by
  intro h; have := Rat.natCast_eq_zero_iff.1 h; omega
 have hc : ∀ k : Nat, ((k : Int) : Rat) = (k : Rat) := fun k => rfl
 have hn1 : ∀ k : Nat, ((-(k : Int) : Int) : Rat) = -(k : Rat) := fun k => by rw [Rat.intCast_neg, hc]
 have hm1 : ∀ k l : Nat, ((k * l : Nat) : Rat) = (k : Rat) * (l : Rat) := fun k l => Rat.natCast_mul k l
 cases s <;> cases t <;> simp only [sg, Bool.bne_true, Bool.bne_false, Bool.not_true, Bool.not_false, if_true, Bool.false_eq_true, if_false, hc, hn1, hm1] <;> grind
def qcmp (a b : Rat) : Int := if a < b then -1 else if b < a then 1 else 0
theorem qlt_iff (a b : Rat) : a < b ↔ sg (decide (a < 0)) a.num.natAbs * b.den < sg (decide (b < 0)) b.num.natAbs * a.den := by
 rw [Rat.lt_iff]
 conv => lhs; rw [q_num_sg a, q_num_sg b]
theorem qlt_pp {a b : Rat} (ha : decide (a < 0) = false) (hb : decide (b < 0) = false) : a < b ↔ a.num.natAbs * b.den < b.num.natAbs * a.den := by
 rw [qlt_iff, ha, hb]
 simp only [sg, Bool.false_eq_true, if_false]
 rw [← Int.natCast_mul, ← Int.natCast_mul]
 omega
theorem qlt_nn {a b : Rat} (ha : decide (a < 0) = true) (hb : decide (b < 0) = true) : a < b ↔ b.num.natAbs * a.den < a.num.natAbs * b.den := by
 rw [qlt_iff, ha, hb]
 simp only [sg, if_true]
 rw [Int.neg_mul, Int.neg_mul, ← Int.natCast_mul, ← Int.natCast_mul]
 omega
theorem qlt_np {a b : Rat} (ha : decide (a < 0) = true) (hb : decide (b < 0) = false) : a < b := by
 have h1 : a < 0 := of_decide_eq_true ha
 have h2 : ¬ b < 0 := of_decide_eq_false hb
 exact Std.lt_of_lt_of_le h1 (Rat.not_lt.1 h2)
end Go.Proofs.YtieffhkfefimeaaGreatDoor

namespace Go.Proofs.YtieffhkfefimeaaGreatDoor
open Go.RowKit


theorem rlimbs_of_limbs {n k : Nat} (h : (limbs n).length ≤ k) : (rlimbs n).length ≤ 3 * k := by
 have h1 := lt_pow_limbs n
 refine rlimbs_length_le (Nat.lt_of_lt_of_le h1 ?_)
 rw [Nat.pow_mul]
 exact Nat.le_trans (Nat.pow_le_pow_right (by decide) h) (Nat.pow_le_pow_left (by decide) _)
def QB (q : Rat) (k : Nat) : Prop := (limbs q.num.natAbs).length ≤ k ∧ (limbs q.den).length ≤ k
theorem QB.mono {q : Rat} {k m : Nat} (h : QB q k) (hk : k ≤ m) : QB q m := ⟨Nat.le_trans h.1 hk, Nat.le_trans h.2 hk⟩
theorem QB.neg {q : Rat} {k : Nat} (h : QB q k) : QB (-q) k := by
 unfold QB; rw [(qneg_num q).1, (qneg_num q).2]; exact h
theorem mkRat_le (z : Int) {d : Nat} (hd : 0 < d) : (mkRat z d).num.natAbs ≤ z.natAbs ∧ (mkRat z d).den ≤ d := by
 have hd' : d ≠ 0 := by omega
 rw [Rat.mkRat_def, dif_neg hd', Rat.normalize_eq]
 refine ⟨?_, Nat.div_le_self _ _⟩
 show (z / ((Nat.gcd z.natAbs d : Nat) : Int)).natAbs ≤ z.natAbs
 rw [Int.natAbs_ediv_of_dvd (Int.ofNat_dvd_left.2 (Nat.gcd_dvd_left _ _))]
 exact Nat.div_le_self _ _
theorem qOf_le (neg : Bool) (n : Nat) {d : Nat} (hd : 0 < d) : (qOf neg n d).num.natAbs ≤ n ∧ (qOf neg n d).den ≤ d := by
 have h := mkRat_le (sg neg n) hd
 rw [sg_natAbs] at h
 exact h
theorem QB.of {n d k : Nat} (neg : Bool) (hn : (limbs n).length ≤ k) (hd : (limbs d).length ≤ k) (h0 : 0 < d) : QB (qOf neg n d) k := by
 have h := qOf_le neg n h0
 exact ⟨Nat.le_trans (limbs_length_mono h.1) hn, Nat.le_trans (limbs_length_mono h.2) hd⟩
theorem limbs_one : (limbs 1).length = 1 := by rw [limbs_pos (by omega)]; simp [limbs_zero]
theorem limbs_bound {n k : Nat} (h : n < 4294967296) (hk : 1 ≤ k) : (limbs n).length ≤ k := Nat.le_trans (limbs_length_le (k := 1) (by omega)) hk
theorem QB.zero (k : Nat) (hk : 1 ≤ k) : QB 0 k := ⟨limbs_bound (by decide) hk, limbs_bound (by decide) hk⟩
theorem QB.add {a b : Rat} {i j : Nat} (ha : QB a i) (hb : QB b j) : QB (a + b) (i + j + 1) := by
 rw [q_add_eq]
 have h := mkRat_le (a.num * b.den + b.num * a.den) (Nat.mul_pos a.den_pos b.den_pos)
 have h1 : (a.num * b.den + b.num * a.den).natAbs ≤ a.num.natAbs * b.den + b.num.natAbs * a.den := by
  refine Nat.le_trans (Int.natAbs_add_le _ _) ?_
  rw [Int.natAbs_mul, Int.natAbs_mul]; simp
 have h2 := limbs_mul ha.1 hb.2
 have h3 := limbs_mul hb.1 ha.2
 rw [Nat.add_comm j i] at h3
 have h4 := limbs_add h2 h3
 have h5 := limbs_mul ha.2 hb.2
 exact ⟨Nat.le_trans (limbs_length_mono (Nat.le_trans h.1 h1)) h4, Nat.le_trans (limbs_length_mono h.2) (by omega)⟩
theorem q_num_pos {b : Rat} (hb : b ≠ 0) : 0 < b.num.natAbs := by
 rcases Nat.eq_zero_or_pos b.num.natAbs with h | h
 ·exact (hb (Rat.num_eq_zero.1 (by omega))).elim
 ·exact h
theorem q_num_zero {b : Rat} : b.num.natAbs = 0 ↔ b = 0 := ⟨fun h => Rat.num_eq_zero.1 (by omega), fun h => by rw [h]; rfl⟩
theorem QB.div {a b : Rat} {i j : Nat} (ha : QB a i) (hb : QB b j) (h0 : b ≠ 0) : QB (a / b) (i + j) := by
 rw [← qdiv_is h0]
 exact QB.of _ (limbs_mul ha.1 hb.2) (limbs_mul ha.2 hb.1) (Nat.mul_pos a.den_pos (q_num_pos h0))
def qtext (q : Rat) : List UInt8 := (if decide (q < 0) = true then [45] else []) ++ (str (dec q.num.natAbs) ++ (if q.den = 1 then [] else 47 :: str (dec q.den)))
def cutNeg (l : List UInt8) : Bool × List UInt8 := if l.head? = some 45 then (true, l.tail) else (false, l)
def cutAt (l : List UInt8) : List UInt8 := l.takeWhile (· != 47)
def cutOn (l : List UInt8) : List UInt8 := if 47 ∈ l then (l.dropWhile (· != 47)).tail else [49]
def qneg (l : List UInt8) : Bool := (cutNeg l).1
def qnum (l : List UInt8) : List UInt8 := cutAt (cutNeg l).2
def qden (l : List UInt8) : List UInt8 := cutOn (cutNeg l).2
def qmade (l : List UInt8) : Rat := qOf (qneg l) (pval (qnum l)) (pval (qden l))
def qcode (l : List UInt8) : Int :=
 if pcode (qnum l) = 3 ∨ pcode (qden l) = 3 then 3 else if pcode (qnum l) ≠ 0 ∨ pcode (qden l) ≠ 0 then 2 else if pval (qden l) = 0 then 3 else if qtext (qmade l) ≠ l then 3 else 0
def qval (l : List UInt8) : Rat := if qcode l = 0 then qmade l else 0
theorem limbs_pow10 {n k : Nat} (h : n < 10 ^ k) : (limbs n).length ≤ k :=
 limbs_length_le (Nat.lt_of_lt_of_le h (Nat.pow_le_pow_left (by decide) _))
theorem cutNeg_le (l : List UInt8) : (cutNeg l).2.length ≤ l.length := by
 unfold cutNeg; split <;> simp
theorem cutAt_le (l : List UInt8) : (cutAt l).length ≤ l.length := (List.takeWhile_sublist _).length_le
theorem cutOn_le (l : List UInt8) : (cutOn l).length ≤ l.length + 1 := by
 unfold cutOn
 split
 ·have := (List.dropWhile_sublist (p := (· != 47)) (l := l)).length_le
  simp only [List.length_tail]; omega
 ·simp
theorem qnum_le (l : List UInt8) : (qnum l).length ≤ l.length := Nat.le_trans (cutAt_le _) (cutNeg_le l)
theorem qden_le (l : List UInt8) : (qden l).length ≤ l.length + 1 := Nat.le_trans (cutOn_le _) (by have := cutNeg_le l; omega)
end Go.Proofs.YtieffhkfefimeaaGreatDoor

namespace Go.Proofs.YtieffhkfefimeaaGreatDoor
open Go.RowKit


theorem str_dec_parts {n : Nat} (h : 0 < n) : (str (dec n)).map (fun c => c.toNat - 48) = (dig n).reverse := by
 rw [dec_pos h]
 unfold str
 rw [List.map_map, List.map_map]
 conv => rhs; rw [← List.map_id (dig n).reverse]
 refine List.map_congr_left fun x hx => ?_
 have := dig_lt n x (List.mem_reverse.1 hx)
 simp only [Function.comp_apply, UInt8.toNat_ofNat', id]
 omega
theorem str_dec_digs (n : Nat) : (str (dec n)).all isDig = true := by
 rcases Nat.eq_zero_or_pos n with h | h
 ·subst h; decide
 ·rw [List.all_eq_true]
  intro c hc
  rw [dec_pos h] at hc
  unfold str at hc
  rw [List.map_map] at hc
  obtain ⟨x, hx, rfl⟩ := List.mem_map.1 hc
  have := dig_lt n x (List.mem_reverse.1 hx)
  rw [isDig_iff]
  simp only [Function.comp_apply, UInt8.toNat_ofNat']
  omega
theorem dnum_dec (n : Nat) : dnum (str (dec n)) = n := by
 rcases Nat.eq_zero_or_pos n with h | h
 ·subst h; decide
 ·rw [dnum_rev, str_dec_parts h, List.reverse_reverse, dval_dig]
theorem dec_head {n : Nat} (h : 0 < n) : ∃ x t, dec n = (48 + x) :: t ∧ 0 < x ∧ x < 10 := by
 have h1 : dig n ≠ [] := fun h2 => by have := dig_eq_nil.1 h2; omega
 have h2 := dig_getLast n h1
 have h3 := dig_lt n _ (List.getLast_mem h1)
 rw [dec_pos h]
 refine ⟨(dig n).getLast h1, ((dig n).dropLast.reverse).map (48 + ·), ?_, by omega, h3⟩
 have h4 := List.dropLast_concat_getLast h1
 conv => lhs; rw [← h4]
 rw [List.reverse_append]
 rfl
theorem numOk_dec (n : Nat) : numOk (str (dec n)) = true := by
 rcases Nat.eq_zero_or_pos n with h | h
 ·subst h; decide
 ·obtain ⟨x, t, e, h1, h2⟩ := dec_head h
  have h3 := str_dec_digs n
  unfold numOk
  rw [h3, e]
  have h4 : (UInt8.ofNat (48 + x)) ≠ 48 := by
   intro h5
   have := congrArg UInt8.toNat h5
   simp only [UInt8.toNat_ofNat'] at this
   have h6 : (48 : UInt8).toNat = 48 := by decide
   omega
  have h5 : (UInt8.ofNat (48 + x) != 48) = true := bne_iff_ne.2 h4
  simp only [str, List.map_cons, List.headD_cons, h5]
  simp
theorem pcode_dec {n : Nat} (h : (dec n).length ≤ 1200) : pcode (str (dec n)) = 0 := by
 unfold pcode
 rw [numOk_dec, if_pos rfl, if_neg (by simp [str]; omega)]
theorem pval_dec {n : Nat} (h : (dec n).length ≤ 1200) : pval (str (dec n)) = n := by
 unfold pval
 rw [numOk_dec, if_pos rfl, if_neg (by simp [str]; omega), dnum_dec]
theorem dig_le {n k : Nat} (h : n < 10 ^ k) : (dig n).length ≤ k := by
  induction k generalizing n with
  | zero => have : n = 0 := by simp at h; omega
            subst this; rw [dig_zero]; simp
  | succ k ih =>
    rcases Nat.eq_zero_or_pos n with h0 | h0
    · subst h0; rw [dig_zero]; simp
    · rw [dig_pos h0]
      have : n / 10 < 10 ^ k := by rw [Nat.div_lt_iff_lt_mul (by decide)]; rwa [Nat.pow_succ] at h
      simp only [List.length_cons]
      have := ih this
      omega
theorem dec_le {n k : Nat} (h : n < 10 ^ k) (hk : 0 < k) : (dec n).length ≤ k := by
 unfold dec
 split
 ·simp; omega
 ·simp only [List.length_map, List.length_reverse]; exact dig_le h
theorem dec_no (n : Nat) (c : UInt8) (hc : isDig c = false) : c ∉ str (dec n) := fun h => by
 have := List.all_eq_true.1 (str_dec_digs n) c h
 rw [hc] at this
 cases this
theorem dec_ne_nil (n : Nat) : str (dec n) ≠ [] := by
 rcases Nat.eq_zero_or_pos n with h | h
 ·subst h; decide
 ·obtain ⟨x, t, e, h1, h2⟩ := dec_head h
  rw [e]; simp [str]
theorem dec_head_ne (n : Nat) (c : UInt8) (hc : isDig c = false) (t : List UInt8) : (str (dec n) ++ t).head? ≠ some c := by
 have h1 := dec_ne_nil n
 have h2 := dec_no n c hc
 cases h : str (dec n) with
 | nil => exact (h1 h).elim
 | cons x s =>
  rw [h] at h2
  simp only [List.cons_append, List.head?_cons]
  intro h3
  injection h3 with h3
  subst h3
  simp at h2
/-! A fraction's text is read as the fraction. -/
theorem cutNeg_qtext (q : Rat) : cutNeg (qtext q) = (decide (q < 0), str (dec q.num.natAbs) ++ (if q.den = 1 then [] else 47 :: str (dec q.den))) := by
 unfold cutNeg qtext
 by_cases h : q < 0
 ·simp only [h, decide_true, if_true]
  simp
 ·simp only [h, decide_false]
  rw [if_neg (by simp only [Bool.false_eq_true, if_false, List.nil_append]; exact dec_head_ne _ 45 (by decide) _)]
  simp
theorem takeWhile_stop {α : Type} [BEq α] [LawfulBEq α] (l t : List α) (c : α) (h : c ∉ l) : (l ++ c :: t).takeWhile (· != c) = l ∧ (l ++ c :: t).dropWhile (· != c) = c :: t := by
 induction l with
 | nil => simp
 | cons x l ih =>
  simp only [List.mem_cons, not_or] at h
  have hx : (x != c) = true := by simp; exact fun h2 => h.1 h2.symm
  have := ih h.2
  simp [List.takeWhile_cons, List.dropWhile_cons, hx, this.1, this.2]
theorem takeWhile_all {α : Type} [BEq α] [LawfulBEq α] (l : List α) (c : α) (h : c ∉ l) : l.takeWhile (· != c) = l := by
 induction l with
 | nil => simp
 | cons x l ih =>
  simp only [List.mem_cons, not_or] at h
  have hx : (x != c) = true := by simp; exact fun h2 => h.1 h2.symm
  simp [List.takeWhile_cons, hx, ih h.2]
theorem cut_stroke (n d : Nat) : cutAt (str (dec n) ++ 47 :: str (dec d)) = str (dec n) ∧ cutOn (str (dec n) ++ 47 :: str (dec d)) = str (dec d) := by
 have h := takeWhile_stop (str (dec n)) (str (dec d)) 47 (dec_no n 47 (by decide))
 refine ⟨h.1, ?_⟩
 unfold cutOn
 rw [if_pos (by simp), h.2]
 rfl
theorem cut_whole (n : Nat) : cutAt (str (dec n)) = str (dec n) ∧ cutOn (str (dec n)) = [49] := by
 refine ⟨takeWhile_all _ _ (dec_no n 47 (by decide)), ?_⟩
 unfold cutOn
 rw [if_neg (dec_no n 47 (by decide))]
theorem qtext_parts (q : Rat) : qneg (qtext q) = decide (q < 0) ∧ qnum (qtext q) = str (dec q.num.natAbs) ∧ qden (qtext q) = str (dec q.den) := by
 unfold qneg qnum qden
 rw [cutNeg_qtext]
 refine ⟨rfl, ?_⟩
 by_cases h : q.den = 1
 ·simp only [h, if_true, List.append_nil]
  have := cut_whole q.num.natAbs
  rw [this.1, this.2]
  exact ⟨rfl, str_dec_one.symm⟩
 ·simp only [h, if_false]
  have := cut_stroke q.num.natAbs q.den
  exact ⟨this.1, this.2⟩
theorem qparse_text (q : Rat) (h1 : (dec q.num.natAbs).length ≤ 1200) (h2 : (dec q.den).length ≤ 1200) : qcode (qtext q) = 0 ∧ qval (qtext q) = q := by
 obtain ⟨e1, e2, e3⟩ := qtext_parts q
 have hm : qmade (qtext q) = q := by
  unfold qmade
  rw [e1, e2, e3, pval_dec h1, pval_dec h2, qOf_self]
 have hc : qcode (qtext q) = 0 := by
  unfold qcode
  rw [hm, e2, e3, pcode_dec h1, pcode_dec h2, pval_dec h2, if_neg (by omega), if_neg (by omega), if_neg (by have := q.den_pos; omega), if_neg (by simp)]
 exact ⟨hc, by unfold qval; rw [hc, if_pos rfl, hm]⟩
theorem qOf_one (s : Bool) (n : Nat) : qOf s n 1 = ((sg s n : Int) : Rat) := by
 rw [qOf_frac _ _ (by omega)]; simp; grind
end Go.Proofs.YtieffhkfefimeaaGreatDoor

namespace Go.Proofs.YtieffhkfefimeaaGreatDoor


def fint (F n : Nat) : Nat := if n / 2 ^ F = 0 then n else (n % 2 ^ F + 2 ^ F) * 2 ^ (n / 2 ^ F - 1)
def tval (n : Nat) (e : Int) : Rat := if e < 0 then qOf false n (2 ^ (-e).toNat) else qOf false (n * 2 ^ e.toNat) 1
theorem scale (n d : Nat) {B : Nat} (hB : 0 < B) : qOf false (n * B) (d * B) = qOf false n d := by
 unfold qOf
 have h : sg false (n * B) = sg false n * (B : Int) := by simp [sg]
 rw [h, Rat.mkRat_mul_right (by omega)]
theorem tval_shift (n k : Nat) {c : Int} (hc : c < 0) : tval n ((k : Int) + c) = tval (n * 2 ^ k) c := by
 unfold tval
 obtain ⟨s, hs⟩ : ∃ s : Nat, -c = (s : Int) := ⟨(-c).toNat, by omega⟩
 rw [if_pos hc]
 have hs2 : (-c).toNat = s := by omega
 rw [hs2]
 by_cases h : (k : Int) + c < 0
 ·have h3 : (-((k : Int) + c)).toNat = s - k := by omega
  rw [if_pos h, h3, ← scale n (2 ^ (s - k)) (show 0 < 2 ^ k from Nat.pow_pos (by decide)), ← Nat.pow_add, show s - k + k = s by omega]
 ·have h3 : ((k : Int) + c).toNat = k - s := by omega
  rw [if_neg h, h3, ← scale (n * 2 ^ (k - s)) 1 (show 0 < 2 ^ s from Nat.pow_pos (by decide)), Nat.mul_assoc, ← Nat.pow_add, Nat.one_mul, show k - s + s = k by omega]
def places (E F : Nat) : Nat := 2 ^ (E - 1) + F - 2
def fval (E F n : Nat) : Rat := qOf false (fint F n) (2 ^ places E F)
theorem fval_is {E F n : Nat} (hE : 2 ≤ E) (hF : 1 ≤ F) : tval (n % 2 ^ F + if 0 < n / 2 ^ F then 2 ^ F else 0) ((max (n / 2 ^ F) 1 : Nat) - (2 ^ (E - 1) - 1 : Nat) - (F : Nat) : Int) = fval E F n := by
 have h2 : 2 ≤ 2 ^ (E - 1) := by
  have : 2 ^ 1 ≤ 2 ^ (E - 1) := Nat.pow_le_pow_right (by decide) (by omega)
  simpa using this
 have hP : 0 < 2 ^ F := Nat.pow_pos (by decide)
 have h1 := Nat.div_add_mod n (2 ^ F)
 generalize hne : n / 2 ^ F = e at *
 have hpl : (places E F : Nat) + 2 = 2 ^ (E - 1) + F := by unfold places; omega
 have hsum : ((max e 1 : Nat) - (2 ^ (E - 1) - 1 : Nat) - (F : Nat) : Int) = ((e - 1 : Nat) : Int) + -((places E F : Nat) : Int) := by
  generalize 2 ^ (E - 1) = B at *
  omega
 have hneg : -((places E F : Nat) : Int) < 0 := by
  generalize 2 ^ (E - 1) = B at *
  omega
 rw [hsum, tval_shift _ _ hneg]
 unfold fval tval
 rw [if_pos hneg, show (- -((places E F : Nat) : Int)).toNat = places E F by omega]
 congr 1
 unfold fint
 rw [hne]
 by_cases h0 : e = 0
 ·rw [if_pos h0, if_neg (by omega), h0]
  rw [h0] at h1
  simp at h1 ⊢; exact h1
 ·rw [if_neg h0, if_pos (by omega)]
def finf (E F : Nat) : Nat := (2 ^ E - 1) * 2 ^ F
theorem finf_lt (E F : Nat) : finf E F < 2 ^ (E + F) := by
 unfold finf
 rw [Nat.pow_add]
 exact Nat.mul_lt_mul_of_pos_right (by have : 0 < 2 ^ E := Nat.pow_pos (by decide); omega) (Nat.pow_pos (by decide))
def dkind (E F b : Nat) : Int := if finf E F < b % 2 ^ (E + F) then 4 else if b % 2 ^ (E + F) = finf E F then (if b.testBit (E + F) then 3 else 2) else 1
def dval' (E F b : Nat) : Rat := if b % 2 ^ (E + F) < finf E F then (if b.testBit (E + F) then -(fval E F (b % 2 ^ (E + F))) else fval E F (b % 2 ^ (E + F))) else 0
def dsign (E F : Nat) (neg : Bool) (n : Nat) : Nat := if neg = true ∧ 0 < n then n + 2 ^ (E + F) else n
theorem places_le {E F : Nat} (hE : E ≤ 11) (hF : F ≤ 52) : places E F ≤ 1074 := by
 unfold places
 have : 2 ^ (E - 1) ≤ 2 ^ 10 := Nat.pow_le_pow_right (by decide) (by omega)
 omega
theorem fint_le {E F n K : Nat} (hE : E ≤ 11) (hF : F ≤ 52) (hn : n < 2 ^ (E + F)) (hK : 2101 ≤ K) : fint F n < 2 ^ K := by
 have hP : 0 < 2 ^ F := Nat.pow_pos (by decide)
 have he : n / 2 ^ F < 2 ^ E := by
  rw [Nat.div_lt_iff_lt_mul hP, ← Nat.pow_add]; exact hn
 have he2 : 2 ^ E ≤ 2 ^ 11 := Nat.pow_le_pow_right (by decide) hE
 have hF2 : 2 ^ F ≤ 2 ^ 52 := Nat.pow_le_pow_right (by decide) hF
 have hm := Nat.mod_lt n hP
 have h0 : n < 2 ^ 63 := Nat.lt_of_lt_of_le hn (Nat.pow_le_pow_right (by decide) (by omega))
 unfold fint
 split
 ·exact Nat.lt_of_lt_of_le h0 (Nat.pow_le_pow_right (by decide) (by omega))
 ·have h1 : n % 2 ^ F + 2 ^ F < 2 ^ 53 := by
   have : (2 : Nat) ^ 53 = 2 ^ 52 + 2 ^ 52 := by decide
   omega
  obtain ⟨q, hq⟩ : ∃ q, q = n / 2 ^ F - 1 := ⟨_, rfl⟩
  have hq2 : 53 + q ≤ K := by omega
  rw [← hq]
  refine Nat.lt_of_lt_of_le (Nat.mul_lt_mul_of_pos_right h1 (Nat.pow_pos (by decide))) ?_
  rw [← Nat.pow_add]
  exact Nat.pow_le_pow_right (by decide) hq2
theorem limbs_bits {n k : Nat} (h : n < 2 ^ (32 * k)) : (limbs n).length ≤ k := limbs_length_le (by rw [show (4294967296 : Nat) = 2 ^ 32 by decide, ← Nat.pow_mul]; exact h)
theorem fint_limbs {E F n k : Nat} (hE : E ≤ 11) (hF : F ≤ 52) (hn : n < 2 ^ (E + F)) (hk : 66 ≤ k) : (limbs (fint F n)).length ≤ k := limbs_bits (fint_le hE hF hn (by omega))
theorem places_limbs {E F k : Nat} (hE : E ≤ 11) (hF : F ≤ 52) (hk : 66 ≤ k) : (limbs (2 ^ places E F)).length ≤ k :=
 limbs_bits (Nat.pow_lt_pow_right (by decide) (by have := places_le hE hF; omega))
theorem QB.fval {E F n k : Nat} (hE : E ≤ 11) (hF : F ≤ 52) (hn : n < 2 ^ (E + F)) (hk : 66 ≤ k) : QB (fval E F n) k := by
 unfold Go.Proofs.YtieffhkfefimeaaGreatDoor.fval
 exact QB.of _ (fint_limbs hE hF hn hk) (places_limbs hE hF hk) (Nat.pow_pos (by decide))
end Go.Proofs.YtieffhkfefimeaaGreatDoor

namespace Go.Proofs.YtieffhkfefimeaaGreatDoor
open Go.RowKit


structure EN where
 tree : Int
 node : Int
 feat : Int
 mode : Int
 val : Nat
 tru : Int
 fls : Int
 trk : Bool
 deriving DecidableEq
structure EL where
 tree : Int
 node : Int
 tgt : Int
 wt : Nat
 deriving DecidableEq
structure EE where
 feats : Int
 tgts : Int
 agg : List UInt8
 post : List UInt8
 base : List Nat
 nodes : List EN
 leaves : List EL
 deriving DecidableEq
instance : Inhabited EN := ⟨⟨0, 0, 0, 0, 0, 0, 0, false⟩⟩
instance : Inhabited EL := ⟨⟨0, 0, 0, 0⟩⟩
def insT (x : Int) : List Int → List Int
 | [] => [x]
 | y :: r => if y < x then y :: insT x r else if y = x then y :: r else x :: y :: r
def setT (l : List Int) : List Int := l.foldl (fun a x => insT x a) []
def treesE (ns : List EN) : List Int := setT (ns.map (·.tree))
theorem insT_mem (x : Int) : ∀ (l : List Int) (y : Int), y ∈ insT x l ↔ y = x ∨ y ∈ l
 | [], y => by simp [insT]
 | z :: r, y => by
  unfold insT
  split
  ·rw [List.mem_cons, insT_mem x r y, List.mem_cons]
   constructor
   ·rintro (h | h | h) <;> simp [h]
   ·rintro (h | h | h) <;> simp [h]
  ·split
   ·rename_i h1 h2
    subst h2
    simp only [List.mem_cons]
    constructor
    ·rintro (h | h) <;> simp [h]
    ·rintro (h | h | h) <;> simp [h]
   ·simp only [List.mem_cons]
theorem insT_sorted (x : Int) : ∀ (l : List Int), l.Pairwise (· < ·) → (insT x l).Pairwise (· < ·)
 | [], _ => by simp [insT]
 | z :: r, h => by
  rw [List.pairwise_cons] at h
  unfold insT
  split
  ·rename_i h1
   rw [List.pairwise_cons]
   refine ⟨fun a ha => ?_, insT_sorted x r h.2⟩
   rcases (insT_mem x r a).1 ha with rfl | ha
   ·exact h1
   ·exact h.1 a ha
  ·split
   ·rw [List.pairwise_cons]; exact h
   ·rename_i h1 h2
    rw [List.pairwise_cons, List.pairwise_cons]
    refine ⟨fun a ha => ?_, h⟩
    rcases List.mem_cons.1 ha with rfl | ha
    ·omega
    ·have := h.1 a ha; omega
theorem setT_go : ∀ (l a : List Int), a.Pairwise (· < ·) → (l.foldl (fun a x => insT x a) a).Pairwise (· < ·) ∧ ∀ y, y ∈ l.foldl (fun a x => insT x a) a ↔ y ∈ l ∨ y ∈ a
 | [], a, h => ⟨h, fun y => by simp⟩
 | x :: r, a, h => by
  obtain ⟨h1, h2⟩ := setT_go r (insT x a) (insT_sorted x a h)
  refine ⟨h1, fun y => ?_⟩
  rw [List.foldl_cons, h2 y, insT_mem, List.mem_cons]
  constructor
  ·rintro (h | h | h) <;> simp [h]
  ·rintro ((h | h) | h) <;> simp [h]
theorem setT_sorted (l : List Int) : (setT l).Pairwise (· < ·) := (setT_go l [] List.Pairwise.nil).1
theorem setT_mem (l : List Int) (y : Int) : y ∈ setT l ↔ y ∈ l := by
 have := (setT_go l [] List.Pairwise.nil).2 y
 simpa [setT] using this
theorem rising_eq : ∀ (a b : List Int), a.Pairwise (· < ·) → b.Pairwise (· < ·) → (∀ y, y ∈ a ↔ y ∈ b) → a = b
 | [], [], _, _, _ => rfl
 | [], y :: b, _, _, h => absurd ((h y).2 (by simp)) (by simp)
 | x :: a, [], _, _, h => absurd ((h x).1 (by simp)) (by simp)
 | x :: a, y :: b, ha, hb, h => by
  rw [List.pairwise_cons] at ha hb
  have e : x = y := by
   rcases List.mem_cons.1 ((h x).1 (by simp)) with h1 | h1
   ·exact h1
   ·rcases List.mem_cons.1 ((h y).2 (by simp)) with h2 | h2
    ·exact h2.symm
    ·have := hb.1 x h1; have := ha.1 y h2; omega
  subst e
  rw [rising_eq a b ha.2 hb.2 (fun z => ?_)]
  constructor
  ·intro hz
   rcases List.mem_cons.1 ((h z).1 (List.mem_cons_of_mem _ hz)) with rfl | h1
   ·exact absurd (ha.1 z hz) (by omega)
   ·exact h1
  ·intro hz
   rcases List.mem_cons.1 ((h z).2 (List.mem_cons_of_mem _ hz)) with rfl | h1
   ·exact absurd (hb.1 z hz) (by omega)
   ·exact h1
theorem compact_go (d : Array Int) (hs : ∀ i j, i ≤ j → j < d.size → d[i]! ≤ d[j]!) : ∀ m, m ≤ d.size →
  (Go.Lib.compactUpTo d m).Pairwise (· < ·) ∧ (∀ y, y ∈ Go.Lib.compactUpTo d m ↔ ∃ i, i < m ∧ d[i]! = y)
 | 0, _ => by
  have : Go.Lib.compactUpTo d 0 = [] := by simp [Go.Lib.compactUpTo]
  rw [this]
  exact ⟨List.Pairwise.nil, fun y => by simp⟩
 | m + 1, hm => by
  obtain ⟨h1, h2⟩ := compact_go d hs m (by omega)
  rw [Go.Lib.compactUpTo_succ]
  by_cases hk : Go.Lib.keeps d m = true
  ·rw [if_pos hk]
   have hk' : m = 0 ∨ d[m]! ≠ d[m - 1]! := by simpa [Go.Lib.keeps] using hk
   refine ⟨List.pairwise_append.2 ⟨h1, by simp, fun a ha b hb => ?_⟩, fun y => ?_⟩
   ·obtain ⟨i, hi, rfl⟩ := (h2 a).1 ha
    simp only [List.mem_singleton] at hb
    subst hb
    rcases hk' with h0 | h0
    ·omega
    ·have := hs i (m - 1) (by omega) (by omega)
     have := hs (m - 1) m (by omega) (by omega)
     omega
   ·rw [List.mem_append, h2 y, List.mem_singleton]
    constructor
    ·rintro (⟨i, hi, h⟩ | rfl)
     ·exact ⟨i, by omega, h⟩
     ·exact ⟨m, by omega, rfl⟩
    ·rintro ⟨i, hi, h⟩
     by_cases e : i = m
     ·subst e; exact .inr h.symm
     ·exact .inl ⟨i, by omega, h⟩
  ·rw [if_neg hk, List.append_nil]
   have hk' : m ≠ 0 ∧ d[m]! = d[m - 1]! := by simpa [Go.Lib.keeps] using hk
   refine ⟨h1, fun y => ?_⟩
   rw [h2 y]
   constructor
   ·rintro ⟨i, hi, h⟩; exact ⟨i, by omega, h⟩
   ·rintro ⟨i, hi, h⟩
    by_cases e : i = m
    ·subst e; exact ⟨i - 1, by omega, by rw [← h, hk'.2]⟩
    ·exact ⟨i, by omega, h⟩
theorem sort_compact (l : List Int) : Go.Lib.compact (l.mergeSort fun x y => decide (x ≤ y)) = setT l := by
 have hp := List.pairwise_mergeSort (le := fun (x y : Int) => decide (x ≤ y)) (by simp; omega) (by simp; omega) l
 have hm : ∀ y, y ∈ l.mergeSort (fun x y => decide (x ≤ y)) ↔ y ∈ l := fun y => List.mem_mergeSort
 generalize l.mergeSort (fun x y => decide (x ≤ y)) = s at hp hm
 have hs : ∀ i j, i ≤ j → j < s.toArray.size → s.toArray[i]! ≤ s.toArray[j]! := by
  intro i j hij hj
  simp only [List.size_toArray] at hj
  by_cases e : i = j
  ·subst e; exact Int.le_refl _
  ·have := List.pairwise_iff_getElem.1 hp i j (by omega) hj (by omega)
   simpa [getElem!_pos, hj, show i < s.length by omega] using this
 obtain ⟨h1, h2⟩ := compact_go s.toArray hs s.length (by simp)
 refine rising_eq _ _ h1 (setT_sorted l) (fun y => ?_)
 unfold Go.Lib.compact
 rw [h2 y, setT_mem, ← hm y]
 constructor
 ·rintro ⟨i, hi, rfl⟩
  simp [getElem!_pos, hi]
 ·intro hy
  obtain ⟨i, hi, rfl⟩ := List.mem_iff_getElem.1 hy
  exact ⟨i, hi, by simp [getElem!_pos, hi]⟩
def findE (ns : List EN) (t n : Int) : Option Nat := ns.findIdx? (fun y => decide (y.tree = t) && decide (y.node = n))
theorem idxBy_find {α : Type} [Inhabited α] (p : α → Bool) (l : List α) (x : α) : Go.Lib.idxBy (fun _ y => p y) l x = match l.findIdx? p with | none => -1 | some k => (k : Int) := by
 have go : ∀ (l : List α) (i : Nat), Go.Lib.idxByFrom (fun _ y => p y) x l i = match l.findIdx? p with | none => -1 | some k => ((i + k : Nat) : Int) := by
  intro l
  induction l with
  | nil => intro i; simp [Go.Lib.idxByFrom]
  | cons y r ih =>
   intro i
   rw [Go.Lib.idxByFrom, List.findIdx?_cons]
   by_cases h : p y = true
   ·rw [if_pos h, if_pos h]; simp
   ·rw [if_neg h, if_neg h, ih (i + 1)]
    cases r.findIdx? p with
    | none => rfl
    | some k => show ((i + 1 + k : Nat) : Int) = ((i + (k + 1) : Nat) : Int); omega
 have := go l 0
 unfold Go.Lib.idxBy
 rw [this]
 cases l.findIdx? p with
 | none => rfl
 | some k => simp only [Nat.zero_add]
theorem findE_lt {ns : List EN} {t n : Int} {k : Nat} (h : findE ns t n = some k) : k < ns.length := by
 have := List.findIdx?_eq_some_iff_getElem.1 h
 exact this.1
theorem findE_at {ns : List EN} {t n : Int} {k : Nat} (h : findE ns t n = some k) (hk : k < ns.length) : ns[k].tree = t ∧ ns[k].node = n := by
 have := (List.findIdx?_eq_some_iff_getElem.1 h).2.1
 simpa using this
def kidsE (ns : List EN) (n : EN) : List Nat := if n.mode = 7 then [] else ((findE ns n.tree n.tru).toList ++ (findE ns n.tree n.fls).toList)
def behindE (ns : List EN) (t x : Int) : Bool := ns.any (fun m => decide (m.tree = t) && (decide (m.mode ≠ 7) && (decide (m.tru = x) || decide (m.fls = x))))
def rootE (ns : List EN) (t : Int) : Option Nat := ns.findIdx? (fun n => decide (n.tree = t) && !behindE ns t n.node)
def weightsE (ls : List EL) (t n g : Int) : List Nat := (ls.filter (fun l => decide (l.tree = t) && (decide (l.node = n) && decide (l.tgt = g)))).map (·.wt)
def finP (p : Nat) : Bool := decide (p < 4294967296) && decide (dkind 8 23 p = 1)
def sizeE (e : EE) : Bool := decide (0 ≤ e.feats) && (decide (e.feats ≤ 40) && (decide (1 ≤ e.tgts) && (decide (e.tgts ≤ 20) && (decide (1 ≤ e.nodes.length) && (decide (e.nodes.length ≤ 2000) && (decide (e.leaves.length ≤ 2000) && decide ((treesE e.nodes).length ≤ 100)))))))
def baseE (e : EE) : Bool := (decide (e.base.length = 0) || decide ((e.base.length : Int) = e.tgts)) && e.base.all finP
def numsE (ns : List EN) : Bool := (List.range ns.length).all (fun k => let n := ns[k]!; decide (0 ≤ n.tree) && (decide (0 ≤ n.node) && decide ((findE ns n.tree n.node).getD 0 = k)))
def everyE (ns : List EN) (all : Bool) (p : EN → Bool) : Bool := !ns.any (fun n => (all || decide (n.mode ≠ 7)) && !p n)
def kidE (ns : List EN) : Bool := everyE ns false (fun n => (findE ns n.tree n.tru).isSome && ((findE ns n.tree n.fls).isSome && decide (n.tru ≠ n.fls)))
def upK (k : Nat) : List Nat → List Int → Option (List Int)
 | [], up => some up
 | a :: r, up => if up[a]?.getD 0 ≠ -1 then none else upK k r (up.set a (k : Int))
def upL (ns : List EN) : List Nat → List Int → Option (List Int)
 | [], up => some up
 | k :: r, up => (upK k (kidsE ns ns[k]!) up).bind (upL ns r)
def upE (ns : List EN) : Option (List Int) := upL ns (List.range ns.length) (List.replicate ns.length (-1))
def okE (up : List Int) : Nat → Int → Bool
 | 0, at' => decide (at' = -1)
 | f + 1, at' => decide (at' = -1) || okE up f (up[at'.toNat]?.getD (-1))
def rootsE (ns : List EN) (up : List Int) (t : Int) : Nat := ((List.range ns.length).filter (fun k => decide (ns[k]!.tree = t) && decide (up[k]?.getD 0 = -1))).length
def singleE (ns : List EN) (up : List Int) : Bool := (treesE ns).all (fun t => decide (rootsE ns up t = 1))
def forestE (ns : List EN) : Bool :=
 match upE ns with
 | none => false
 | some up => (List.range ns.length).all (fun k => okE up 39 (up[k]?.getD 0)) && (decide ((up.filter (fun x => decide (x = -1))).length = (treesE ns).length) && singleE ns up)
def leafE (e : EE) : Bool := !e.leaves.any (fun l => match findE e.nodes l.tree l.node with | none => true | some k => decide (e.nodes[k]!.mode ≠ 7) || (decide (l.tgt < 0) || decide (e.tgts ≤ l.tgt)))
def aggW : List (List UInt8) := [[83, 85, 77], [65, 86, 69, 82, 65, 71, 69], [77, 73, 78], [77, 65, 88]]
def postW : List (List UInt8) := [[78, 79, 78, 69], [83, 79, 70, 84, 77, 65, 88], [76, 79, 71, 73, 83, 84, 73, 67], [83, 79, 70, 84, 77, 65, 88, 95, 90, 69, 82, 79], [80, 82, 79, 66, 73, 84]]
def checkE (e : EE) : Nat :=
 if sizeE e = false then 1 else
 if e.agg ∉ aggW then 2 else
 if e.post ∉ postW then 3 else
 if baseE e = false then 4 else
 if numsE e.nodes = false then 5 else
 if everyE e.nodes true (fun n => decide (1 ≤ n.mode ∧ n.mode ≤ 7)) = false then 6 else
 if everyE e.nodes false (fun n => decide (0 ≤ n.feat ∧ n.feat < e.feats)) = false then 7 else
 if everyE e.nodes false (fun n => finP n.val) = false ∨ everyE e.nodes true (fun n => decide (n.val < 4294967296)) = false then 8 else
 if kidE e.nodes = false then 9 else
 if forestE e.nodes = false then 10 else
 if leafE e = false then 11 else
 if e.leaves.any (fun l => !finP l.wt) = true then 12 else 0
def wordE : Nat → List UInt8
 | 1 => [115, 105, 122, 101]
 | 2 => [97, 103, 103, 114, 101, 103, 97, 116, 101]
 | 3 => [112, 111, 115, 116]
 | 4 => [98, 97, 115, 101]
 | 5 => [110, 117, 109, 98, 101, 114]
 | 6 => [109, 111, 100, 101]
 | 7 => [102, 101, 97, 116, 117, 114, 101]
 | 8 => [118, 97, 108, 117, 101]
 | 9 => [107, 105, 100]
 | 10 => [102, 111, 114, 101, 115, 116]
 | 11 => [108, 101, 97, 102]
 | 12 => [119, 101, 105, 103, 104, 116]
 | _ => []
def modeW : List (List UInt8) := [[66, 82, 65, 78, 67, 72, 95, 76, 69, 81], [66, 82, 65, 78, 67, 72, 95, 76, 84], [66, 82, 65, 78, 67, 72, 95, 71, 84, 69], [66, 82, 65, 78, 67, 72, 95, 71, 84], [66, 82, 65, 78, 67, 72, 95, 69, 81], [66, 82, 65, 78, 67, 72, 95, 78, 69, 81], [76, 69, 65, 70]]
def modeName (m : Int) : List UInt8 := if m < 1 ∨ 7 < m then [] else modeW[(m - 1).toNat]?.getD []
end Go.Proofs.YtieffhkfefimeaaGreatDoor
