/-
  Pj07: SeqA BookC BookD BookG BookH MathQ MathR MathS MathD MathE MathV MathW PrepM (what is needed of them).
-/
import Derived.Test.YtcpfanpcdkoiaaaGreatDoorPj06
import Derived.Deep.RegionHeld3
import Derived.WalkKit
set_option maxRecDepth 100000
set_option linter.unusedVariables false
set_option linter.unusedSimpArgs false

namespace Go.Proofs.YtcpfanpcdkoiaaaGreatDoor
open Go.RowKit

section
variable {P : Program} {ops : Array Oper} {Q : Exit → Act → World → Prop} {S : World → Prop}
def wpSeqH (P : Program) (ops : Array Oper) (Q : Exit → Act → World → Prop) (S : World → Prop) : List (Bool × Oper) → Act → World → Prop
 | [], a, w => Q .normal a w
 | (true, o) :: rest, a, w => ∃ v, YieldsIf P ops S o v a ∧ wpSeqH P ops Q S rest (a.put o.dst v) w
 | (false, o) :: rest, a, w => ∀ K : Act → World → Prop, Shut (∀ a w, S w → (S w → wpSeqH P ops Q S rest a w) → K a w) →
   if Region.wanted o (yielded ops a.tmps) = true then Oper.wp P o a w K Q else K (a.put o.dst undef) w
def seqOk (ops : Array Oper) : List (Bool × Nat) → Array Bool → Bool
 | [], listed => (Region.ready .any ops listed).isEmpty
 | (true, i) :: r, listed => Region.free .any ops listed i && (Region.ready .any ops listed).contains i && seqOk ops r (listed.setIfInBounds i true)
 | (false, i) :: r, listed => (Region.ready .any ops listed == [i]) && seqOk ops r (listed.setIfInBounds i true)
def pickOps (ops : Array Oper) : List (Bool × Nat) → List (Bool × Oper)
 | [] => []
 | (b, i) :: r => match ops[i]? with
  | some o => (b, o) :: pickOps ops r
  | none => pickOps ops r
theorem wpAnyH_of_seq (hs : Region.noSelect ops = true) (hQ : ∀ d v c a w, Q (.panic c) (a.put d v) w → Q (.panic c) a w) :
  ∀ (l : List (Bool × Nat)) (listed : Array Bool) (a : Act) (w : World), seqOk ops l listed = true → (l.all fun x => decide (x.2 < ops.size)) = true → S w → wpSeqH P ops Q S (pickOps ops l) a w → wpAnyH P .any ops Q S l.length listed a w
 | [], listed, a, w, hk, _, _, h => by
  simp only [seqOk, List.isEmpty_iff] at hk
  exact ⟨hk, h⟩
 | (b, i) :: r, listed, a, w, hk, hlt, hS, h => by
  simp only [List.all_cons, Bool.and_eq_true, decide_eq_true_eq] at hlt
  have hi : ops[i]? = some ops[i] := Array.getElem?_eq_getElem hlt.1
  simp only [pickOps, hi] at h
  cases b with
  | true =>
   simp only [seqOk, Bool.and_eq_true] at hk
   obtain ⟨v, hy, h⟩ := h
   exact wpAnyH_take hi hs hk.1.1 hk.1.2 (fun c a w => hQ _ _ c a w) hy hS (wpAnyH_of_seq hs hQ r _ _ _ hk.2 hlt.2 hS h)
  | false =>
   simp only [seqOk, Bool.and_eq_true, beq_iff_eq] at hk
   refine wpAnyH_ready hk.1 (by simp) (AllReadyH.cons hi (fun K hK => ?_) AllReadyH.nil)
   exact h K (fun a' w' hS' hw => hK.out a' w' hS' fun hS'' => wpAnyH_of_seq hs hQ r _ _ _ hk.2 hlt.2 hS'' (hw hS''))
theorem wp_region_seq {id : Nat} {a : Act} {w : World} (l : List (Bool × Nat)) (hm : P.follows .mixedOrders = true) (hs : Region.noSelect ops = true) (hl : l.length = ops.size) (hlt : (l.all fun x => decide (x.2 < ops.size)) = true)
  (hk : seqOk ops l (Array.replicate ops.size false) = true) (hQ : ∀ d v c a w, Q (.panic c) (a.put d v) w → Q (.panic c) a w) (hS : S w.drew)
  (h : S w.drew → wpSeqH P ops Q S (pickOps ops l) a w.drew) : (Code.region id ops true).wp P Q a w := by
 refine wp_region_held_drew hm hS fun hS' => ?_
 have := wpAnyH_of_seq (P := P) (Q := Q) (S := S) hs hQ l _ _ _ hk hlt hS' (h hS')
 rwa [hl] at this
theorem seq_take {o : Oper} {rest : List (Bool × Oper)} {a : Act} {w : World} {v : Value} (hw : Region.wanted o (yielded ops a.tmps) = true) (hy : ∀ w, S w → (execOp a.eval o).run P w = .ok (.value v) w)
  (h : wpSeqH P ops Q S rest (a.put o.dst v) w) : wpSeqH P ops Q S ((true, o) :: rest) a w := ⟨v, .inl ⟨hw, hy⟩, h⟩
theorem seq_leave {o : Oper} {rest : List (Bool × Oper)} {a : Act} {w : World} (hw : Region.wanted o (yielded ops a.tmps) = false)
  (h : wpSeqH P ops Q S rest (a.put o.dst undef) w) : wpSeqH P ops Q S ((true, o) :: rest) a w := ⟨undef, .inr ⟨hw, rfl⟩, h⟩
theorem seq_step {o : Oper} {rest : List (Bool × Oper)} {a : Act} {w : World} (hw : Region.wanted o (yielded ops a.tmps) = true)
  (h : ∀ K : Act → World → Prop, Shut (∀ a w, S w → (S w → wpSeqH P ops Q S rest a w) → K a w) → Oper.wp P o a w K Q) : wpSeqH P ops Q S ((false, o) :: rest) a w := fun K hK => by
 rw [if_pos hw]; exact h K hK
theorem seq_pass {o : Oper} {rest : List (Bool × Oper)} {a : Act} {w : World} (hw : Region.wanted o (yielded ops a.tmps) = false) (hS : S w)
  (h : wpSeqH P ops Q S rest (a.put o.dst undef) w) : wpSeqH P ops Q S ((false, o) :: rest) a w := fun K hK => by
 rw [if_neg (by rw [hw]; simp)]; exact hK.out _ _ hS fun _ => h
theorem seq_end {a : Act} {w : World} (h : Q .normal a w) : wpSeqH P ops Q S [] a w := h
end
end Go.Proofs.YtcpfanpcdkoiaaaGreatDoor

namespace Go.Proofs.YtcpfanpcdkoiaaaGreatDoor
open Go.RowKit Go.Shelf


def VView (w : World) (v : Value) (xs : List Value) : Prop := ∃ ao cap, v = .slice ao xs.length cap ∧ xs.length ≤ cap ∧ cap ≤ maxLen ∧ ∀ i x, xs[i]? = some x → ∃ b, ao = some ⟨b, 0, none⟩ ∧ b < w.heap.size ∧ w.cell? ⟨b, i, none⟩ = some x
theorem VView.below {w W : World} {v : Value} {xs : List Value} (h : VView w v xs) (hb : Below w.heap.size w W) : VView W v xs := by
 obtain ⟨ao, cap, h1, h2, h3, h4⟩ := h
 refine ⟨ao, cap, h1, h2, h3, fun i x hx => ?_⟩
 obtain ⟨b, e1, e2, e3⟩ := h4 i x hx
 exact ⟨b, e1, Nat.lt_of_lt_of_le e2 hb.size, (hb.cell (p := ⟨b, i, none⟩) e2).trans e3⟩
theorem VView.of {B : Nat} {e : TypeId} {w : World} {v : Value} {xs : List Value} (h : Owns B e w v xs) : VView w v xs := by
 rcases h.shape with ⟨rfl, rfl⟩ | ⟨g, cap, rfl, k1, k2, k3, k4, k5, _⟩
 ·exact ⟨none, 0, rfl, Nat.le_refl _, Nat.zero_le _, fun i x hx => by simp at hx⟩
 ·exact ⟨_, _, rfl, k3, k4, fun i x hx => ⟨g, rfl, k2, (k5 i (List.getElem?_eq_some_iff.1 hx).1).trans hx⟩⟩
end Go.Proofs.YtcpfanpcdkoiaaaGreatDoor

namespace Go.Proofs.YtcpfanpcdkoiaaaGreatDoor
open Go.RowKit Go.Shelf


def OfL (vs : List Value) (k : Nat) : Prop := ∃ (i : Nat) (v : Value), vs[i]? = some v ∧ v.ownBlock = some k
theorem Keep.cell {S : Nat → Prop} {w w' : World} (h : Keep S w w') {b i : Nat} {x : Value} (hb : ¬ S b) (hc : w.cell? ⟨b, i, none⟩ = some x) : w'.cell? ⟨b, i, none⟩ = some x :=
 (World.cell?_of_block (w := w) (a := ⟨b, i, none⟩) (h.same b (World.block_lt_of_cell? w ⟨b, i, none⟩ hc) hb)).trans hc
end Go.Proofs.YtcpfanpcdkoiaaaGreatDoor

namespace Go.Proofs.YtcpfanpcdkoiaaaGreatDoor
open Go.RowKit Go.Shelf


theorem IntsI.cells {w w' : World} {v : Value} {ns : List Int} (h : IntsI .i64 w v ns) (hs : w.heap.size ≤ w'.heap.size) (hk : ∀ ao n c b off, v = .slice ao n c → ao = some ⟨b, off, none⟩ → ∀ j, j < ns.length → w'.cell? ⟨b, off + j, none⟩ = w.cell? ⟨b, off + j, none⟩) : IntsI .i64 w' v ns := by
 obtain ⟨ao, cap, rfl, h2, h3, h4⟩ := h
 refine ⟨ao, cap, rfl, h2, h3, ?_⟩
 rcases h4 with h4 | ⟨b, off, e1, e2, e3⟩
 ·exact .inl h4
 ·exact .inr ⟨b, off, e1, Nat.lt_of_lt_of_le e2 hs, fun j hj => (hk _ _ _ b off rfl e1 j hj).trans (e3 j hj)⟩
structure GrowAt (B W0 : Nat) (w : World) (i n c : Nat) (v lv : Value) : Prop where
 own : Owns B 3 w lv (ivals .i64 (markI i 0 (n + c)))
 at' : ∀ g, lv.ownBlock = some g → v.ownBlock = some g ∨ W0 ≤ g
 old : ∀ g, v.ownBlock = some g → ∀ j, j < n → w.cell? ⟨g, j, none⟩ = (ivals .i64 (markI i 0 n))[j]?
theorem GrowAt.below {B W0 : Nat} {w w' : World} {i n c : Nat} {v lv : Value} (h : GrowAt B W0 w i n c v lv) (hb : Below w.heap.size w w') (hv : ∀ g, v.ownBlock = some g → g < w.heap.size) : GrowAt B W0 w' i n c v lv :=
 ⟨Owns.kept h.own hb, h.at', fun g hg j hj => (hb.cell (p := ⟨g, j, none⟩) (hv g hg)).trans (h.old g hg j hj)⟩
theorem GrowAt.step {B W0 : Nat} {w w' : World} {i n c m : Nat} {v lv lv' : Value} (h : GrowAt B W0 w i n c v lv) (hW : W0 ≤ w.heap.size) (hv : ∀ g, v.ownBlock = some g → g < w.heap.size) (ho : Owns B 3 w' lv' (ivals .i64 (markI i 0 (n + c)) ++ ivals .i64 (markI i (n + c) m))) (hg : w.grownBy w' lv.ownBlock) (hl : lv'.ownBlock = lv.ownBlock ∨ lv'.ownBlock = some w.heap.size)
  (hk : ∀ g, lv.ownBlock = some g → ∀ j, j < (ivals .i64 (markI i 0 (n + c))).length → w'.cell? ⟨g, j, none⟩ = w.cell? ⟨g, j, none⟩) : GrowAt B W0 w' i n (c + m) v lv' := by
 refine ⟨?_, fun g hg' => ?_, fun g hg' j hj => ?_⟩
 ·have e : ivals .i64 (markI i 0 (n + (c + m))) = ivals .i64 (markI i 0 (n + c)) ++ ivals .i64 (markI i (n + c) m) := by
   rw [← Nat.add_assoc, markI_add, Nat.zero_add]; unfold ivals; rw [List.map_append]
  rw [e]; exact ho
 ·rcases hl with h1 | h1
  ·exact h.at' g (h1 ▸ hg')
  ·rw [h1] at hg'; right; have : w.heap.size = g := Option.some.inj hg'; omega
 ·rw [← h.old g hg' j hj]
  by_cases e : lv.ownBlock = some g
  ·exact hk g e j (by rw [ivals_length, markI_len]; omega)
  ·exact World.cell?_of_block (w := w) (a := ⟨g, j, none⟩) (hg.block g (hv g hg') (fun h9 => e h9.symm))
structure GrowL (B : Nat) (w0 w : World) (vs : List Value) (ns : List Nat) (os : List Value) (i : Nat) : Prop where
 todo : ∀ (j : Nat) (v : Value) (n : Nat), vs[j]? = some v → ns[j]? = some n → i ≤ j → Owns B 3 w v (ivals .i64 (markI j 0 n))
 done : ∀ (j : Nat) (v : Value) (n : Nat) (o : Value), vs[j]? = some v → ns[j]? = some n → os[j]? = some o → j < i → GrowAt B w0.heap.size w j n 72 v o
theorem GrowL.keep {B : Nat} {w0 w w' : World} {vs : List Value} {ns : List Nat} {os : List Value} {i : Nat} (h : GrowL B w0 w vs ns os i) {S : Nat → Prop} (hk : Keep S w w')
    (ht : ∀ (j : Nat) (v : Value) g, vs[j]? = some v → i ≤ j → v.ownBlock = some g → ¬ S g) (hd : ∀ (j : Nat) (v : Value) g, vs[j]? = some v → j < i → v.ownBlock = some g → g < w.heap.size ∧ ¬ S g) (ho : ∀ (j : Nat) (o : Value) g, os[j]? = some o → o.ownBlock = some g → ¬ S g) : GrowL B w0 w' vs ns os i :=
  ⟨fun j v n h1 h2 h3 => OwnsK.keep (K := 1) (h.todo j v n h1 h2 h3) hk (fun g hg => ht j v g h1 h3 hg),
   fun j v n o h1 h2 h3 h4 => ⟨OwnsK.keep (K := 1) (h.done j v n o h1 h2 h3 h4).own hk (fun g hg => ho j o g h3 hg), (h.done j v n o h1 h2 h3 h4).at', fun g hg k hk9 => (World.cell?_of_block (w := w) (a := ⟨g, k, none⟩) (hk.same g (hd j v g h1 h4 hg).1 (hd j v g h1 h4 hg).2)).trans ((h.done j v n o h1 h2 h3 h4).old g hg k hk9)⟩⟩
theorem app_at {α : Type} {l : List α} {x y : α} {j : Nat} (h : (l ++ [x])[j]? = some y) : (j < l.length ∧ l[j]? = some y) ∨ (j = l.length ∧ y = x) := by
 by_cases hj : j < l.length
 ·rw [List.getElem?_append_left hj] at h; exact .inl ⟨hj, h⟩
 ·rw [List.getElem?_append_right (by omega)] at h
  have h0 : j - l.length = 0 := by
   have := (List.getElem?_eq_some_iff.1 h).1
   simp at this; omega
  rw [h0] at h
  exact .inr ⟨by omega, (Option.some.inj h).symm⟩
end Go.Proofs.YtcpfanpcdkoiaaaGreatDoor

namespace Go.Proofs.YtcpfanpcdkoiaaaGreatDoor
open Go.RowKit Go.Shelf


theorem VView.keep {S : Nat → Prop} {w W : World} {v : Value} {xs : List Value} (h : VView w v xs) (hk : Keep S w W) (hS : ∀ g, v.ownBlock = some g → ¬ S g) : VView W v xs := by
 obtain ⟨ao, cap, rfl, h2, h3, h4⟩ := h
 refine ⟨ao, cap, rfl, h2, h3, fun i x hx => ?_⟩
 obtain ⟨b, e1, e2, e3⟩ := h4 i x hx
 exact ⟨b, e1, Nat.lt_of_lt_of_le e2 hk.size, hk.cell (hS b (by rw [e1]; rfl)) e3⟩
theorem GrowAt.ints {Bs W0 : Nat} {w0 w : World} {i n c : Nat} {v lv : Value} (h : GrowAt Bs W0 w i n c v lv) (hv : Owns Bs 3 w0 v (ivals .i64 (markI i 0 n))) (hlt : ∀ g, v.ownBlock = some g → g < w.heap.size) : IntsI .i64 w v (markI i 0 n) := by
 rcases hv.shape with ⟨rfl, h0⟩ | ⟨g, cap, rfl, _, _, k3, k4, _, _⟩
 ·have h1 := congrArg List.length h0
  rw [ivals_length] at h1
  have h2 : markI i 0 n = [] := List.eq_nil_of_length_eq_zero h1
  rw [h2]
  exact ⟨none, 0, rfl, Nat.le_refl _, Nat.zero_le _, .inl rfl⟩
 ·rw [ivals_length] at k3 ⊢
  refine ⟨_, cap, rfl, k3, k4, .inr ⟨g, 0, rfl, hlt g rfl, fun j hj => ?_⟩⟩
  rw [Nat.zero_add, h.old g rfl j (by rw [markI_len] at hj; exact hj)]
  unfold ivals
  rw [List.getElem?_map, List.getElem?_eq_getElem hj]; rfl
end Go.Proofs.YtcpfanpcdkoiaaaGreatDoor

namespace Go.Proofs.YtcpfanpcdkoiaaaGreatDoor


def sg (neg : Bool) (n : Nat) : Int := if neg then -(n : Int) else n
theorem sg_natAbs (neg : Bool) (n : Nat) : (sg neg n).natAbs = n := by cases neg <;> simp [sg]
def qOf (neg : Bool) (n d : Nat) : Rat := mkRat (sg neg n) d
theorem qOf_num {neg : Bool} {n d : Nat} (hd : 0 < d) : (qOf neg n d).num = sg neg (n / Nat.gcd n d) := by
 have hd' : d ≠ 0 := by omega
 unfold qOf
 rw [Rat.mkRat_def, dif_neg hd', Rat.normalize_eq]
 simp only [sg_natAbs]
 cases neg
 ·simp [sg]
 ·simp only [sg, if_true]
  rw [Int.neg_ediv_of_dvd (Int.natCast_dvd_natCast.2 (Nat.gcd_dvd_left _ _))]
  simp
theorem qOf_den {neg : Bool} {n d : Nat} (hd : 0 < d) : (qOf neg n d).den = d / Nat.gcd n d := by
 have hd' : d ≠ 0 := by omega
 unfold qOf
 rw [Rat.mkRat_def, dif_neg hd', Rat.normalize_eq]
 simp only [sg_natAbs]
theorem qOf_zero (neg : Bool) (d : Nat) : qOf neg 0 d = 0 := by
 unfold qOf
 have : sg neg 0 = 0 := by cases neg <;> rfl
 rw [this, Rat.zero_mkRat]
theorem q_neg (q : Rat) : q < 0 ↔ q.num < 0 := by rw [Rat.lt_iff]; simp
theorem qOf_self (q : Rat) : qOf (decide (q < 0)) q.num.natAbs q.den = q := by
 have h : sg (decide (q < 0)) q.num.natAbs = q.num := by
  unfold sg
  by_cases h : q < 0
  ·have := (q_neg q).1 h
   simp only [h, decide_true, if_true]; omega
  ·have h1 : ¬ q.num < 0 := fun h2 => h ((q_neg q).2 h2)
   simp only [h, decide_false]
   simp; omega
 unfold qOf
 rw [h, Rat.mkRat_self]
theorem qOf_neg {neg : Bool} {n d : Nat} (hn : 0 < n) (hd : 0 < d) : decide (qOf neg n d < 0) = neg := by
 have hg : 0 < n / Nat.gcd n d := Nat.div_pos (Nat.gcd_le_left _ hn) (Nat.gcd_pos_of_pos_left _ hn)
 have h := q_neg (qOf neg n d)
 rw [qOf_num hd] at h
 cases neg
 ·rw [decide_eq_false_iff_not, h]; simp [sg]; omega
 ·rw [decide_eq_true_iff, h]; simp only [sg, if_true]; omega
theorem qOf_eq_zero {neg : Bool} {n d : Nat} (hn : 0 < n) (hd : 0 < d) : qOf neg n d ≠ 0 := by
 intro h
 have hg : 0 < n / Nat.gcd n d := Nat.div_pos (Nat.gcd_le_left _ hn) (Nat.gcd_pos_of_pos_left _ hn)
 have h1 := qOf_num (neg := neg) (n := n) hd
 rw [h] at h1
 have h2 := congrArg Int.natAbs h1
 rw [sg_natAbs] at h2
 simp at h2
 omega
/-! What is reckoned of signs, numerators and denominators is what is reckoned of the fractions. -/
theorem qOf_frac (neg : Bool) (n : Nat) {d : Nat} (hd : 0 < d) : qOf neg n d = (sg neg n : Rat) / (d : Rat) := by
 unfold qOf
 rw [Rat.mkRat_eq_div]
theorem q_add_eq (a b : Rat) : a + b = mkRat (a.num * b.den + b.num * a.den) (a.den * b.den) := by
 rw [Rat.add_def, Rat.mkRat_def, dif_neg (Nat.ne_of_gt (Nat.mul_pos a.den_pos b.den_pos))]
theorem qneg_num (a : Rat) : (-a).num.natAbs = a.num.natAbs ∧ (-a).den = a.den := by
 simp
end Go.Proofs.YtcpfanpcdkoiaaaGreatDoor

namespace Go.Proofs.YtcpfanpcdkoiaaaGreatDoor
open Go.RowKit


theorem rlimbs_of_limbs {n k : Nat} (h : (limbs n).length ≤ k) : (rlimbs n).length ≤ 3 * k := by
 have h1 := lt_pow_limbs n
 refine rlimbs_length_le (Nat.lt_of_lt_of_le h1 ?_)
 rw [Nat.pow_mul]
 exact Nat.le_trans (Nat.pow_le_pow_right (by decide) h) (Nat.pow_le_pow_left (by decide) _)
def QB (q : Rat) (k : Nat) : Prop := (limbs q.num.natAbs).length ≤ k ∧ (limbs q.den).length ≤ k
theorem QB.mono {q : Rat} {k m : Nat} (h : QB q k) (hk : k ≤ m) : QB q m := ⟨Nat.le_trans h.1 hk, Nat.le_trans h.2 hk⟩
theorem QB.neg {q : Rat} {k : Nat} (h : QB q k) : QB (-q) k := by
 unfold QB; rw [(qneg_num q).1, (qneg_num q).2]; exact h
theorem mkRat_le (z : Int) {d : Nat} (hd : 0 < d) : (mkRat z d).num.natAbs ≤ z.natAbs ∧ (mkRat z d).den ≤ d := by
 have hd' : d ≠ 0 := by omega
 rw [Rat.mkRat_def, dif_neg hd', Rat.normalize_eq]
 refine ⟨?_, Nat.div_le_self _ _⟩
 show (z / ((Nat.gcd z.natAbs d : Nat) : Int)).natAbs ≤ z.natAbs
 rw [Int.natAbs_ediv_of_dvd (Int.ofNat_dvd_left.2 (Nat.gcd_dvd_left _ _))]
 exact Nat.div_le_self _ _
theorem qOf_le (neg : Bool) (n : Nat) {d : Nat} (hd : 0 < d) : (qOf neg n d).num.natAbs ≤ n ∧ (qOf neg n d).den ≤ d := by
 have h := mkRat_le (sg neg n) hd
 rw [sg_natAbs] at h
 exact h
theorem QB.of {n d k : Nat} (neg : Bool) (hn : (limbs n).length ≤ k) (hd : (limbs d).length ≤ k) (h0 : 0 < d) : QB (qOf neg n d) k := by
 have h := qOf_le neg n h0
 exact ⟨Nat.le_trans (limbs_length_mono h.1) hn, Nat.le_trans (limbs_length_mono h.2) hd⟩
theorem limbs_bound {n k : Nat} (h : n < 4294967296) (hk : 1 ≤ k) : (limbs n).length ≤ k := Nat.le_trans (limbs_length_le (k := 1) (by omega)) hk
theorem QB.zero (k : Nat) (hk : 1 ≤ k) : QB 0 k := ⟨limbs_bound (by decide) hk, limbs_bound (by decide) hk⟩
theorem QB.num {q : Rat} {k : Nat} (h : QB q k) : (limbs q.num.natAbs).length ≤ k := h.1
theorem QB.den {q : Rat} {k : Nat} (h : QB q k) : (limbs q.den).length ≤ k := h.2
theorem QB.add {a b : Rat} {i j : Nat} (ha : QB a i) (hb : QB b j) : QB (a + b) (i + j + 1) := by
 rw [q_add_eq]
 have h := mkRat_le (a.num * b.den + b.num * a.den) (Nat.mul_pos a.den_pos b.den_pos)
 have h1 : (a.num * b.den + b.num * a.den).natAbs ≤ a.num.natAbs * b.den + b.num.natAbs * a.den := by
  refine Nat.le_trans (Int.natAbs_add_le _ _) ?_
  rw [Int.natAbs_mul, Int.natAbs_mul]; simp
 have h2 := limbs_mul ha.1 hb.2
 have h3 := limbs_mul hb.1 ha.2
 rw [Nat.add_comm j i] at h3
 have h4 := limbs_add h2 h3
 have h5 := limbs_mul ha.2 hb.2
 exact ⟨Nat.le_trans (limbs_length_mono (Nat.le_trans h.1 h1)) h4, Nat.le_trans (limbs_length_mono h.2) (by omega)⟩
def qtext (q : Rat) : List UInt8 := (if decide (q < 0) = true then [45] else []) ++ (str (dec q.num.natAbs) ++ (if q.den = 1 then [] else 47 :: str (dec q.den)))
def cutNeg (l : List UInt8) : Bool × List UInt8 := if l.head? = some 45 then (true, l.tail) else (false, l)
def cutAt (l : List UInt8) : List UInt8 := l.takeWhile (· != 47)
def cutOn (l : List UInt8) : List UInt8 := if 47 ∈ l then (l.dropWhile (· != 47)).tail else [49]
def qneg (l : List UInt8) : Bool := (cutNeg l).1
def qnum (l : List UInt8) : List UInt8 := cutAt (cutNeg l).2
def qden (l : List UInt8) : List UInt8 := cutOn (cutNeg l).2
def qmade (l : List UInt8) : Rat := qOf (qneg l) (pval (qnum l)) (pval (qden l))
def qcode (l : List UInt8) : Int :=
 if pcode (qnum l) = 3 ∨ pcode (qden l) = 3 then 3 else if pcode (qnum l) ≠ 0 ∨ pcode (qden l) ≠ 0 then 2 else if pval (qden l) = 0 then 3 else if qtext (qmade l) ≠ l then 3 else 0
def qval (l : List UInt8) : Rat := if qcode l = 0 then qmade l else 0
theorem pval_lt {l : List UInt8} {K : Nat} (h : l.length ≤ K) : pval l < 10 ^ K := by
 have h0 : 0 < 10 ^ K := Nat.pow_pos (by decide)
 unfold pval
 split
 ·rename_i hok
  split
  ·exact h0
  ·simp only [numOk, Bool.and_eq_true] at hok
   exact Nat.lt_of_lt_of_le (dnum_lt l hok.1) (Nat.pow_le_pow_right (by decide) h)
 ·exact h0
theorem limbs_pow10 {n k : Nat} (h : n < 10 ^ k) : (limbs n).length ≤ k :=
 limbs_length_le (Nat.lt_of_lt_of_le h (Nat.pow_le_pow_left (by decide) _))
theorem cutNeg_le (l : List UInt8) : (cutNeg l).2.length ≤ l.length := by
 unfold cutNeg; split <;> simp
theorem cutAt_le (l : List UInt8) : (cutAt l).length ≤ l.length := (List.takeWhile_sublist _).length_le
theorem cutOn_le (l : List UInt8) : (cutOn l).length ≤ l.length + 1 := by
 unfold cutOn
 split
 ·have := (List.dropWhile_sublist (p := (· != 47)) (l := l)).length_le
  simp only [List.length_tail]; omega
 ·simp
theorem qnum_le (l : List UInt8) : (qnum l).length ≤ l.length := Nat.le_trans (cutAt_le _) (cutNeg_le l)
theorem qden_le (l : List UInt8) : (qden l).length ≤ l.length + 1 := Nat.le_trans (cutOn_le _) (by have := cutNeg_le l; omega)
theorem qden_max (l : List UInt8) : (qden l).length ≤ max 1 l.length := by
 unfold qden cutOn
 have h1 := cutNeg_le l
 split
 ·have := (List.dropWhile_sublist (p := (· != 47)) (l := (cutNeg l).2)).length_le
  simp only [List.length_tail]; omega
 ·simp; omega
theorem qval_lt {l : List UInt8} {K : Nat} (h : l.length + 1 ≤ K) : (qval l).num.natAbs < 10 ^ K ∧ (qval l).den < 10 ^ K := by
 have h1 := pval_lt (l := qnum l) (K := K) (by have := qnum_le l; omega)
 have h2 := pval_lt (l := qden l) (K := K) (by have := qden_le l; omega)
 have h9 : 1 < 10 ^ K := Nat.one_lt_pow (by omega) (by decide)
 unfold qval
 split
 ·rename_i h0
  have hd : 0 < pval (qden l) := by
   rcases Nat.eq_zero_or_pos (pval (qden l)) with h3 | h3
   ·exfalso
    unfold qcode at h0
    rw [if_pos h3] at h0
    split at h0
    ·omega
    ·split at h0 <;> omega
   ·exact h3
  have h4 := qOf_le (qneg l) (pval (qnum l)) hd
  exact ⟨Nat.lt_of_le_of_lt h4.1 h1, Nat.lt_of_le_of_lt h4.2 h2⟩
 ·exact ⟨by show 0 < _; omega, h9⟩
theorem QB.val {l : List UInt8} {K : Nat} (h : l.length + 1 ≤ K) : QB (qval l) K :=
 ⟨limbs_pow10 (qval_lt h).1, limbs_pow10 (qval_lt h).2⟩
end Go.Proofs.YtcpfanpcdkoiaaaGreatDoor

namespace Go.Proofs.YtcpfanpcdkoiaaaGreatDoor
open Go.RowKit


theorem str_dec_parts {n : Nat} (h : 0 < n) : (str (dec n)).map (fun c => c.toNat - 48) = (dig n).reverse := by
 rw [dec_pos h]
 unfold str
 rw [List.map_map, List.map_map]
 conv => rhs; rw [← List.map_id (dig n).reverse]
 refine List.map_congr_left fun x hx => ?_
 have := dig_lt n x (List.mem_reverse.1 hx)
 simp only [Function.comp_apply, UInt8.toNat_ofNat', id]
 omega
theorem str_dec_digs (n : Nat) : (str (dec n)).all isDig = true := by
 rcases Nat.eq_zero_or_pos n with h | h
 ·subst h; decide
 ·rw [List.all_eq_true]
  intro c hc
  rw [dec_pos h] at hc
  unfold str at hc
  rw [List.map_map] at hc
  obtain ⟨x, hx, rfl⟩ := List.mem_map.1 hc
  have := dig_lt n x (List.mem_reverse.1 hx)
  rw [isDig_iff]
  simp only [Function.comp_apply, UInt8.toNat_ofNat']
  omega
theorem dnum_dec (n : Nat) : dnum (str (dec n)) = n := by
 rcases Nat.eq_zero_or_pos n with h | h
 ·subst h; decide
 ·rw [dnum_rev, str_dec_parts h, List.reverse_reverse, dval_dig]
theorem dec_head {n : Nat} (h : 0 < n) : ∃ x t, dec n = (48 + x) :: t ∧ 0 < x ∧ x < 10 := by
 have h1 : dig n ≠ [] := fun h2 => by have := dig_eq_nil.1 h2; omega
 have h2 := dig_getLast n h1
 have h3 := dig_lt n _ (List.getLast_mem h1)
 rw [dec_pos h]
 refine ⟨(dig n).getLast h1, ((dig n).dropLast.reverse).map (48 + ·), ?_, by omega, h3⟩
 have h4 := List.dropLast_concat_getLast h1
 conv => lhs; rw [← h4]
 rw [List.reverse_append]
 rfl
theorem numOk_dec (n : Nat) : numOk (str (dec n)) = true := by
 rcases Nat.eq_zero_or_pos n with h | h
 ·subst h; decide
 ·obtain ⟨x, t, e, h1, h2⟩ := dec_head h
  have h3 := str_dec_digs n
  unfold numOk
  rw [h3, e]
  have h4 : (UInt8.ofNat (48 + x)) ≠ 48 := by
   intro h5
   have := congrArg UInt8.toNat h5
   simp only [UInt8.toNat_ofNat'] at this
   have h6 : (48 : UInt8).toNat = 48 := by decide
   omega
  have h5 : (UInt8.ofNat (48 + x) != 48) = true := bne_iff_ne.2 h4
  simp only [str, List.map_cons, List.headD_cons, h5]
  simp
theorem pcode_dec {n : Nat} (h : (dec n).length ≤ 1200) : pcode (str (dec n)) = 0 := by
 unfold pcode
 rw [numOk_dec, if_pos rfl, if_neg (by simp [str]; omega)]
theorem pval_dec {n : Nat} (h : (dec n).length ≤ 1200) : pval (str (dec n)) = n := by
 unfold pval
 rw [numOk_dec, if_pos rfl, if_neg (by simp [str]; omega), dnum_dec]
theorem dig_le {n k : Nat} (h : n < 10 ^ k) : (dig n).length ≤ k := by
  induction k generalizing n with
  | zero => have : n = 0 := by simp at h; omega
            subst this; rw [dig_zero]; simp
  | succ k ih =>
    rcases Nat.eq_zero_or_pos n with h0 | h0
    · subst h0; rw [dig_zero]; simp
    · rw [dig_pos h0]
      have : n / 10 < 10 ^ k := by rw [Nat.div_lt_iff_lt_mul (by decide)]; rwa [Nat.pow_succ] at h
      simp only [List.length_cons]
      have := ih this
      omega
theorem dec_le {n k : Nat} (h : n < 10 ^ k) (hk : 0 < k) : (dec n).length ≤ k := by
 unfold dec
 split
 ·simp; omega
 ·simp only [List.length_map, List.length_reverse]; exact dig_le h
theorem dec_no (n : Nat) (c : UInt8) (hc : isDig c = false) : c ∉ str (dec n) := fun h => by
 have := List.all_eq_true.1 (str_dec_digs n) c h
 rw [hc] at this
 cases this
theorem dec_ne_nil (n : Nat) : str (dec n) ≠ [] := by
 rcases Nat.eq_zero_or_pos n with h | h
 ·subst h; decide
 ·obtain ⟨x, t, e, h1, h2⟩ := dec_head h
  rw [e]; simp [str]
theorem dec_head_ne (n : Nat) (c : UInt8) (hc : isDig c = false) (t : List UInt8) : (str (dec n) ++ t).head? ≠ some c := by
 have h1 := dec_ne_nil n
 have h2 := dec_no n c hc
 cases h : str (dec n) with
 | nil => exact (h1 h).elim
 | cons x s =>
  rw [h] at h2
  simp only [List.cons_append, List.head?_cons]
  intro h3
  injection h3 with h3
  subst h3
  simp at h2
/-! A fraction's text is read as the fraction. -/
theorem cutNeg_qtext (q : Rat) : cutNeg (qtext q) = (decide (q < 0), str (dec q.num.natAbs) ++ (if q.den = 1 then [] else 47 :: str (dec q.den))) := by
 unfold cutNeg qtext
 by_cases h : q < 0
 ·simp only [h, decide_true, if_true]
  simp
 ·simp only [h, decide_false]
  rw [if_neg (by simp only [Bool.false_eq_true, if_false, List.nil_append]; exact dec_head_ne _ 45 (by decide) _)]
  simp
theorem takeWhile_stop {α : Type} [BEq α] [LawfulBEq α] (l t : List α) (c : α) (h : c ∉ l) : (l ++ c :: t).takeWhile (· != c) = l ∧ (l ++ c :: t).dropWhile (· != c) = c :: t := by
 induction l with
 | nil => simp
 | cons x l ih =>
  simp only [List.mem_cons, not_or] at h
  have hx : (x != c) = true := by simp; exact fun h2 => h.1 h2.symm
  have := ih h.2
  simp [List.takeWhile_cons, List.dropWhile_cons, hx, this.1, this.2]
theorem takeWhile_all {α : Type} [BEq α] [LawfulBEq α] (l : List α) (c : α) (h : c ∉ l) : l.takeWhile (· != c) = l := by
 induction l with
 | nil => simp
 | cons x l ih =>
  simp only [List.mem_cons, not_or] at h
  have hx : (x != c) = true := by simp; exact fun h2 => h.1 h2.symm
  simp [List.takeWhile_cons, hx, ih h.2]
theorem cut_stroke (n d : Nat) : cutAt (str (dec n) ++ 47 :: str (dec d)) = str (dec n) ∧ cutOn (str (dec n) ++ 47 :: str (dec d)) = str (dec d) := by
 have h := takeWhile_stop (str (dec n)) (str (dec d)) 47 (dec_no n 47 (by decide))
 refine ⟨h.1, ?_⟩
 unfold cutOn
 rw [if_pos (by simp), h.2]
 rfl
theorem cut_whole (n : Nat) : cutAt (str (dec n)) = str (dec n) ∧ cutOn (str (dec n)) = [49] := by
 refine ⟨takeWhile_all _ _ (dec_no n 47 (by decide)), ?_⟩
 unfold cutOn
 rw [if_neg (dec_no n 47 (by decide))]
theorem qtext_parts (q : Rat) : qneg (qtext q) = decide (q < 0) ∧ qnum (qtext q) = str (dec q.num.natAbs) ∧ qden (qtext q) = str (dec q.den) := by
 unfold qneg qnum qden
 rw [cutNeg_qtext]
 refine ⟨rfl, ?_⟩
 by_cases h : q.den = 1
 ·simp only [h, if_true, List.append_nil]
  have := cut_whole q.num.natAbs
  rw [this.1, this.2]
  exact ⟨rfl, str_dec_one.symm⟩
 ·simp only [h, if_false]
  have := cut_stroke q.num.natAbs q.den
  exact ⟨this.1, this.2⟩
theorem qparse_text (q : Rat) (h1 : (dec q.num.natAbs).length ≤ 1200) (h2 : (dec q.den).length ≤ 1200) : qcode (qtext q) = 0 ∧ qval (qtext q) = q := by
 obtain ⟨e1, e2, e3⟩ := qtext_parts q
 have hm : qmade (qtext q) = q := by
  unfold qmade
  rw [e1, e2, e3, pval_dec h1, pval_dec h2, qOf_self]
 have hc : qcode (qtext q) = 0 := by
  unfold qcode
  rw [hm, e2, e3, pcode_dec h1, pcode_dec h2, pval_dec h2, if_neg (by omega), if_neg (by omega), if_neg (by have := q.den_pos; omega), if_neg (by simp)]
 exact ⟨hc, by unfold qval; rw [hc, if_pos rfl, hm]⟩
theorem qOf_one (s : Bool) (n : Nat) : qOf s n 1 = ((sg s n : Int) : Rat) := by
 rw [qOf_frac _ _ (by omega)]; simp; grind
def qround (q : Rat) : Rat := qOf (decide (q < 0)) ((q.num.natAbs * 2 + q.den) / (q.den * 2)) 1
theorem QB.round {q : Rat} {k : Nat} (h : QB q k) : QB (qround q) (k + 2) := by
 unfold qround
 have h1 : (limbs 2).length ≤ 1 := limbs_bound (by decide) (by omega)
 have h2 : (limbs (q.num.natAbs * 2 + q.den)).length ≤ k + 2 := limbs_add (limbs_mul h.1 h1) (Nat.le_trans h.2 (by omega))
 exact QB.of _ (Nat.le_trans (limbs_length_mono (Nat.div_le_self _ _)) h2) (limbs_bound (by decide) (by omega)) (by decide)
end Go.Proofs.YtcpfanpcdkoiaaaGreatDoor

namespace Go.Proofs.YtcpfanpcdkoiaaaGreatDoor
open Go.RowKit


/-! The parts of a literal. -/
def isE (c : UInt8) : Bool := c == 101 || c == 69
def sneg (l : List UInt8) : Bool := decide (l.head? = some 45)
def srest (l : List UInt8) : List UInt8 := if l.head? = some 45 ∨ l.head? = some 43 then l.tail else l
def lman (l : List UInt8) : List UInt8 := (srest l).takeWhile (fun c => !isE c)
def lexp (l : List UInt8) : List UInt8 := ((srest l).dropWhile (fun c => !isE c)).tail
def hasE (l : List UInt8) : Bool := (srest l).any isE
def lahead (l : List UInt8) : List UInt8 := (lman l).takeWhile (· != 46)
def lbehind (l : List UInt8) : List UInt8 := ((lman l).dropWhile (· != 46)).tail
def lall (l : List UInt8) : List UInt8 := lahead l ++ lbehind l
def xneg (l : List UInt8) : Bool := hasE l && sneg (lexp l)
def xdig (l : List UInt8) : List UInt8 := if hasE l = true then srest (lexp l) else [48]
def litIs (l : List UInt8) : Bool := !(lall l).isEmpty && !(xdig l).isEmpty && ((lall l).all isDig && (xdig l).all isDig)
def expOf (l : List UInt8) : Int := sg (xneg l) (dnum (xdig l)) - ((lbehind l).length : Int)
def litCode (l : List UInt8) : Int := if litIs l = true then (if 400 < dnum (xdig l) ∨ 400 < (lall l).length then 2 else 0) else 3
def litQ (neg : Bool) (n : Nat) (k : Int) : Rat := if k < 0 then qOf neg n (10 ^ k.natAbs) else qOf neg (n * 10 ^ k.natAbs) 1
def litVal (l : List UInt8) : Rat := if litCode l = 0 then litQ (sneg l) (dnum (lall l)) (expOf l) else 0
theorem srest_le (l : List UInt8) : (srest l).length ≤ l.length := by
 unfold srest
 split
 ·simp
 ·exact Nat.le_refl _
theorem lman_le (l : List UInt8) : (lman l).length ≤ l.length := Nat.le_trans (List.takeWhile_sublist _).length_le (srest_le l)
theorem lexp_le (l : List UInt8) : (lexp l).length ≤ l.length := by
 unfold lexp
 rw [List.length_tail]
 have := (List.dropWhile_sublist (l := srest l) (fun c => !isE c)).length_le
 have := srest_le l
 omega
theorem tw_dw (l : List UInt8) (p : UInt8 → Bool) : (l.takeWhile p).length + (l.dropWhile p).length = l.length := by
 rw [← List.length_append, List.takeWhile_append_dropWhile]
theorem lall_le (l : List UInt8) : (lall l).length ≤ (lman l).length := by
 unfold lall lahead lbehind
 rw [List.length_append, List.length_tail]
 have := tw_dw (lman l) (· != 46)
 omega
theorem lbehind_le (l : List UInt8) : (lbehind l).length ≤ (lall l).length := by
 unfold lall; rw [List.length_append]; omega
theorem xdig_le (l : List UInt8) : (xdig l).length ≤ l.length + 1 := by
 unfold xdig
 split
 ·have := srest_le (lexp l); have := lexp_le l; omega
 ·simp
theorem litCode_zero {l : List UInt8} (h : litCode l = 0) : litIs l = true ∧ dnum (xdig l) ≤ 400 ∧ (lall l).length ≤ 400 := by
 unfold litCode at h
 split at h
 ·rename_i h1
  split at h
  ·cases h
  ·exact ⟨h1, by omega, by omega⟩
 ·cases h
theorem litCode_ok {l : List UInt8} (h : litIs l = true) (h1 : dnum (xdig l) ≤ 400) (h2 : (lall l).length ≤ 400) : litCode l = 0 := by
 unfold litCode; rw [if_pos h, if_neg (by omega)]
theorem litIs_parts {l : List UInt8} (h : litIs l = true) : lall l ≠ [] ∧ xdig l ≠ [] ∧ (lall l).all isDig = true ∧ (xdig l).all isDig = true := by
 unfold litIs at h
 simp only [Bool.and_eq_true, Bool.not_eq_true', List.isEmpty_eq_false_iff] at h
 exact ⟨h.1.1, h.1.2, h.2.1, h.2.2⟩
/-! Sizes. -/
theorem pow10_le {a b : Nat} (h : a ≤ b) : 10 ^ a ≤ 10 ^ b := Nat.pow_le_pow_right (by decide) h
theorem litQ_lt (neg : Bool) (n : Nat) (k : Int) {a b K : Nat} (hn : n < 10 ^ a) (hk : k.natAbs ≤ b) (hK : a + b < K) : (litQ neg n k).num.natAbs < 10 ^ K ∧ (litQ neg n k).den < 10 ^ K := by
 have h1 : 10 ^ a ≤ 10 ^ (a + b) := pow10_le (by omega)
 have h2 : 10 ^ (a + b) < 10 ^ K := Nat.pow_lt_pow_right (by decide) hK
 have h3 : 10 ^ k.natAbs ≤ 10 ^ b := pow10_le hk
 have h4 : 10 ^ b ≤ 10 ^ (a + b) := pow10_le (by omega)
 have hp : 0 < 10 ^ k.natAbs := Nat.pow_pos (by decide)
 unfold litQ
 split
 ·have := qOf_le neg n hp
  exact ⟨by omega, by omega⟩
 ·have := qOf_le neg (n * 10 ^ k.natAbs) (d := 1) (by decide)
  have h5 : n * 10 ^ k.natAbs ≤ 10 ^ a * 10 ^ b := Nat.mul_le_mul (by omega) h3
  rw [← Nat.pow_add] at h5
  have h6 : 0 < 10 ^ b := Nat.pow_pos (by decide)
  exact ⟨by omega, by omega⟩
theorem expOf_le {l : List UInt8} {K : Nat} (h : litCode l = 0) (hl : (lall l).length ≤ K) : (expOf l).natAbs ≤ 400 + K := by
 have h1 := litCode_zero h
 have h2 := lbehind_le l
 unfold expOf sg
 split <;> omega
theorem litVal_lt {l : List UInt8} {K : Nat} (hl : l.length ≤ K) : (litVal l).num.natAbs < 10 ^ (2 * K + 401) ∧ (litVal l).den < 10 ^ (2 * K + 401) := by
 unfold litVal
 split
 ·rename_i h
  have h1 := lall_le l
  have h2 := lman_le l
  have h3 := litIs_parts (litCode_zero h).1
  have h4 := dnum_lt _ h3.2.2.1
  refine litQ_lt _ _ _ (a := K) (b := 400 + K) ?_ (expOf_le h (by omega)) (by omega)
  have := pow10_le (a := (lall l).length) (b := K) (by omega)
  omega
 ·have : 1 < 10 ^ (2 * K + 401) := Nat.one_lt_pow (by omega) (by decide)
  exact ⟨by show 0 < _; omega, this⟩
theorem litVal_lt4 (l : List UInt8) : (litVal l).num.natAbs < 10 ^ 1201 ∧ (litVal l).den < 10 ^ 1201 := by
 unfold litVal
 generalize hk : 1201 = K
 split
 ·rename_i h
  have h1 := litCode_zero h
  have h3 := litIs_parts h1.1
  have h4 := dnum_lt _ h3.2.2.1
  have h5 := expOf_le h h1.2.2
  refine litQ_lt _ _ _ (a := (lall l).length) (b := 800) h4 (by omega) (by omega)
 ·have : 1 < 10 ^ K := Nat.one_lt_pow (by omega) (by decide)
  exact ⟨by show 0 < _; omega, this⟩
theorem QB.lit (l : List UInt8) : QB (litVal l) 1201 := ⟨limbs_pow10 (litVal_lt4 l).1, limbs_pow10 (litVal_lt4 l).2⟩
/-! How often a number is divided. -/
def cnt (b n : Nat) : Nat := if h : 1 < b ∧ 0 < n ∧ n % b = 0 then cnt b (n / b) + 1 else 0
termination_by n
decreasing_by exact Nat.div_lt_self h.2.1 h.1
def crest (b n : Nat) : Nat := if h : 1 < b ∧ 0 < n ∧ n % b = 0 then crest b (n / b) else n
termination_by n
decreasing_by exact Nat.div_lt_self h.2.1 h.1
theorem cnt_more {b n : Nat} (hb : 1 < b) (hn : 0 < n) (h : n % b = 0) : cnt b n = cnt b (n / b) + 1 ∧ crest b n = crest b (n / b) := by
 constructor
 ·rw [cnt, dif_pos ⟨hb, hn, h⟩]
 ·rw [crest, dif_pos ⟨hb, hn, h⟩]
theorem cnt_end {b n : Nat} (h : ¬ n % b = 0) : cnt b n = 0 ∧ crest b n = n := by
 constructor
 ·rw [cnt, dif_neg (fun h2 => h h2.2.2)]
 ·rw [crest, dif_neg (fun h2 => h h2.2.2)]
theorem cnt_eq {b : Nat} (hb : 1 < b) (n : Nat) (hn : 0 < n) : n = b ^ cnt b n * crest b n ∧ ¬ crest b n % b = 0 ∧ 0 < crest b n := by
 induction n using Nat.strongRecOn with
 | _ n ih =>
  by_cases h : n % b = 0
  ·have h1 := cnt_more hb hn h
   have hq : 0 < n / b := Nat.div_pos (Nat.le_of_dvd hn (Nat.dvd_of_mod_eq_zero h)) (by omega)
   have h2 := ih (n / b) (Nat.div_lt_self hn hb) hq
   rw [h1.1, h1.2]
   refine ⟨?_, h2.2⟩
   have h3 : n = b * (n / b) := (Nat.mul_div_cancel' (Nat.dvd_of_mod_eq_zero h)).symm
   rw [Nat.pow_succ]
   calc n = b * (n / b) := h3
    _ = b * (b ^ cnt b (n / b) * crest b (n / b)) := by rw [← h2.1]
    _ = _ := by rw [Nat.mul_comm (b ^ cnt b (n / b)) b, Nat.mul_assoc]
  ·have h1 := cnt_end h
   rw [h1.1, h1.2]
   exact ⟨by simp, h, hn⟩
/-! The places of a fraction. -/
def left25 (q : Rat) : Nat := crest 5 (crest 2 q.den)
def fin (q : Rat) : Bool := decide (left25 q = 1)
def places (q : Rat) : Nat := max (cnt 2 q.den) (cnt 5 (crest 2 q.den))
theorem den_pos (q : Rat) : 0 < q.den := q.den_pos
theorem qOf_den_dvd (neg : Bool) (n : Nat) {d : Nat} (hd : 0 < d) : (qOf neg n d).den ∣ d := by
 rw [qOf_den hd]
 exact Nat.div_dvd_of_dvd (Nat.gcd_dvd_right n d)
end Go.Proofs.YtcpfanpcdkoiaaaGreatDoor

namespace Go.Proofs.YtcpfanpcdkoiaaaGreatDoor
open Go.RowKit


theorem tw_all (p : UInt8 → Bool) (A : List UInt8) (hA : A.all p = true) : A.takeWhile p = A ∧ A.dropWhile p = [] := by
 induction A with
 | nil => simp
 | cons x A ih =>
  simp only [List.all_cons, Bool.and_eq_true] at hA
  have := ih hA.2
  simp [List.takeWhile_cons, List.dropWhile_cons, hA.1, this.1, this.2]
theorem dnum_noughts (k : Nat) : dnum (List.replicate k 48) = 0 := by
 induction k with
 | zero => rfl
 | succ k ih => rw [List.replicate_succ', dnum_snoc, ih]; rfl
theorem dnum_pad (k : Nat) (l : List UInt8) : dnum (List.replicate k 48 ++ l) = dnum l := by rw [dnum_append, dnum_noughts]; omega
theorem take_drop_digs {l : List UInt8} (h : l.all isDig = true) (k : Nat) : (l.take k).all isDig = true ∧ (l.drop k).all isDig = true := by
 rw [← List.take_append_drop k l, List.all_append, Bool.and_eq_true] at h
 exact h
theorem litVal_of {l : List UInt8} (h : litCode l = 0) : litVal l = litQ (sneg l) (dnum (lall l)) (expOf l) := by unfold litVal; rw [if_pos h]
/-! Noughts ahead. -/
theorem strip_num {l : List UInt8} (h : l.all isDig = true) : dnum (l.dropWhile (· == 48)) = dnum l ∧ (l.dropWhile (· == 48) = [] → dnum l = 0) ∧ (l.dropWhile (· == 48) ≠ [] → numOk (l.dropWhile (· == 48)) = true) := by
 induction l with
 | nil => exact ⟨rfl, fun _ => rfl, fun h => (h rfl).elim⟩
 | cons c l ih =>
  by_cases hc : c = 48
  ·subst hc
   have h2 := ih (by simp only [List.all_cons, Bool.and_eq_true] at h; exact h.2)
   have e : dnum (48 :: l) = dnum l := by have := dnum_pad 1 l; simpa using this
   rw [e]
   simp only [List.dropWhile_cons, beq_self_eq_true, if_true]
   exact h2
  ·have hb : (c == 48) = false := by simpa using hc
   have hw : (c :: l).dropWhile (· == 48) = c :: l := by simp [List.dropWhile_cons, hb]
   rw [hw]
   refine ⟨rfl, (fun h3 => by simp at h3), fun _ => ?_⟩
   unfold numOk
   rw [h]
   simp [hc]
theorem pcode_strip {l : List UInt8} (h : l.all isDig = true) (hl : l.length ≤ 1200) (hne : l.dropWhile (· == 48) ≠ []) : pcode (l.dropWhile (· == 48)) = 0 ∧ pval (l.dropWhile (· == 48)) = dnum l := by
 have h1 := strip_num h
 have h2 := h1.2.2 hne
 have h3 := (List.dropWhile_sublist (l := l) (· == 48)).length_le
 unfold pcode pval
 rw [if_pos h2, if_pos h2, if_neg (by omega), if_neg (by omega)]
 exact ⟨rfl, h1.1⟩
end Go.Proofs.YtcpfanpcdkoiaaaGreatDoor

namespace Go.Proofs.YtcpfanpcdkoiaaaGreatDoor
open Go.RowKit


theorem places_dvd {q : Rat} {t f : Nat} (h : q.den ∣ 2 ^ t * 5 ^ f) : places q ≤ max t f := by
 have h1 := cnt_eq (b := 2) (by decide) q.den (den_pos q)
 have h2 := cnt_eq (b := 5) (by decide) (crest 2 q.den) h1.2.2
 have c25 : ∀ a b : Nat, Nat.Coprime (2 ^ a) (5 ^ b) := fun a b => Nat.Coprime.pow a b (by decide)
 have d1 : 2 ^ cnt 2 q.den ∣ 2 ^ t * 5 ^ f := Nat.dvd_trans ⟨_, h1.1⟩ h
 have d2 : 2 ^ cnt 2 q.den ∣ 2 ^ t := Nat.Coprime.dvd_of_dvd_mul_right (c25 _ _) d1
 have d3 : cnt 2 q.den ≤ t := (Nat.pow_dvd_pow_iff_le_right (by decide)).1 d2
 have e1 : 5 ^ cnt 5 (crest 2 q.den) ∣ 2 ^ t * 5 ^ f := Nat.dvd_trans (Nat.dvd_trans ⟨_, h2.1⟩ ⟨_, h1.1.trans (Nat.mul_comm _ _)⟩) h
 have e2 : 5 ^ cnt 5 (crest 2 q.den) ∣ 5 ^ f := Nat.Coprime.dvd_of_dvd_mul_left (c25 _ _).symm e1
 have e3 : cnt 5 (crest 2 q.den) ≤ f := (Nat.pow_dvd_pow_iff_le_right (by decide)).1 e2
 unfold places
 omega
theorem places_dvd10 {q : Rat} {k : Nat} (h : q.den ∣ 10 ^ k) : places q ≤ k := by
 have := places_dvd (q := q) (t := k) (f := k) (by rw [← Nat.mul_pow]; exact h)
 omega
theorem litQ_places (neg : Bool) (n : Nat) (k : Int) : places (litQ neg n k) ≤ k.natAbs := by
 unfold litQ
 split
 ·exact places_dvd10 (qOf_den_dvd _ _ (Nat.pow_pos (by decide)))
 ·exact Nat.le_trans (places_dvd10 (k := 0) (qOf_den_dvd _ _ (by decide))) (Nat.zero_le _)
theorem lit_places (l : List UInt8) : places (litVal l) ≤ 800 := by
 unfold litVal
 split
 ·rename_i h
  have h1 := litCode_zero h
  exact Nat.le_trans (litQ_places _ _ _) (Nat.le_trans (expOf_le h h1.2.2) (by decide))
 ·exact Nat.le_trans (places_dvd10 (k := 0) (by show (1 : Nat) ∣ _; exact Nat.one_dvd _)) (Nat.zero_le _)
def LOk (q : Rat) : Prop := QB q 1300 ∧ places q ≤ 1200 ∧ (dec q.num.natAbs).length ≤ 1200 ∧ (dec q.den).length ≤ 1200
theorem LOk.of {q : Rat} {K : Nat} (h1 : q.num.natAbs < 10 ^ K) (h2 : q.den < 10 ^ K) (hK : K ≤ 1200) (hK0 : 0 < K) (hp : places q ≤ 1200) : LOk q :=
 ⟨⟨Nat.le_trans (limbs_pow10 h1) (Nat.le_trans hK (by decide)), Nat.le_trans (limbs_pow10 h2) (Nat.le_trans hK (by decide))⟩, hp, Nat.le_trans (dec_le h1 hK0) hK, Nat.le_trans (dec_le h2 hK0) hK⟩
theorem LOk.lit {l : List UInt8} (h : l.length ≤ 300) : LOk (litVal l) := by
 have h1 := litVal_lt (l := l) (K := 300) h
 exact LOk.of h1.1 h1.2 (by decide) (by decide) (Nat.le_trans (lit_places l) (by decide))
end Go.Proofs.YtcpfanpcdkoiaaaGreatDoor

namespace Go.Proofs.YtcpfanpcdkoiaaaGreatDoor
open Go.RowKit


abbrev valV (k : Int) (n c : List UInt8) : Value := .agg #[.int .i64 k, .string ⟨n.toArray⟩, .string ⟨c.toArray⟩]
structure V3 where
 k : Int
 n : List UInt8
 c : List UInt8
def vnum (k : Int) (n c : List UInt8) : Bool := decide (k = 1) && (decide (c = []) && decide (qcode n = 0))
def vvalid (k : Int) (n c : List UInt8) : Bool := if k = 0 then decide (n = []) && decide (c = []) else if k = 2 then decide (n = []) && decide (c.length ≤ 60) else vnum k n c
def vtext (k : Int) (n c : List UInt8) : List UInt8 := if vvalid k n c = true then (if k = 0 then [63] else if k = 2 then 58 :: c else n) else [33]
def vpc (s : List UInt8) : Int := if s = [63] then 0 else if s.head? = some 58 then (if 60 < s.tail.length then 3 else 0) else if qcode s = 0 then 0 else litCode s
def vpk (s : List UInt8) : Int := if s = [63] then 0 else if s.head? = some 58 then (if 60 < s.tail.length then 0 else 2) else if qcode s = 0 then 1 else if litCode s = 0 then 1 else 0
def vpn (s : List UInt8) : List UInt8 := if s = [63] then [] else if s.head? = some 58 then [] else if qcode s = 0 then qtext (qval s) else if litCode s = 0 then qtext (litVal s) else []
def vpcat (s : List UInt8) : List UInt8 := if s = [63] then [] else if s.head? = some 58 then (if 60 < s.tail.length then [] else s.tail) else []
theorem vtext_bad {k : Int} {n c : List UInt8} (h : vvalid k n c = false) : vtext k n c = [33] := by
 unfold vtext; rw [h]; rfl
end Go.Proofs.YtcpfanpcdkoiaaaGreatDoor

namespace Go.Proofs.YtcpfanpcdkoiaaaGreatDoor
open Go.RowKit


structure F5 where
 nm : List UInt8
 k : Int
 vals : List (List UInt8)
 r : V3
 inv : Int
def v0 : V3 := ⟨0, [], []⟩
def fitB (f : F5) (v : V3) : Bool := if v.k = 1 then decide (f.k = 1) else decide (v.k = 2) && (decide (f.k = 2) && (decide (f.vals = []) || decide (v.c ∈ f.vals)))
def declB : List (List UInt8) → List (List UInt8) → Bool
 | _, [] => true
 | b, s :: r => decide (s.length ≤ 60) && (decide (s ∉ b) && declB (b ++ [s]) r)
def validF (f : F5) : Bool := decide (1 ≤ f.nm.length ∧ f.nm.length ≤ 60) && (decide (f.k = 1 ∨ f.k = 2) && (decide (f.inv = 1 ∨ f.inv = 2 ∨ f.inv = 3) && (decide (¬ (f.k = 1 ∧ f.vals ≠ [])) && ((declB [] f.vals && decide (f.vals.length ≤ 100)) && (vvalid f.r.k f.r.n f.r.c && (decide (f.r.k = 0) || fitB f f.r))))))
def invV (f : F5) (v : V3) : Option V3 := if f.inv = 3 then some v0 else if f.inv = 2 ∧ f.k = 2 ∧ v.k = 2 then some v else none
def prep1 (f : F5) (v : V3) : Option V3 := ((if v.k ≠ 0 ∧ fitB f v = false then invV f v else some v)).map fun u => if u.k = 0 then f.r else u
def prepL : List F5 → List V3 → Option (List V3)
 | f :: fs, v :: vs => (prep1 f v).bind fun u => (prepL fs vs).map fun us => u :: us
 | _, _ => some []
def allOk (fs : List F5) (vs : List V3) : Bool := (fs.zip vs).all fun x => validF x.1 && vvalid x.2.k x.2.n x.2.c
def prepV (fs : List F5) (vs : List V3) : List V3 × Bool × Int := if fs.length ≠ vs.length then ([], false, 16) else if allOk fs vs = false then ([], false, 1) else match prepL fs vs with | none => ([], false, 0) | some us => (us, true, 0)
theorem fit_kind {f : F5} {v : V3} (h : fitB f v = true) : v.k ≠ 0 := by
 unfold fitB at h
 intro h0
 rw [h0] at h
 simp at h
theorem prep1_fit {f : F5} {v : V3} (h : fitB f v = true) : prep1 f v = some v := by
 unfold prep1
 rw [if_neg (by rw [h]; simp), Option.map_some, if_neg (fit_kind h)]
end Go.Proofs.YtcpfanpcdkoiaaaGreatDoor
