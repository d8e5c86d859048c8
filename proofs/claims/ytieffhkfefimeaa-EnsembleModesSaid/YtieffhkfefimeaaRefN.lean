import Derived.Test.YtieffhkfefimeaaNatN2
import Derived.Test.YtieffhkfefimeaaRangeN
import Derived.Test.YtieffhkfefimeaaMathN
import Derived.Laws.AppendOwnNone
namespace Go.Proofs.Ytieffhkfefimeaa
open Go.RowKit
set_option linter.unusedVariables false
set_option linter.unusedSimpArgs false
/-- A number of the document's in memory. -/
def RIs (w : World) (v : Value) (n : Nat) : Prop := Ints .i64 w v (rlimbs n)
theorem RIs.below {w w' : World} {v : Value} {n : Nat} (h : RIs w v n) (hb : Below w.heap.size w w') : RIs w' v n := Ints.below h hb
theorem RIs.open {w : World} {v : Value} {n : Nat} (h : RIs w v n) : ∃ ao cap, v = .slice ao (rlimbs n).length cap ∧ (rlimbs n).length ≤ cap ∧ cap ≤ 9223372036854775807 ∧ (ao = none → cap = 0) ∧ Cells .i64 w ao (rlimbs n) := h
theorem RIs.nil (w : World) : RIs w (.slice none 0 0) 0 := ⟨none, 0, by rw [rlimbs_zero]; rfl, by rw [rlimbs_zero]; simp, Nat.zero_le _, fun _ => rfl, .inl rlimbs_zero⟩
theorem Cells.none_nil {k : IntKind} {w : World} {xs : List Nat} (h : Cells k w none xs) : xs = [] := by
  rcases h with h | ⟨_, _, h, _⟩
  · exact h
  · cases h
/-- What trim hands back reads as the number. -/
theorem rtrim_is {w' : World} {ao : Option Addr} {cap : Nat} {xs : List Nat} (hc : Cells .i64 w' ao xs) (hcap : xs.length ≤ cap) (hx : ∀ x ∈ xs, x < 10000) (hm : cap ≤ maxLen) (hn : ao = none → cap = 0) :
    RIs w' (.slice ao (rlimbs (rval xs)).length cap) (rval xs) := by
  refine ⟨ao, cap, rfl, Nat.le_trans (rval_rlimbs_length_le xs hx) hcap, hm, hn, ?_⟩
  obtain ⟨k, hk, e⟩ := rlimbs_prefix xs hx
  rw [e]
  exact hc.take k
theorem rcmp_lt {a b k : Nat} (hl : (rlimbs a).length = (rlimbs b).length) (h : EqFrom (rlimbs a) (rlimbs b) (k + 1)) (hk : (rlimbs a)[k]?.getD 0 < (rlimbs b)[k]?.getD 0) : a < b := by
  have := rval_lt_of_top (rlimbs_lt a) (rlimbs_lt b) hl (fun j hj => h j hj) hk
  rwa [rval_rlimbs, rval_rlimbs] at this
theorem rcmp_eq {a b : Nat} (hl : (rlimbs a).length = (rlimbs b).length) (h : EqFrom (rlimbs a) (rlimbs b) 0) : a = b := by
  have : rlimbs a = rlimbs b := ext_getD hl (fun i _ => h i (Nat.zero_le _))
  rw [← rval_rlimbs a, this, rval_rlimbs]
end Go.Proofs.Ytieffhkfefimeaa
namespace Go.Proofs.Ytieffhkfefimeaa
open Go.RowKit
set_option linter.unusedVariables false
set_option linter.unusedSimpArgs false
theorem Try.info3 : (Try.prog.info? 3).map (fun i => (i.zero, i.size, i.bytes)) = some (some (.int .i64 0), 1, 8) := by kernel_rfl
theorem owns_cast {base : Nat} {e : TypeId} {w : World} {v : Value} {xs ys : List Value} (h : Owns base e w v xs) (he : xs = ys) : Owns base e w v ys := he ▸ h
theorem RAdd.over {xs ys zs : List Nat} {k c : Nat} (h : RAdd xs ys k c zs) (hx : ∀ x ∈ xs, x < 10000) (hy : ∀ y ∈ ys, y < 10000) (h1 : xs.length < k) (h2 : ys.length < k) : c = 0 := by
  have he := h.eq
  rw [List.take_of_length_le (l := xs) (by omega), List.take_of_length_le (l := ys) (by omega)] at he
  have a1 := rval_lt xs hx
  have a2 := rval_lt ys hy
  obtain ⟨j, rfl⟩ : ∃ j, k = j + 1 := ⟨k - 1, by omega⟩
  have a3 : (10000 : Nat) ^ xs.length ≤ 10000 ^ j := Nat.pow_le_pow_right (by decide) (by omega)
  have a4 : (10000 : Nat) ^ ys.length ≤ 10000 ^ j := Nat.pow_le_pow_right (by decide) (by omega)
  rw [Nat.pow_succ, Nat.mul_assoc] at he
  rcases Nat.eq_zero_or_pos c with h0 | h0
  · exact h0
  · exfalso
    have a5 : 10000 ^ j * 2 ≤ 10000 ^ j * (10000 * c) := Nat.mul_le_mul_left _ (by omega)
    generalize 10000 ^ j * (10000 * c) = R at *
    omega
end Go.Proofs.Ytieffhkfefimeaa
namespace Go.Proofs.Ytieffhkfefimeaa
open Go.RowKit
set_option linter.unusedVariables false
set_option linter.unusedSimpArgs false
theorem Mut.drewN {k : IntKind} {w : World} {g off : Nat} {xs : List Nat} (h : Mut k w g off xs) (n : Nat) : Mut k (w.drewN n) g off xs := ⟨h.lt, h.cell, h.free⟩
theorem below_drewN {B : Nat} {w w' : World} (h : Below B w w') (n : Nat) : Below B w (w'.drewN n) := ⟨h.os, h.tape, h.output, h.size, h.block⟩
end Go.Proofs.Ytieffhkfefimeaa
namespace Go.Proofs.Ytieffhkfefimeaa
open Go.RowKit
set_option linter.unusedVariables false
set_option linter.unusedSimpArgs false
/-- One element's slice, just built, is the call's own. -/
theorem one_owns (w : World) (x : Value) (hx : x.oneCell' = true) : Owns w.heap.size 3 (w.alloc (.cells #[x] 3)) (.slice (some ⟨w.heap.size, 0, none⟩) 1 1) [x] :=
  ⟨rfl, .inr ⟨w.heap.size, 1, #[x], rfl, Nat.le_refl _, heap_alloc_new w _, by simp, by unfold maxLen; omega, by simp, by simp⟩⟩
theorem one_cells (w : World) (x : Nat) : Cells .i64 (w.alloc (.cells #[.int .i64 (x : Int)] 3)) (some ⟨w.heap.size, 0, none⟩) [x] := by
  refine .inr ⟨w.heap.size, 0, rfl, by simp, fun i hi => ?_⟩
  match i, hi with
  | 0, _ => go_simp
theorem one_is (w : World) {x : Nat} (h0 : 0 < x) (h : x < 10000) : RIs (w.alloc (.cells #[.int .i64 (x : Int)] 3)) (.slice (some ⟨w.heap.size, 0, none⟩) 1 1) x := by
  unfold RIs
  rw [rlimbs_small h0 h]
  exact ⟨_, 1, rfl, by simp, by decide, (fun h => by cases h), one_cells w x⟩
theorem cmp_le0 {a b : Nat} (h : a ≤ b) : cmpI a b ≤ 0 := by
  unfold cmpI
  by_cases h1 : a < b
  · rw [if_pos h1]; omega
  · rw [if_neg h1, if_neg (by omega)]; omega
theorem Cells.setOff {k : IntKind} {w : World} {ao : Option Addr} {xs : List Nat} (h : Cells k w ao xs) {p : Addr} (u : Value) (hp : ∀ ad, ao = some ad → ad.block ≠ p.block) : Cells k (w.setCell p u) ao xs := by
  rcases h with h | ⟨b, off, h1, h2, h3⟩
  · exact .inl h
  · refine .inr ⟨b, off, h1, by simpa [World.setCell] using h2, fun i hi => ?_⟩
    rw [World.cell?_setCell_other]
    · exact h3 i hi
    · intro e'
      exact hp _ h1 (congrArg Addr.block e').symm
theorem RIs.setOff {w : World} {ao : Option Addr} {l c n : Nat} (h : RIs w (.slice ao l c) n) {p : Addr} (u : Value) (hp : ∀ ad, ao = some ad → ad.block ≠ p.block) : RIs (w.setCell p u) (.slice ao l c) n := by
  obtain ⟨ao', cap, e, h1, h2, h3, h4⟩ := h
  cases e
  exact ⟨ao, c, rfl, h1, h2, h3, h4.setOff u hp⟩
theorem div_between {R b lo : Nat} (h1 : b * lo ≤ R) (h2 : R < b * (lo + 1)) : R / b = lo := by
  have hb : 0 < b := by
    rcases Nat.eq_zero_or_pos b with h | h
    · subst h; simp at h2
    · exact h
  rw [Nat.mul_comm] at h1
  exact Nat.div_eq_of_lt_le h1 (by rw [Nat.mul_comm]; exact h2)
end Go.Proofs.Ytieffhkfefimeaa
namespace Go.Proofs.Ytieffhkfefimeaa
open Go.RowKit
set_option linter.unusedVariables false
set_option linter.unusedSimpArgs false
theorem RTxt.digit {n v D m : Nat} {ds : List Nat} (h : RTxt n ds (v + 10 ^ (m + 1) * D)) : RTxt n (ds ++ [v % 10]) (v / 10 + 10 ^ m * D) := by
  have h1 := h.next
  have e1 : (v + 10 ^ (m + 1) * D) % 10 = v % 10 := by rw [Nat.pow_succ, Nat.mul_comm (10 ^ m) 10, Nat.mul_assoc, Nat.add_mul_mod_self_left]
  have e2 : (v + 10 ^ (m + 1) * D) / 10 = v / 10 + 10 ^ m * D := by rw [Nat.pow_succ, Nat.mul_comm (10 ^ m) 10, Nat.mul_assoc, Nat.add_mul_div_left _ _ (by decide)]
  rwa [e1, e2] at h1
theorem one8_cells (w : World) (x : Nat) : Cells .u8 (w.alloc (.cells #[.int .u8 (x : Int)] 5)) (some ⟨w.heap.size, 0, none⟩) [x] := by
  refine .inr ⟨w.heap.size, 0, rfl, by simp, fun i hi => ?_⟩
  match i, hi with
  | 0, _ => go_simp
/-- The text of the digits so far. -/
def TX (T : List UInt8) (ds : List Nat) (k : Nat) : Prop := T = str (ds.reverse.map (48 + ·)) ∧ ds.length = k
theorem tx_cast {T T' : List UInt8} {ds : List Nat} {k : Nat} (h : TX T ds k) (e : T = T') : TX T' ds k := e ▸ h
theorem TX.len {T : List UInt8} {ds : List Nat} {k : Nat} (h : TX T ds k) : T.length = k := by rw [h.1, ← h.2]; simp [str]
theorem TX.snoc {T : List UInt8} {ds : List Nat} {k : Nat} (h : TX T ds k) (d : Nat) : TX (str [48 + d] ++ T) (ds ++ [d]) (k + 1) := by
  refine ⟨?_, by simp [h.2]⟩
  rw [h.1]; simp [str]
theorem str_app (l m : List UInt8) : (⟨l.toArray⟩ ++ ⟨m.toArray⟩ : ByteArray) = ⟨(l ++ m).toArray⟩ := by
  apply ByteArray.ext
  simp
theorem cons_bytes8 (c : UInt8) (l : List UInt8) : (⟨#[c]⟩ ++ ⟨l.toArray⟩ : ByteArray) = ⟨(c :: l).toArray⟩ := by
  apply ByteArray.ext
  simp
theorem str_dec0 : str (dec 0) = [48] := by decide
theorem str_cons (d : Nat) (ds : List Nat) : (⟨(str [48 + d]).toArray⟩ ++ ⟨(str (ds.reverse.map (48 + ·))).toArray⟩ : ByteArray) = ⟨(str ((ds ++ [d]).reverse.map (48 + ·))).toArray⟩ := by
  apply ByteArray.ext
  simp [str]
theorem top_pos {n i : Nat} (h : i + 1 = (rlimbs n).length) : 0 < (rlimbs n)[i]?.getD 0 := by
  have hne : rlimbs n ≠ [] := by intro h0; rw [h0] at h; simp at h
  have h2 := rlimbs_getLast n hne
  rw [List.getLast_eq_getElem] at h2
  rw [List.getElem?_eq_getElem (by omega)]
  simp only [Option.getD_some]
  have h3 : (rlimbs n).length - 1 = i := by omega
  simp only [h3] at h2
  omega
/-- How the digits of limb i stand at digit k. -/
structure RT (n : Nat) (i k v : Nat) (ds : List Nat) : Prop where
  txt : RTxt n ds (v + 10 ^ (4 - k) * rval ((rlimbs n).drop (i + 1)))
  small : v < 10 ^ (4 - k)
  last : i + 1 = (rlimbs n).length → 0 < v ∨ ∀ hd : ds ≠ [], ds.getLast hd ≠ 0
theorem RT.start {n i : Nat} {ds : List Nat} (h : RTxt n ds (rval ((rlimbs n).drop i))) (hi : i < (rlimbs n).length) : RT n i 0 ((rlimbs n)[i]?.getD 0) ds := by
  refine ⟨?_, getD_lt (rlimbs_lt n) (by decide), fun h1 => .inl (top_pos h1)⟩
  rw [rval_drop hi] at h
  exact h
theorem RT.next {n i k v : Nat} {ds : List Nat} (h : RT n i k v ds) (hk : k < 4) (hgo : i + 1 < (rlimbs n).length ∨ 0 < v) : RT n i (k + 1) (v / 10) (ds ++ [v % 10]) := by
  obtain ⟨m, hm⟩ : ∃ m, 4 - k = m + 1 := ⟨3 - k, by omega⟩
  have hm2 : 4 - (k + 1) = m := by omega
  have h1 := h.txt
  have h2 := h.small
  rw [hm] at h1 h2
  refine ⟨by rw [hm2]; exact h1.digit, ?_, fun hl => ?_⟩
  · rw [hm2]; rw [Nat.pow_succ] at h2; exact Nat.div_lt_of_lt_mul (by rw [Nat.mul_comm]; exact h2)
  · rcases Nat.eq_zero_or_pos (v / 10) with h0 | h0
    · refine .inr fun hd => ?_
      rw [List.getLast_append_of_ne_nil _ (by simp)]
      simp only [List.getLast_singleton]
      omega
    · exact .inl h0
theorem RT.row {n i k v : Nat} {ds : List Nat} (h : RT n i k v ds) (hi : i < (rlimbs n).length) (hend : k = 4 ∨ (i + 1 = (rlimbs n).length ∧ v = 0)) (hk : k ≤ 4) : RTxt n ds (rval ((rlimbs n).drop (i + 1))) ∧ (i + 1 = (rlimbs n).length → ∀ hd : ds ≠ [], ds.getLast hd ≠ 0) := by
  have h1 := h.txt
  have h2 := h.small
  have hv : v = 0 := by
    rcases hend with h3 | h3
    · rw [h3] at h2; simpa using h2
    · exact h3.2
  subst hv
  refine ⟨?_, fun hl => ?_⟩
  · rw [Nat.zero_add] at h1
    rcases hend with h3 | h3
    · rw [h3] at h1; simpa using h1
    · have : rval ((rlimbs n).drop (i + 1)) = 0 := by rw [List.drop_of_length_le (by omega)]; rfl
      rw [this] at h1 ⊢
      simpa using h1
  · rcases h.last hl with h3 | h3
    · omega
    · exact h3
theorem RT.done {n : Nat} {ds : List Nat} (h : RTxt n ds (rval ((rlimbs n).drop (rlimbs n).length))) (hn : 0 < n) (ht : ∀ hd : ds ≠ [], ds.getLast hd ≠ 0) : ds.reverse.map (48 + ·) = dec n := by
  rw [List.drop_length] at h
  exact h.done hn ht
end Go.Proofs.Ytieffhkfefimeaa
namespace Go.Proofs.Ytieffhkfefimeaa
open Go.RowKit
set_option linter.unusedVariables false
set_option linter.unusedSimpArgs false
theorem foldl_dnum (l : List UInt8) : ∀ a, l.foldl (fun a c => a * 10 + (c.toNat - 48)) a = a * 10 ^ l.length + dnum l := by
  induction l with
  | nil => intro a; simp [dnum]
  | cons c l ih =>
    intro a
    unfold dnum
    rw [List.foldl_cons, List.foldl_cons, ih, ih (0 * 10 + _), List.length_cons, Nat.pow_succ, Nat.add_mul, Nat.zero_mul, Nat.zero_add, Nat.mul_comm (10 ^ l.length) 10, ← Nat.mul_assoc, Nat.add_assoc]
theorem dnum_append (xs ys : List UInt8) : dnum (xs ++ ys) = dnum xs * 10 ^ ys.length + dnum ys := by
  rw [show dnum (xs ++ ys) = ys.foldl (fun a c => a * 10 + (c.toNat - 48)) (dnum xs) by simp [dnum], foldl_dnum]
/-- The places from e on are told: groups of four digits. -/
structure PG (l : List UInt8) (e : Nat) (ds : List Nat) : Prop where
  lt : ∀ d ∈ ds, d < 10000
  eq : dnum l = dnum (l.take e) * 10000 ^ ds.length + rval ds
theorem PG.start (l : List UInt8) : PG l l.length [] := ⟨by simp, by simp [rval]⟩
theorem PG.next {l : List UInt8} {e f : Nat} {ds : List Nat} (h : PG l e ds) (hd : l.all isDig = true) (he : e ≤ l.length) (hf : (f + 4 = e) ∨ (f = 0 ∧ e ≤ 4)) : dnum ((l.take e).drop f) < 10000 ∧ PG l f (ds ++ [dnum ((l.take e).drop f)]) := by
  have hfe : f ≤ e := by omega
  have hlen : ((l.take e).drop f).length = e - f := by simp; omega
  have hall : ((l.take e).drop f).all isDig = true := by
    rw [List.all_eq_true] at hd ⊢
    exact fun x hx => hd x (List.mem_of_mem_take (List.mem_of_mem_drop hx))
  have hlt : dnum ((l.take e).drop f) < 10000 := by
    have := dnum_lt _ hall
    rw [hlen] at this
    exact Nat.lt_of_lt_of_le this (Nat.le_trans (Nat.pow_le_pow_right (by decide) (show e - f ≤ 4 by omega)) (by decide))
  refine ⟨hlt, lt_snoc h.lt hlt, ?_⟩
  have hsp : l.take e = l.take f ++ (l.take e).drop f := by
    have : (l.take e).take f = l.take f := by rw [List.take_take, Nat.min_eq_left hfe]
    rw [← this, List.take_append_drop]
  have h1 : dnum (l.take e) = dnum (l.take f) * 10 ^ (e - f) + dnum ((l.take e).drop f) := by
    rw [← hlen, ← dnum_append, ← hsp]
  have h2 : dnum (l.take f) * 10 ^ (e - f) = dnum (l.take f) * 10000 := by
    rcases hf with hf | ⟨hf, _⟩
    · rw [show e - f = 4 by omega]
    · subst hf; simp [dnum]
  rw [h.eq, h1, h2, rval_append, List.length_append, List.length_singleton, Nat.pow_succ]
  simp only [rval, Nat.mul_zero, Nat.add_zero]
  rw [Nat.add_mul, Nat.mul_assoc, Nat.mul_comm 10000, Nat.mul_comm (dnum ((l.take e).drop f)) (10000 ^ ds.length)]
  omega
theorem PG.done {l : List UInt8} {ds : List Nat} (h : PG l 0 ds) : rval ds = dnum l := by
  have := h.eq
  simp [dnum] at this
  simpa [dnum] using this.symm
theorem take_drop_snoc {l : List UInt8} {f k : Nat} (hk : k < l.length) (hf : f ≤ k) : (l.take (k + 1)).drop f = (l.take k).drop f ++ [l[k]?.getD 0] := by
  rw [List.take_add_one, List.drop_append_of_le_length (by simp; omega), List.getElem?_eq_getElem hk]; rfl
theorem dig_at {l : List UInt8} {k : Nat} (hd : l.all isDig = true) (hk : k < l.length) : 48 ≤ (l[k]?.getD 0).toNat ∧ (l[k]?.getD 0).toNat ≤ 57 := by
  rw [List.getElem?_eq_getElem hk]
  exact isDig_iff.1 (List.all_eq_true.1 hd _ (List.getElem_mem hk))
theorem dnum_small {l : List UInt8} {f k : Nat} (hd : l.all isDig = true) (hk : k ≤ f + 4) : dnum ((l.take k).drop f) ≤ 9999 := by
  have hall : ((l.take k).drop f).all isDig = true := by
    rw [List.all_eq_true] at hd ⊢
    exact fun x hx => hd x (List.mem_of_mem_take (List.mem_of_mem_drop hx))
  have h1 := dnum_lt _ hall
  have h2 : ((l.take k).drop f).length ≤ 4 := by simp; omega
  have := Nat.lt_of_lt_of_le h1 (Nat.pow_le_pow_right (by decide) h2)
  have e : (10 : Nat) ^ 4 = 10000 := by decide
  omega
def RPost (w : World) (l : List UInt8) (e : Ending) (w' : World) : Prop := ∃ r, e = .returned (.tuple #[r, .int .i64 (pcode l)]) ∧ RIs w' r (pval l) ∧ Below w.heap.size w w'
theorem RPost.bad {w W : World} {l : List UInt8} (h : numOk l = false) (hb : Below w.heap.size w W) : RPost w l (.returned (.tuple #[.slice none 0 0, .int .i64 3])) W :=
  ⟨_, by unfold pcode; rw [h]; rfl, by unfold pval; rw [h]; exact RIs.nil _, hb⟩
theorem RPost.long {w W : World} {l : List UInt8} (h : numOk l = true) (hl : 1200 < l.length) (hb : Below w.heap.size w W) : RPost w l (.returned (.tuple #[.slice none 0 0, .int .i64 2])) W :=
  ⟨_, by unfold pcode; rw [h, if_pos rfl, if_pos hl], by unfold pval; rw [h, if_pos rfl, if_pos hl]; exact RIs.nil _, hb⟩
theorem RPost.good {w W : World} {l : List UInt8} {r : Value} (h : numOk l = true) (hl : ¬ 1200 < l.length) (hr : RIs W r (dnum l)) (hb : Below w.heap.size w W) : RPost w l (.returned (.tuple #[r, .int .i64 0])) W :=
  ⟨_, by unfold pcode; rw [h, if_pos rfl, if_neg hl], by unfold pval; rw [h, if_pos rfl, if_neg hl]; exact hr, hb⟩
/-- All but the first test. -/
def headOk (l : List UInt8) : Prop := l.all isDig = true → numOk l = true
end Go.Proofs.Ytieffhkfefimeaa
namespace Go.Proofs.Ytieffhkfefimeaa
open Go.RowKit
set_option linter.unusedVariables false
set_option linter.unusedSimpArgs false
theorem rlen_zero {n : Nat} : (rlimbs n).length = 0 ↔ n = 0 := by
  rw [List.length_eq_zero_iff, rlimbs_eq_nil]
theorem rl_two {m K : Nat} (h : m < K) : (rlimbs (2 ^ m)).length ≤ K := by
  refine rlimbs_length_le (Nat.lt_of_lt_of_le (Nat.pow_lt_pow_right (by decide) h) ?_)
  exact Nat.pow_le_pow_left (by decide) _
theorem rl_pow {m : Nat} (h : m ≤ 10000) : (rlimbs (2 ^ m)).length ≤ 10001 := rl_two (by omega)
end Go.Proofs.Ytieffhkfefimeaa
