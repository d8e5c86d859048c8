/-
  Pc21: SeqI BookM IterL StrQ RatD SeqU LawSp (what is needed of them).
-/
import Derived.Test.YtieffhkfefimeaaGreatDoorPc07
import Derived.Test.YtieffhkfefimeaaGreatDoorPc08
import Derived.Test.YtieffhkfefimeaaGreatDoorPc09
import Derived.Test.YtieffhkfefimeaaGreatDoorPc13
import Derived.Test.YtieffhkfefimeaaGreatDoorPc14
import Derived.Test.YtieffhkfefimeaaGreatDoorPc18
import Derived.Test.YtieffhkfefimeaaGreatDoorPc19
import Derived.RangeFuncNested
import Derived.RangeFuncBound
import Derived.RangeFuncCalls
import Derived.OwnWalkIn
import Derived.OrdersIn
import Derived.Lib.Bytealg
import Derived.BigCall
set_option maxRecDepth 100000
set_option linter.unusedVariables false
set_option linter.unusedSimpArgs false

namespace Go.Proofs.YtieffhkfefimeaaGreatDoor
open Go.RowKit

section
variable {P : Program} {ops : Array Oper} {Q : Exit → Act → World → Prop} {S : World → Prop} {md : Region.Mode}
theorem rowsIn_round {l n : Nat} {row : String} {args : Array Value} {w : World} {R : Value → World → Prop} (h : Rows P row args w R) : RowsIn (Fence.wide.inRound l) n P row args w R :=
 fun c cs _ => let ⟨v, w', r, s⟩ := h c cs; ⟨v, w', r, stepsIn_wide.2 s⟩
theorem callsIn_round {l n : Nat} {f : FuncId} {args : Array Value} {w : World} {R : Ending → World → Prop} (h : Calls P f args w R) : CallsIn (Fence.wide.inRound l) n P f args w R :=
 callsIn_wide.2 h
theorem wpIn_of_wp {l : Nat} {o : Oper} {a : Act} {w : World} {K K' : Act → World → Prop} (hnd : ∀ c, o.op ≠ .defer c) (h : ∀ a w, K a w → K' a w) (hh : Oper.wp P o a w K Q) : Oper.wpIn (Fence.wide.inRound l) 0 P o a w K' Q := by
 unfold Oper.wp at hh
 refine ⟨fun f _ => trivial, ?_⟩
 rw [Oper.semAt_plain _ _ _ hnd]
 generalize (execOp a.eval o).run P w = r at *
 cases r with
 | ok x w' =>
  cases x <;> simp only [Oper.upon, Oper.uponIn] at hh ⊢ <;>
   first
    | exact h _ _ hh
    | exact ⟨fun h9 => by simp [Fence.wide] at h9, callsIn_round (Calls.mono hh (fun e w'' he => by cases e <;> first | exact h _ _ he | exact he))⟩
    | exact ⟨fun h9 => by simp [Fence.wide] at h9, rowsIn_round (Rows.mono hh (fun _ _ he => h _ _ he))⟩
    | exact hh.elim
 | halt x w' => cases x <;> simp only [Oper.upon, Oper.uponIn] at hh ⊢ <;> exact hh
def noDefers (ops : Array Oper) : Bool := ops.toList.all fun o => match o.op with | .defer _ => false | _ => true
theorem wpOpIn_of_wpOp {l i : Nat} {a : Act} {w : World} {K K' : Act → World → Prop} (hnd : noDefers ops = true) (hlo : ¬ LetsOut Q) (h : ∀ a w, K a w → K' a w) (hh : wpOp P ops Q i K a w) : wpOpIn (Fence.wide.inRound l) 0 P ops Q i K' a w := by
 unfold wpOp at hh
 unfold wpOpIn
 split
 ·exact h _ _ (by simpa [*] using hh)
 ·rename_i o ho
  simp only [ho] at hh
  have hno : ∀ c, o.op ≠ .defer c := fun c e => by
   unfold noDefers at hnd
   have h1 := List.all_eq_true.1 hnd o (Array.mem_toList_iff.2 (Array.mem_of_getElem? ho))
   rw [e] at h1
   simp at h1
  split
  ·rename_i hw
   simp only [hw, if_true] at hh
   rcases hh with hh | ⟨_, hh⟩
   ·exact wpIn_of_wp hno h hh
   ·exact (hlo hh).elim
  ·rename_i hw
   simp only [hw] at hh
   exact ⟨fun f _ => trivial, h _ _ hh⟩
theorem wpAnyIn_of_wpAny {l : Nat} (hnd : noDefers ops = true) (hlo : ¬ LetsOut Q) : ∀ (fuel : Nat) (listed : Array Bool) (a : Act) (w : World), wpAny P md ops Q fuel listed a w → wpAnyIn (Fence.wide.inRound l) 0 P md ops Q fuel listed a w := by
 intro fuel
 induction fuel with
 | zero => intro listed a w h; exact h
 | succ fuel ih =>
  intro listed a w h
  exact ⟨h.1, fun i hi => wpOpIn_of_wpOp hnd hlo (fun a w h9 => ih _ a w h9) (h.2 i hi)⟩
theorem wpIn_region_seq {l9 id : Nat} {a : Act} {w : World} (l : List (Bool × Nat)) (hnd : noDefers ops = true) (hlo : ¬ LetsOut Q) (hm : P.follows .mixedOrders = true) (hs : Region.noSelect ops = true) (hl : l.length = ops.size) (hlt : (l.all fun x => decide (x.2 < ops.size)) = true)
  (hk : seqOk ops l (Array.replicate ops.size false) = true) (hQ : ∀ d v c a w, Q (.panic c) (a.put d v) w → Q (.panic c) a w) (hS : S w.drew)
  (h : S w.drew → wpSeqH P ops Q S (pickOps ops l) a w.drew) : (Code.region id ops true).wpIn (Fence.wide.inRound l9) 0 P Q a w := by
 have h1 := wpAnyH_of_seq (P := P) (Q := Q) (S := S) hs hQ l _ _ _ hk hlt hS (h hS)
 rw [hl] at h1
 exact wpIn_region_any hm (wpAnyIn_of_wpAny hnd hlo _ _ _ _ (wpAny_of_held _ _ _ _ h1))
end
end Go.Proofs.YtieffhkfefimeaaGreatDoor

namespace Go.Proofs.YtieffhkfefimeaaGreatDoor
open Go.RowKit Go.Shelf


def NotIS (c : Value) : Prop := (∀ k n, c ≠ .int k n) ∧ ∀ t, c ≠ .string t
theorem keepIS_grown {W w1 : World} {v : Value} (hg : W.grownBy w1 v.ownBlock) (ha : RowAll NotIS W v) : KeepI W w1 ∧ ∀ p t, W.cell? p = some (.string t) → w1.cell? p = some (.string t) := by
 refine ⟨KeepI.grown hg (fun g hg9 j c hc => (ha g hg9 j c hc).1), fun p t hp => ?_⟩
 refine hg.cell hp ?_
 intro e
 obtain ⟨blk, off, spot⟩ := p
 have : spot = none := by
  unfold World.cell? at hp
  split at hp
  ·cases spot with
   | none => rfl
   | some x => simp at hp
  ·cases hp
 subst this
 exact (ha blk e.symm off _ hp).2 t rfl
theorem QIs.keepI {W W' : World} {v : Value} {q : Rat} (h : QIs W v q) (hk : KeepI W W') : QIs W' v q := by
 obtain ⟨a, b1, c, d, e, f, rfl, h1, h2⟩ := h
 exact ⟨a, b1, c, d, e, f, rfl, h1.keepI hk, h2.keepI hk⟩
structure QRow (base : Nat) (W : World) (v : Value) (qs : List Rat) (xs : List Value) : Prop where
 own : OwnsK 3 base 81 W v qs.length xs
 each : ∀ k, k < qs.length → ∃ x y z, xs[k * 3]? = some x ∧ xs[k * 3 + 1]? = some y ∧ xs[k * 3 + 2]? = some z ∧ QIs W (.agg #[x, y, z]) (qs[k]?.getD 0)
 all : RowAll NotIS W v
theorem QRow.nil (base : Nat) (W : World) : QRow base W (.slice none 0 0) [] [] := ⟨OwnsK.nil _ _ _ _, fun k hk => by simp at hk, fun g hg => by cases hg⟩
theorem QRow.keepN {base : Nat} {W W' : World} {v : Value} {qs : List Rat} {xs : List Value} (h : QRow base W v qs xs) (ho : OwnsK 3 base 81 W' v qs.length xs) (hk : KeepNat W W') (hb : ∀ g, v.ownBlock = some g → W'.heap[g]? = W.heap[g]?) : QRow base W' v qs xs :=
 ⟨ho, fun k hk9 => by
  obtain ⟨x, y, z, h1, h2, h3, h4⟩ := h.each k hk9
  exact ⟨x, y, z, h1, h2, h3, h4.keep hk⟩, h.all.block hb⟩
theorem QRow.snoc {base : Nat} {W W' : World} {v v' : Value} {qs : List Rat} {xs : List Value} {x y z : Value} {q : Rat} (h : QRow base W v qs xs) (ho : OwnsK 3 base 81 W' v' (qs.length + 1) (xs ++ [x, y, z])) (hk : KeepNat W W') (hq : QIs W' (.agg #[x, y, z]) q) (ha : RowAll NotIS W' v') : QRow base W' v' (qs ++ [q]) (xs ++ [x, y, z]) := by
 have hl := h.own.len
 refine ⟨by rw [List.length_append]; exact ho, fun k hk9 => ?_, ha⟩
 rw [List.length_append, List.length_singleton] at hk9
 by_cases hlt : k < qs.length
 ·obtain ⟨x1, y1, z1, h1, h2, h3, h4⟩ := h.each k hlt
  refine ⟨x1, y1, z1, ?_, ?_, ?_, ?_⟩
  ·rw [List.getElem?_append_left (by omega)]; exact h1
  ·rw [List.getElem?_append_left (by omega)]; exact h2
  ·rw [List.getElem?_append_left (by omega)]; exact h3
  ·rw [List.getElem?_append_left hlt]; exact h4.keep hk
 ·have he : k = qs.length := by omega
  subst he
  refine ⟨x, y, z, ?_, ?_, ?_, ?_⟩
  ·rw [List.getElem?_append_right (by omega), hl]; simp
  ·rw [List.getElem?_append_right (by omega), hl]; simp
  ·rw [List.getElem?_append_right (by omega), hl]; simp
  ·rw [List.getElem?_append_right (Nat.le_refl _)]; simpa using hq
theorem QRow.row {base pn B : Nat} {W : World} {v : Value} {qs : List Rat} {xs : List Value} (h : QRow base W v qs xs) (hB : W.heap.size ≤ B) (hpn : ∀ g, v.ownBlock = some g → g ≠ pn) : RatRow W v qs B pn := by
 rcases h.own.shape with ⟨e, hn⟩ | ⟨g, cap, e, h1, h2, h3, h4, h5, h6⟩
 ·have hq : qs = [] := List.eq_nil_of_length_eq_zero hn
  subst hq
  exact ⟨⟨none, 0, e, .inl rfl⟩⟩
 ·refine ⟨⟨some ⟨g, 0, none⟩, cap, e, .inr ⟨g, rfl, by omega, h2, hpn g (by rw [e]; rfl), fun i hi => ?_⟩⟩⟩
  obtain ⟨x, y, z, k1, k2, k3, k4⟩ := h.each i hi
  refine ⟨x, y, z, ?_, ?_, ?_, ?_⟩
  ·rw [h5 _ (by omega)]; exact k1
  ·rw [h5 _ (by omega)]; exact k2
  ·rw [h5 _ (by omega)]; exact k3
  ·simpa [List.getElem?_eq_getElem hi] using k4
end Go.Proofs.YtieffhkfefimeaaGreatDoor

namespace Go.Proofs.YtieffhkfefimeaaGreatDoor
open Go.RowKit


attribute [local go_sem] field_nat
theorem den0_one {a : Rat} (h : ¬ a.den = 1) : den0 a = a.den := by
 unfold den0
 rw [if_neg (fun h0 => h (by rw [h0]; rfl))]
theorem qb_pw {a : Rat} (hs : Hid (false = decide (a < 0))) (h : a.den = 1) : (⟨(str (dec a.num.natAbs)).toArray⟩ : ByteArray) = ⟨(qtext a).toArray⟩ := by
 unfold qtext; rw [← hs.out, if_pos h]; simp
theorem qb_nw {a : Rat} (hs : Hid (true = decide (a < 0))) (h : a.den = 1) : (⟨#[45]⟩ ++ ⟨(str (dec a.num.natAbs)).toArray⟩ : ByteArray) = ⟨(qtext a).toArray⟩ := by
 unfold qtext; rw [← hs.out, if_pos h, cons_bytes]; simp
theorem qb_pf {a : Rat} (hs : Hid (false = decide (a < 0))) (h : ¬ a.den = 1) : (⟨(str (dec a.num.natAbs)).toArray⟩ ++ (⟨#[47]⟩ ++ ⟨(str (dec a.den)).toArray⟩) : ByteArray) = ⟨(qtext a).toArray⟩ := by
 unfold qtext; rw [← hs.out, if_neg h, cons_bytes, bytes_append]; simp
theorem qb_nf {a : Rat} (hs : Hid (true = decide (a < 0))) (h : ¬ a.den = 1) : ((⟨#[45]⟩ ++ ⟨(str (dec a.num.natAbs)).toArray⟩) ++ (⟨#[47]⟩ ++ ⟨(str (dec a.den)).toArray⟩) : ByteArray) = ⟨(qtext a).toArray⟩ := by
 unfold qtext; rw [← hs.out, if_neg h, cons_bytes, cons_bytes, bytes_append]; simp
theorem pcode_cases (l : List UInt8) : pcode l = 0 ∨ pcode l = 2 ∨ pcode l = 3 := by
 unfold pcode; split <;> (try split) <;> simp
theorem pval_ltK {l : List UInt8} {K : Nat} (hK : 1200 ≤ K) : pval l < 10 ^ K := by
 have h0 : 0 < 10 ^ K := Nat.pow_pos (by decide)
 unfold pval
 split
 ·rename_i hok
  split
  ·exact h0
  ·rename_i hlen
   simp only [numOk, Bool.and_eq_true] at hok
   exact Nat.lt_of_lt_of_le (dnum_lt l hok.1) (Nat.pow_le_pow_right (by decide) (by omega))
 ·exact h0
theorem pval_limK {l : List UInt8} {K : Nat} (hK : 1200 ≤ K) : (limbs (pval l)).length ≤ K := limbs_pow10 (pval_ltK hK)
theorem pval_lim (l : List UInt8) : (limbs (pval l)).length ≤ 1200 := pval_limK (Nat.le_refl _)
theorem dec_limbsK {n k K : Nat} (h : (limbs n).length ≤ k) (hK : 10 * k + 1 ≤ K) : (str (dec n)).length ≤ K := by
 have h1 := lt_pow_limbs n
 have h2 : n < 10 ^ K := by
  refine Nat.lt_of_lt_of_le h1 (Nat.le_trans (Nat.pow_le_pow_right (by decide) h) ?_)
  refine Nat.le_trans (Nat.pow_le_pow_left (show 4294967296 ≤ 10 ^ 10 by decide) k) ?_
  rw [← Nat.pow_mul]
  exact Nat.pow_le_pow_right (by decide) (by omega)
 have h3 := dec_le h2 (by omega)
 simpa [str] using h3
set_option maxHeartbeats 1000000 in
theorem qtext_any (va : Value) (a : Rat) (w : World) (ha : QIs w va a) (hla : QB a 100000) :
  Calls Tryz.prog 46 #[va] w fun e w' => e = .returned (.string ⟨(qtext a).toArray⟩) ∧ Below w.heap.size w w' := by
 obtain ⟨aB, axO, axL, axC, ayO, ayL, ayC, rfl, hS, hax, hay⟩ := ha.form
 have HaS := Lib.hid hS; clear hS
 obtain ⟨w0, hw0⟩ : ∃ w0, w0 = (w.alloc (.cells #[.bool aB, .slice axO axL axC, .slice ayO ayL ayC] 81)) := ⟨_, rfl⟩
 have hbf : Below w.heap.size w w0 := by rw [hw0]; exact ((Below.refl _ w).alloc (Nat.le_refl _) _)
 obtain ⟨pa, hpa⟩ : ∃ p, p = w.heap.size := ⟨_, rfl⟩
 have hba : Box3 w0 pa (Value.bool aB) (Value.slice axO axL axC) (Value.slice ayO ayL ayC) := by rw [hw0, hpa]; exact ⟨by go_simp, by go_simp, by go_simp, by go_simp, by go_simp, by go_simp⟩
 have HP : Hid (w.heap.size ≤ pa) := Lib.hid (by omega)
 replace ha := ha.below hbf
 replace hax := hax.below hbf
 replace hay := hay.below hbf
 have HW := Lib.hid hw0; clear hw0
 go_enter Tryz.func46, Tryz.ntmps46
 go_upto_region 1 with fail
 rw [← HW.out, ← hpa]
 clear hpa HW
 have hla1 := hla.1
 have hla2 := hla.2
 have ea0 := hba.c0
 have ea1 := hba.c1
 have ea2 := hba.c2
 go_wp2_with fail
 refine (text_any _ a.num.natAbs _ hax (by omega)).mono ?_
 rintro e w1 ⟨rfl, hb⟩
 clear ea0 ea1 ea2
 replace hba := hba.kept hb
 replace ha := ha.below hb
 replace hax := hax.below hb
 replace hay := hay.below hb
 replace hbf := hbf.trans (hb.mono hbf.size)
 clear hb
 obtain ⟨T, hT⟩ : ∃ T, T = str (dec a.num.natAbs) := ⟨_, rfl⟩
 obtain ⟨D, hD⟩ : ∃ D, D = str (dec a.den) := ⟨_, rfl⟩
 rw [← hT]
 have hTl : T.length ≤ 1000001 := by rw [hT]; exact dec_limbsK hla1 (by omega)
 have hDl : D.length ≤ 1000001 := by rw [hD]; exact dec_limbsK hla2 (by omega)
 have hTi : (0 : Int) + 1 + (T.length : Int) ≤ 9223372036854775807 := by omega
 have HT := Lib.hid hT.symm; clear hT
 have HDD := Lib.hid hD.symm; clear hD
 cases aB
 case false =>
  have ea0 := hba.c0
  have ea1 := hba.c1
  have ea2 := hba.c2
  go_wp2_with fail
  refine (whole_any _ a _ ha).mono ?_
  rintro e w2 ⟨rfl, hb⟩
  clear ea0 ea1 ea2
  replace hba := hba.kept hb
  replace ha := ha.below hb
  replace hax := hax.below hb
  replace hay := hay.below hb
  replace hbf := hbf.trans (hb.mono hbf.size)
  clear hb
  by_cases h1 : a.den = 1
  case pos =>
   rw [decide_eq_true h1]
   have hq := qb_pw HaS h1
   rw [HT.out] at hq
   have HQ := Lib.hid hq; clear hq h1
   go_wp2_with fail
   go_ret
   exact ⟨ret_one (by rw [← HQ.out]; rfl), hbf⟩
  rw [decide_eq_false h1]
  have hq := qb_pf HaS h1
  rw [HT.out, HDD.out] at hq
  have HQ := Lib.hid hq; clear hq
  rw [den0_one h1] at hay
  clear h1
  have ea0 := hba.c0
  have ea1 := hba.c1
  have ea2 := hba.c2
  go_wp2_with fail
  refine (text_any _ a.den _ hay (by omega)).mono ?_
  rintro e w3 ⟨rfl, hb⟩
  clear ea0 ea1 ea2
  replace hba := hba.kept hb
  replace ha := ha.below hb
  replace hax := hax.below hb
  replace hay := hay.below hb
  replace hbf := hbf.trans (hb.mono hbf.size)
  clear hb
  rw [HDD.out]
  go_wp2_with fail
  go_ret
  exact ⟨ret_one (by rw [← HQ.out]; rfl), hbf⟩
 case true =>
  have ea0 := hba.c0
  have ea1 := hba.c1
  have ea2 := hba.c2
  go_wp2_with fail
  refine (whole_any _ a _ ha).mono ?_
  rintro e w2 ⟨rfl, hb⟩
  clear ea0 ea1 ea2
  replace hba := hba.kept hb
  replace ha := ha.below hb
  replace hax := hax.below hb
  replace hay := hay.below hb
  replace hbf := hbf.trans (hb.mono hbf.size)
  clear hb
  by_cases h1 : a.den = 1
  case pos =>
   rw [decide_eq_true h1]
   have hq := qb_nw HaS h1
   rw [HT.out] at hq
   have HQ := Lib.hid hq; clear hq h1
   go_wp2_with fail
   go_ret
   exact ⟨ret_one (by rw [← HQ.out]; rfl), hbf⟩
  rw [decide_eq_false h1]
  have hq := qb_nf HaS h1
  rw [HT.out, HDD.out] at hq
  have HQ := Lib.hid hq; clear hq
  rw [den0_one h1] at hay
  clear h1
  have ea0 := hba.c0
  have ea1 := hba.c1
  have ea2 := hba.c2
  go_wp2_with fail
  refine (text_any _ a.den _ hay (by omega)).mono ?_
  rintro e w3 ⟨rfl, hb⟩
  clear ea0 ea1 ea2
  replace hba := hba.kept hb
  replace ha := ha.below hb
  replace hax := hax.below hb
  replace hay := hay.below hb
  replace hbf := hbf.trans (hb.mono hbf.size)
  clear hb
  rw [HDD.out]
  go_wp2_with fail
  go_ret
  exact ⟨ret_one (by rw [← HQ.out]; rfl), hbf⟩
end Go.Proofs.YtieffhkfefimeaaGreatDoor

namespace Go.Proofs.YtieffhkfefimeaaGreatDoor
open Go.RowKit


theorem E_en : ElemK Tryz.prog 30 55 (.agg #[.int .i64 0, .int .i64 0, .int .i64 0, .int .i64 0, .int .u64 0, .int .i64 0, .int .i64 0, .bool false]) 8 64 := elemK_of Tryz.underlying30 (by kernel_rfl) rfl (by decide)
theorem enC_one (x : EN) : ∀ u ∈ enC x, u.oneCell' = true := by simp [enC, Value.oneCell']
theorem OwnsK.toRow {α : Type} {K base : Nat} {e : TypeId} {w : World} {ao : Option Addr} {n cap : Nat} {enc : α → List Value} {xs : List α} (hk : ∀ x, (enc x).length = K) (h : OwnsK K base e w (.slice ao n cap) n (xs.flatMap enc)) (hn : n = xs.length) : RowC K enc w ao xs := by
 rcases h.shape with ⟨h0, h1⟩ | ⟨g, cap', e0, h2, h3, h4, h5, h6, h7⟩
 ·exact .inl (List.eq_nil_of_length_eq_zero (by omega))
 ·cases e0
  refine .inr ⟨g, 0, rfl, h3, fun i x hi j c hj => ?_⟩
  have h8 := flat_get hk xs i x j c hi hj
  rw [Nat.zero_add, h6 _ (by
   have h9 := (List.getElem?_eq_some_iff.1 h8).1
   have h10 := h.len
   omega), h8]
theorem step_run_append {P : Program} {w w' : World} {o : Oper} {a : Act} {K : Act → World → Prop} {Q : Exit → Act → World → Prop} {s x : Operand} {t : TypeId} {v u v' : Value} (ho : o.op = .call { callee := .builtin .append, args := #[s, x], argTypes := #[t, t] }) (hs : a.eval s = v) (hx : a.eval x = u)
  (hrun : (Builtin.append_ #[t, t] o.type #[v, u]).run P w = .ok v' w') (h : K (a.put o.dst v') w') : Oper.wp P o a w K Q := by
 unfold Oper.wp
 simp [execOp, ho, resolve, invoke, builtin, hs, hx, hrun, Result.andThen]
 exact h
theorem OwnsK.setOther {K base : Nat} {e : TypeId} {w : World} {v : Value} {n : Nat} {xs : List Value} (h : OwnsK K base e w v n xs) (p i : Nat) (u : Value) (hne : ∀ k, v.ownBlock = some k → p ≠ k) : OwnsK K base e (w.setCell ⟨p, i, none⟩ u) v n xs :=
 h.block fun k hk => (grownBy_set (grownBy_refl w (some p)) i u).block k (h.lt k hk).2 (by simp; exact fun e' => hne k hk e'.symm)
def ensB (e : EE) : Bool := decide (e.nodes.length ≤ 60) && (decide (e.leaves.length ≤ 60) && (decide (e.base.length ≤ 30) && decide (wrap64 ((e.agg.length : Int) + (e.post.length : Int)) ≤ 100)))
theorem ensB_out {e : EE} (h : ensB e = true) : e.nodes.length ≤ 60 ∧ e.leaves.length ≤ 60 ∧ e.base.length ≤ 30 := by
 unfold ensB at h
 simp only [Bool.and_eq_true, decide_eq_true_eq] at h
 exact ⟨h.1, h.2.1, h.2.2.1⟩
set_option maxHeartbeats 1000000 in
theorem ens_any (v : Value) (e : EE) (bo : Option Addr) (bc : Nat) (no : Option Addr) (nc : Nat) (lo : Option Addr) (lc : Nat) (w : World) (h : EnsIs w v e bo bc no nc lo lc) (r : Bool) (hr : ensB e = r) :
  Calls Tryz.prog 11 #[v] w fun e' w' => e' = .returned (.bool r) ∧ Below w.heap.size w w' := by
 obtain ⟨rfl, h1, h2, h4, h5, h3, h6, h7, h8, h9⟩ := h
 unfold ensB at hr
 obtain ⟨w0, hw0, hbf, pe, hpe, hbe⟩ := boxE w e bo bc no nc lo lc
 have HP : Hid (w.heap.size ≤ pe) := Lib.hid (by omega)
 have HW := Lib.hid hw0; clear hw0
 go_enter Tryz.func11, Tryz.ntmps11
 go_upto_region 1 with fail
 rw [← HW.out, ← hpe]
 clear hpe HW
 obtain ⟨ee0, ee1, ee2, ee3, ee4, ee5, ee6⟩ := hbe.c7
 by_cases q0 : e.nodes.length ≤ 60
 case neg =>
  have z : ¬ (e.nodes.length : Int) ≤ 60 := by omega
  have hr2 : r = false := by rw [← hr]; simp only [q0, decide_true, decide_false, Bool.true_and, Bool.false_and]
  subst hr2
  clear hr
  go_wp2_with fail
  go_ret
  exact ⟨rfl, hbf⟩
 have z0 : (e.nodes.length : Int) ≤ 60 := by omega
 by_cases q1 : e.leaves.length ≤ 60
 case neg =>
  have z : ¬ (e.leaves.length : Int) ≤ 60 := by omega
  have hr2 : r = false := by rw [← hr]; simp only [q0, q1, decide_true, decide_false, Bool.true_and, Bool.false_and]
  subst hr2
  clear hr
  go_wp2_with fail
  go_ret
  exact ⟨rfl, hbf⟩
 have z1 : (e.leaves.length : Int) ≤ 60 := by omega
 by_cases q2 : e.base.length ≤ 30
 case neg =>
  have z : ¬ (e.base.length : Int) ≤ 30 := by omega
  have hr2 : r = false := by rw [← hr]; simp only [q0, q1, q2, decide_true, decide_false, Bool.true_and, Bool.false_and]
  subst hr2
  clear hr
  go_wp2_with fail
  go_ret
  exact ⟨rfl, hbf⟩
 have z2 : (e.base.length : Int) ≤ 30 := by omega
 have hr2 : decide (wrap64 ((e.agg.length : Int) + (e.post.length : Int)) ≤ 100) = r := by rw [← hr]; simp only [q0, q1, q2, decide_true, Bool.true_and]
 clear hr
 subst hr2
 go_wp2_with fail
 go_ret
 exact ⟨rfl, hbf⟩
end Go.Proofs.YtieffhkfefimeaaGreatDoor
