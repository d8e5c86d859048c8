/-
  Pj09: SeqT RatC StrQ (what is needed of them).
-/
import Derived.Test.YtcpfanpcdkoiaaaGreatDoorPj07
import Derived.Test.YtcpfanpcdkoiaaaGreatDoorPj08
import Derived.Lib.Bytealg
import Derived.BigCall
set_option maxRecDepth 100000
set_option linter.unusedVariables false
set_option linter.unusedSimpArgs false

namespace Go.Proofs.YtcpfanpcdkoiaaaGreatDoor
open Go.RowKit

section
variable {P : Program} {ops : Array Oper} {Q : Exit → Act → World → Prop} {S : World → Prop}
def TailQ (P : Program) (ops : Array Oper) (Q : Exit → Act → World → Prop) : Exit → Act → World → Prop
 | .normal, a, w => wpOp P ops Q (ops.size - 1) (fun a w => Q .normal a w) a w
 | e, a, w => Q e a w
def tailOk (ops : Array Oper) : Bool :=
 decide (0 < ops.size) &&
 ((List.range ops.size).all fun j => match ops[j]? with
  | some o => (o.after.all fun e => !Region.binds .any e || decide (e.on < j)) && (match o.guard with | some g => decide (g.1 < ops.size - 1) | none => true)
  | none => true) &&
 (List.range (ops.size - 1)).all fun i => match ops[ops.size - 1]? with
  | some o => (o.after.any fun e => Region.binds .any e && e.on == i) || (o.after.any fun e => Region.binds .any e && match ops[e.on]? with
   | some o2 => o2.after.any fun e2 => Region.binds .any e2 && e2.on == i
   | none => false)
  | none => false
structure TailSpec (ops : Array Oper) : Prop where
 pos : 0 < ops.size
 early : ∀ (j : Nat) (o : Oper), ops[j]? = some o → ∀ e ∈ o.after, Region.binds .any e = true → e.on < j
 guard : ∀ (j : Nat) (o : Oper) (g : Nat) (b : Bool), ops[j]? = some o → o.guard = some (g, b) → g < ops.size - 1
 last : ∀ i, i < ops.size - 1 → ∃ o : Oper, ops[ops.size - 1]? = some o ∧ ((∃ e ∈ o.after, Region.binds .any e = true ∧ e.on = i) ∨ (∃ e ∈ o.after, Region.binds .any e = true ∧ ∃ o2, ops[e.on]? = some o2 ∧ ∃ e2 ∈ o2.after, Region.binds .any e2 = true ∧ e2.on = i))
theorem tailOk_spec (h : tailOk ops = true) : TailSpec ops := by
 unfold tailOk at h
 simp only [Bool.and_eq_true, decide_eq_true_eq, List.all_eq_true, List.mem_range] at h
 obtain ⟨⟨h0, h1⟩, h2⟩ := h
 have hlt : ∀ j o, ops[j]? = some o → j < ops.size := fun j o ho => by
  rcases Nat.lt_or_ge j ops.size with h3 | h3
  ·exact h3
  ·rw [Array.getElem?_eq_none h3] at ho; cases ho
 refine ⟨h0, fun j o ho e he hb => ?_, fun j o g b ho hg => ?_, fun i hi => ?_⟩
 ·have := h1 j (hlt j o ho)
  rw [ho] at this
  simp only [Bool.and_eq_true, Array.all_eq_true_iff_forall_mem, Bool.or_eq_true, Bool.not_eq_true', decide_eq_true_eq] at this
  exact (this.1 e he).resolve_left (by rw [hb]; simp)
 ·have := h1 j (hlt j o ho)
  rw [ho] at this
  simp only [hg, Bool.and_eq_true, decide_eq_true_eq] at this
  exact this.2
 ·have := h2 i hi
  cases ho : ops[ops.size - 1]? with
  | none => rw [ho] at this; cases this
  | some o =>
   rw [ho] at this
   simp only [Bool.or_eq_true] at this
   rcases this with this | this
   ·obtain ⟨e, he, hb⟩ := Array.any_eq_true'.1 this
    simp only [Bool.and_eq_true, beq_iff_eq] at hb
    exact ⟨o, rfl, .inl ⟨e, he, hb.1, hb.2⟩⟩
   ·obtain ⟨e, he, hb⟩ := Array.any_eq_true'.1 this
    simp only [Bool.and_eq_true] at hb
    obtain ⟨hb1, hb2⟩ := hb
    cases ho2 : ops[e.on]? with
    | none => rw [ho2] at hb2; cases hb2
    | some o2 =>
     rw [ho2] at hb2
     obtain ⟨e2, he2, hb3⟩ := Array.any_eq_true'.1 hb2
     simp only [Bool.and_eq_true, beq_iff_eq] at hb3
     exact ⟨o, rfl, .inr ⟨e, he, hb1, o2, ho2, e2, he2, hb3.1, hb3.2⟩⟩
theorem getD_pop {listed : Array Bool} {j : Nat} (d : Bool) (hj : j < listed.size - 1) : listed.pop.getD j d = listed.getD j d := by
 rw [Array.getD_eq_getD_getElem?, Array.getD_eq_getD_getElem?, Array.getElem?_pop, if_pos hj]
theorem ops_pop {j : Nat} (hj : j < ops.size - 1) : ops.pop[j]? = ops[j]? := by
 rw [Array.getElem?_pop, if_pos hj]
theorem ready_pop (T : TailSpec ops) {listed : Array Bool} (hsz : listed.size = ops.size) {j : Nat} (hj : j < ops.size - 1) : j ∈ Region.ready .any ops.pop listed.pop ↔ j ∈ Region.ready .any ops listed := by
 rw [mem_ready, mem_ready, ops_pop hj, getD_pop true (by omega)]
 constructor
 ·rintro ⟨h1, o, ho, h2⟩
  refine ⟨h1, o, ho, fun e he hb => ?_⟩
  have := h2 e he hb
  rwa [getD_pop false (by have := T.early j o ho e he hb; omega)] at this
 ·rintro ⟨h1, o, ho, h2⟩
  refine ⟨h1, o, ho, fun e he hb => ?_⟩
  have := h2 e he hb
  rwa [getD_pop false (by have := T.early j o ho e he hb; omega)]
theorem ready_some (T : TailSpec ops) {listed : Array Bool} (hsz : listed.size = ops.size) : ∀ (j : Nat), j < ops.size → listed.getD j true = false → ∃ i, i ≤ j ∧ i ∈ Region.ready .any ops listed := by
  intro j hj hl
  induction j using Nat.strongRecOn with
  | ind j ih =>
   by_cases h : ∀ o, ops[j]? = some o → ∀ e ∈ o.after, Region.binds .any e = true → listed.getD e.on false = true
   ·exact ⟨j, Nat.le_refl _, mem_ready.2 ⟨hl, ops[j], Array.getElem?_eq_getElem hj, fun e he hb => h _ (Array.getElem?_eq_getElem hj) e he hb⟩⟩
   ·have ⟨o, ho, e, he, hb, hn⟩ : ∃ o, ops[j]? = some o ∧ ∃ e ∈ o.after, Region.binds .any e = true ∧ ¬ listed.getD e.on false = true := by
     apply Classical.byContradiction
     intro hc
     exact h fun o ho e he hb => Classical.byContradiction fun hn => hc ⟨o, ho, e, he, hb, hn⟩
    have h1 := T.early j o ho e he hb
    have h2 : listed.getD e.on true = false := by
     have h3 : e.on < listed.size := by omega
     simp only [Array.getD_eq_getD_getElem?, Array.getElem?_eq_getElem h3, Option.getD_some] at hn ⊢
     simpa using hn
    obtain ⟨i, hi, hr⟩ := ih e.on h1 (by omega) h2
    exact ⟨i, by omega, hr⟩
theorem upon_tail {o : Oper} {a : Act} {w : World} {K : Act → World → Prop} (h : Oper.wp P o a w K (TailQ P ops Q)) : Oper.wp P o a w K Q := by
 unfold Oper.wp at *
 generalize (execOp a.eval o).run P w = r at *
 cases r with
 | ok n w' => cases n <;> exact h
 | halt x w' => cases x <;> exact h
theorem yielded_pop {t : Array Value} {g : Nat} (hg : g < ops.size - 1) : yielded ops.pop t g = yielded ops t g := by
 unfold yielded
 rw [ops_pop hg]
theorem wanted_pop (T : TailSpec ops) {j : Nat} {o : Oper} (ho : ops[j]? = some o) (t : Array Value) : Region.wanted o (yielded ops.pop t) = Region.wanted o (yielded ops t) := by
 unfold Region.wanted
 cases hg : o.guard with
 | none => rfl
 | some gb =>
  obtain ⟨g, b⟩ := gb
  simp only [yielded_pop (T.guard j o g b ho hg)]
def Shut2 (ops : Array Oper) (listed : Array Bool) : Prop := ∀ j o, ops[j]? = some o → listed.getD j false = true → ∀ e ∈ o.after, Region.binds .any e = true → listed.getD e.on false = true
theorem wpAny_of_init (T : TailSpec ops) : ∀ (fuel : Nat) (listed : Array Bool) (a : Act) (w : World), listed.size = ops.size → listed.getD (ops.size - 1) true = false → Shut2 ops listed →
  wpAny P .any ops.pop (TailQ P ops Q) fuel listed.pop a w → wpAny P .any ops Q (fuel + 1) listed a w := by
 have hend : ∀ (fuel : Nat) (listed : Array Bool) (a : Act) (w : World), listed.size = ops.size → listed.getD (ops.size - 1) true = false → Region.ready .any ops.pop listed.pop = [] → TailQ P ops Q .normal a w → wpAny P .any ops Q (fuel + 1) listed a w := by
  intro fuel listed a w hsz hn hr hq
  have hall : ∀ j, j < ops.size - 1 → listed.getD j true = true := by
   intro j hj
   cases h : listed.getD j true with
   | true => rfl
   | false =>
    obtain ⟨i, hi, hri⟩ := ready_some T hsz j (by omega) h
    have := (ready_pop T hsz (by omega)).2 hri
    rw [hr] at this
    cases this
  obtain ⟨k, hk, hrk⟩ := ready_some T hsz (ops.size - 1) (by have := T.pos; omega) hn
  have hk2 : k = ops.size - 1 := by
   rcases Nat.lt_or_ge k (ops.size - 1) with h | h
   ·have := (ready_pop T hsz h).2 hrk
    rw [hr] at this
    cases this
   ·omega
  refine ⟨fun h => (by rw [h] at hrk; cases hrk), fun i hi => ?_⟩
  have hi2 : i = ops.size - 1 := by
   have hm := hi
   rw [mem_ready] at hm
   obtain ⟨h1, o, ho, _⟩ := hm
   have hlt : i < ops.size := by
    rcases Nat.lt_or_ge i ops.size with h3 | h3
    ·exact h3
    ·rw [Array.getElem?_eq_none h3] at ho; cases ho
   rcases Nat.lt_or_ge i (ops.size - 1) with h | h
   ·rw [hall i h] at h1; cases h1
   ·omega
  subst hi2
  refine wpOp_mono (fun a' w' h' => ?_) hq
  have hr2 : Region.ready .any ops (listed.setIfInBounds (ops.size - 1) true) = [] := by
   rw [List.eq_nil_iff_forall_not_mem]
   intro j hj
   rw [mem_ready] at hj
   obtain ⟨h1, o, ho, _⟩ := hj
   have hlt : j < ops.size := by
    rcases Nat.lt_or_ge j ops.size with h3 | h3
    ·exact h3
    ·rw [Array.getElem?_eq_none h3] at ho; cases ho
   simp only [Array.getD_eq_getD_getElem?, Array.getElem?_setIfInBounds] at h1
   split at h1
   ·rw [if_pos (by omega)] at h1; simp at h1
   ·have := hall j (by omega)
    simp only [Array.getD_eq_getD_getElem?] at this
    rw [this] at h1; cases h1
  cases fuel with
  | zero => exact ⟨hr2, h'⟩
  | succ f => exact ⟨fun _ => h', fun i hi => by rw [hr2] at hi; cases hi⟩
 intro fuel
 induction fuel with
 | zero => intro listed a w hsz hn hdc h; exact hend 0 listed a w hsz hn h.1 h.2
 | succ fuel ih =>
  intro listed a w hsz hn hdc h
  obtain ⟨h0, h1⟩ := h
  by_cases hr : Region.ready .any ops.pop listed.pop = []
  ·exact hend _ listed a w hsz hn hr (h0 hr)
  refine ⟨fun he => ?_, fun i hi => ?_⟩
  ·obtain ⟨i, hi, hri⟩ := ready_some T hsz (ops.size - 1) (by have := T.pos; omega) hn
   rw [he] at hri; cases hri
  ·have hi' := hi
   rw [mem_ready] at hi'
   obtain ⟨g1, o, ho, g2⟩ := hi'
   have hlt : i < ops.size := by
    rcases Nat.lt_or_ge i ops.size with h3 | h3
    ·exact h3
    ·rw [Array.getElem?_eq_none h3] at ho; cases ho
   have hin : i < ops.size - 1 := by
    rcases Nat.lt_or_ge i (ops.size - 1) with h3 | h3
    ·exact h3
    ·exfalso
     have h4 : i = ops.size - 1 := by omega
     subst h4
     apply hr
     rw [List.eq_nil_iff_forall_not_mem]
     intro j hj
     have hjn : j < ops.size - 1 := by
      rw [mem_ready] at hj
      obtain ⟨_, o', ho', _⟩ := hj
      rcases Nat.lt_or_ge j (ops.size - 1) with h5 | h5
      ·exact h5
      ·rw [Array.getElem?_eq_none (by simp; omega)] at ho'; cases ho'
     have hj2 := (ready_pop T hsz hjn).1 hj
     rw [mem_ready] at hj2
     obtain ⟨o2, ho2, hlast⟩ := T.last j hjn
     rw [ho] at ho2
     cases ho2
     have : listed.getD j false = true := by
      rcases hlast with ⟨e, he, hb, hon⟩ | ⟨e, he, hb, o3, ho3, e2, he2, hb2, hon2⟩
      ·have := g2 e he hb
       rwa [hon] at this
      ·have := hdc e.on o3 ho3 (g2 e he hb) e2 he2 hb2
       rwa [hon2] at this
     have h7 := hj2.1
     have h8 : j < listed.size := by omega
     simp only [Array.getD_eq_getD_getElem?, Array.getElem?_eq_getElem h8, Option.getD_some] at this h7
     rw [this] at h7; cases h7
   have hw := h1 i ((ready_pop T hsz hin).2 hi)
   unfold wpOp at hw ⊢
   rw [ops_pop hin] at hw
   simp only [ho] at hw ⊢
   rw [wanted_pop T ho] at hw
   have hpop : (listed.setIfInBounds i true).pop = listed.pop.setIfInBounds i true := by
    apply Array.ext_getElem?
    intro j
    simp only [Array.getElem?_pop, Array.getElem?_setIfInBounds, Array.size_setIfInBounds, Array.size_pop]
    split <;> split <;> simp_all <;> omega
   have hstep : ∀ a' w', wpAny P .any ops.pop (TailQ P ops Q) fuel (listed.pop.setIfInBounds i true) a' w' → wpAny P .any ops Q (fuel + 1) (listed.setIfInBounds i true) a' w' := by
    intro a' w' h'
    refine ih _ a' w' (by simpa using hsz) ?_ ?_ (by rw [hpop]; exact h')
    rotate_left
    ·intro j o9 ho9 hl9 e he hb
     have mono : ∀ k, listed.getD k false = true → (listed.setIfInBounds i true).getD k false = true := by
      intro k hk
      simp only [Array.getD_eq_getD_getElem?, Array.getElem?_setIfInBounds] at hk ⊢
      split
      ·split
       ·rfl
       ·rename_i h8 h9; subst h8; rw [Array.getElem?_eq_none (by omega)] at hk; cases hk
      ·exact hk
     by_cases hji : j = i
     ·subst hji
      rw [ho] at ho9
      cases ho9
      exact mono _ (g2 e he hb)
     ·refine mono _ (hdc j o9 ho9 ?_ e he hb)
      simp only [Array.getD_eq_getD_getElem?, Array.getElem?_setIfInBounds] at hl9 ⊢
      rwa [if_neg (fun h => hji h.symm)] at hl9
    simp only [Array.getD_eq_getD_getElem?, Array.getElem?_setIfInBounds]
    rw [if_neg (by omega)]
    simpa only [Array.getD_eq_getD_getElem?] using hn
   split
   ·rename_i hwt
    rw [if_pos hwt] at hw
    exact hw.imp (fun h' => Oper.wp_mono hstep (upon_tail h')) id
   ·rename_i hwt
    rw [if_neg hwt] at hw
    exact hstep _ _ hw
theorem pickOps_pop : ∀ (l : List (Bool × Nat)), (l.all fun x => decide (x.2 < ops.pop.size)) = true → pickOps ops.pop l = pickOps ops l
 | [], _ => rfl
 | (b, i) :: r, h => by
  simp only [List.all_cons, Bool.and_eq_true, decide_eq_true_eq, Array.size_pop] at h
  simp only [pickOps, ops_pop h.1]
  rw [pickOps_pop r (by simpa using h.2)]
theorem wp_region_seqT {id : Nat} {a : Act} {w : World} (l : List (Bool × Nat)) (hm : P.follows .mixedOrders = true) (hk : tailOk ops = true) (hs : Region.noSelect ops.pop = true) (hl : l.length + 1 = ops.size) (hlt : (l.all fun x => decide (x.2 < ops.pop.size)) = true)
  (hk2 : seqOk ops.pop l (Array.replicate (ops.size - 1) false) = true) (hQ : ∀ d v c a w, Q (.panic c) (a.put d v) w → Q (.panic c) a w) (hS : S w.drew)
  (h : S w.drew → wpSeqH P ops.pop (TailQ P ops Q) S (pickOps ops l) a w.drew) : (Code.region id ops true).wp P Q a w := by
 have T := tailOk_spec hk
 refine wp_region_any hm ?_
 have h1 := wpAnyH_of_seq (P := P) (Q := TailQ P ops Q) (S := S) hs (fun d v c a w => hQ d v c a w) l _ _ _ hk2 hlt hS (by rw [pickOps_pop l hlt]; exact h hS)
 have h2 := wpAny_of_held _ _ _ _ h1
 have hp : (Array.replicate ops.size false).pop = Array.replicate (ops.size - 1) false := by
  apply Array.ext_getElem?
  intro j
  simp only [Array.getElem?_pop, Array.getElem?_replicate, Array.size_replicate]
  split
  ·rw [if_pos (by omega)]
  ·rfl
 rw [← hp] at h2
 have h3 := wpAny_of_init T _ (Array.replicate ops.size false) a w.drew (by simp) (by
  have := T.pos
  rw [Array.getD_eq_getD_getElem?, Array.getElem?_replicate, if_pos (by omega)]; rfl) (fun j o _ hl9 => by
  rw [Array.getD_eq_getD_getElem?, Array.getElem?_replicate] at hl9
  split at hl9 <;> cases hl9) h2
 rw [← hl]
 exact hl ▸ h3
theorem tail_end {a : Act} {w : World} {o : Oper} (ho : ops[ops.size - 1]? = some o) (hg : o.guard = none) (h : Oper.wp P o a w (fun a w => Q .normal a w) Q) : TailQ P ops Q .normal a w := by
 show wpOp P ops Q (ops.size - 1) (fun a w => Q .normal a w) a w
 unfold wpOp
 rw [ho]
 have : ∀ t, Region.wanted o t = true := fun t => by simp [Region.wanted, hg]
 simp only [this, if_true]
 exact .inl h
end
end Go.Proofs.YtcpfanpcdkoiaaaGreatDoor

namespace Go.Proofs.YtcpfanpcdkoiaaaGreatDoor
open Go.RowKit


attribute [local go_sem] field_nat
theorem of_neg (v : Int) (h : v < 0) : qOf true v.natAbs 1 = (v : Rat) := by
 rw [qOf_one]; congr 1; simp [sg]; omega
theorem of_pos (v : Int) (h : 0 ≤ v) : qOf false v.natAbs 1 = (v : Rat) := by
 rw [qOf_one]; congr 1; simp [sg]; omega
theorem bytes_append (l m : List UInt8) : (⟨l.toArray⟩ ++ ⟨m.toArray⟩ : ByteArray) = ⟨(l ++ m).toArray⟩ := by
 apply ByteArray.ext
 simp
end Go.Proofs.YtcpfanpcdkoiaaaGreatDoor

namespace Go.Proofs.YtcpfanpcdkoiaaaGreatDoor
open Go.RowKit


theorem index_no {l : List UInt8} {c : UInt8} (h : c ∉ l) : Lib.indexByte l c = -1 := by
 induction l with
 | nil => rfl
 | cons b l ih =>
  simp only [List.mem_cons, not_or] at h
  unfold Lib.indexByte
  rw [if_neg (by simp; exact fun e => h.1 e.symm), ih h.2]; rfl
theorem index_yes {l : List UInt8} {c : UInt8} (h : c ∈ l) : ∃ k : Nat, Lib.indexByte l c = k ∧ k < l.length ∧ l.take k = l.takeWhile (· != c) ∧ l.drop (k + 1) = (l.dropWhile (· != c)).tail := by
 induction l with
 | nil => cases h
 | cons b l ih =>
  unfold Lib.indexByte
  by_cases hb : b = c
  ·subst hb
   exact ⟨0, by simp, by simp, by simp, by simp⟩
  ·have hb' : (b == c) = false := by simpa using hb
   rw [hb']
   rcases List.mem_cons.1 h with h1 | h1
   ·exact (hb h1.symm).elim
   obtain ⟨k, h2, h3, h4, h5⟩ := ih h1
   refine ⟨k + 1, ?_, by simp; omega, ?_, ?_⟩
   ·rw [h2, if_neg (by simp), if_neg (by simp)]; simp
   ·simp [List.takeWhile_cons, hb, h4]
   ·simp [List.dropWhile_cons, hb, h5]
set_option maxHeartbeats 1000000 in
theorem ibyte_any (l : List UInt8) (c : Int) (w : World) :
  Calls Tryz.prog 247 #[.string ⟨l.toArray⟩, .int .u8 c] w fun e w' => e = .returned (.int .i64 (Lib.indexByte l c.toNat.toUInt8)) ∧ w' = w := by
 go_enter Tryz.func247, Tryz.ntmps247
 go_wp2
 rw [run_callFunc_extern Tryz.func256 (by kernel_rfl) (by kernel_rfl) (by kernel_rfl) (e := Extern.BytealgIndexByte.indexByte) (by kernel_rfl), Lib.run_indexByteString]
 simp only [Result.andThen]
 rw [Oper.upon_value]
 go_wp2
 go_ret
 exact ⟨rfl, rfl⟩
set_option maxHeartbeats 1000000 in
theorem sindex_any (l : List UInt8) (w : World) :
    Calls Tryz.prog 232 #[.string ⟨l.toArray⟩, .string ⟨#[47]⟩] w fun e w' => e = .returned (.int .i64 (Lib.indexByte l 47)) ∧ w' = w := by
  go_enter Tryz.func232, Tryz.ntmps232
  go_wp2_with fail
  · rename_i h
    have h1 : l = [47] := by have h0 : [47] = l := by simpa using h
                             exact h0.symm
    subst h1
    go_ret
    exact ⟨rfl, rfl⟩
  · refine (ibyte_any l _ w).mono ?_
    rintro e w' ⟨rfl, rfl⟩
    go_wp2_with fail
    go_ret
    exact ⟨rfl, rfl⟩
set_option maxHeartbeats 1000000 in
theorem lcut_no (l : List UInt8) (w : World) (h : 47 ∉ l) :
  Calls Tryz.prog 203 #[.string ⟨l.toArray⟩, .string ⟨#[47]⟩] w fun e w' => e = .returned (.tuple #[.string ⟨l.toArray⟩, .string ⟨#[]⟩, .bool false]) ∧ w' = w := by
 have hi := index_no h
 have HI := Lib.hid hi; clear hi
 go_enter Tryz.func203, Tryz.ntmps203
 go_wp2_with fail
 refine (sindex_any l _).mono ?_
 rintro e w' ⟨rfl, rfl⟩
 rw [HI.out]
 go_wp2_with fail
 go_ret3
 exact ⟨rfl, rfl⟩
set_option maxHeartbeats 1000000 in
theorem lcut_yes (l : List UInt8) (w : World) (h : 47 ∈ l) (hl : l.length ≤ 9223372036854775807) :
  Calls Tryz.prog 203 #[.string ⟨l.toArray⟩, .string ⟨#[47]⟩] w fun e w' => e = .returned (.tuple #[.string ⟨(cutAt l).toArray⟩, .string ⟨(cutOn l).toArray⟩, .bool true]) ∧ Below w.heap.size w w' := by
 obtain ⟨k, hk, hlt, h1, h2⟩ := index_yes h
 have HI := Lib.hid hk; clear hk
 have h3 : ((⟨l.toArray⟩ : ByteArray).extract 0 k) = ⟨(cutAt l).toArray⟩ := by rw [bytes_extract]; unfold cutAt; rw [← h1]; simp
 have h4 : ((⟨l.toArray⟩ : ByteArray).extract (k + 1) l.length) = ⟨(cutOn l).toArray⟩ := by rw [bytes_extract]; unfold cutOn; rw [if_pos h, ← h2]; simp
 have hk1 : ((k : Nat) : Int) ≤ ((l.length : Nat) : Int) := by omega
 have hk2 : (0 : Int) ≤ ((k : Nat) : Int) := by omega
 have hk3 : ((k : Nat) : Int) + 1 ≤ ((l.length : Nat) : Int) := by omega
 have hk4 : (0 : Int) ≤ ((k : Nat) : Int) + 1 := by omega
 have hk5 : IntKind.i64.wrap (((k : Nat) : Int) + 1) = ((k : Nat) : Int) + 1 := by simp [IntKind.wrap, IntKind.bits, IntKind.signed]; omega
 have hk6 : (((k : Nat) : Int) + 1).toNat = k + 1 := by omega
 go_enter Tryz.func203, Tryz.ntmps203
 go_wp2_with fail
 refine (sindex_any l _).mono ?_
 rintro e w' ⟨rfl, rfl⟩
 rw [HI.out]
 go_wp2_with fail
 refine wp_region_seq (S := fun _ => True) [(true, 0), (true, 1), (true, 2), (true, 3), (true, 4), (true, 5), (true, 6), (true, 7), (true, 8), (true, 9), (true, 10), (true, 11)] (by kernel_rfl) (by kernel_rfl) (by kernel_rfl) (by kernel_rfl) (by kernel_rfl) (fun d _ _ _ _ h => by cases d <;> exact h) True.intro (fun _ => ?_)
 simp only [pickOps, List.append_eq, List.cons_append, List.nil_append, List.getElem?_toArray, List.getElem?_cons_succ, List.getElem?_cons_zero]
 repeat (first | (refine seq_take (v := ?_) (by rfl) ?_ ?_; rotate_left; (· intro w hSw; go_simp; all_goals with_reducible rfl); (try simp only [Act.put, List.setIfInBounds_toArray, List.set_cons_zero, List.set_cons_succ])))
 refine seq_end ?_
 go_wp2_with fail
 go_ret3
 exact ⟨rfl, (Below.refl _ _).drew⟩
set_option maxHeartbeats 1000000 in
theorem prefix_any (l : List UInt8) (w : World) (hl : l.length ≤ 9223372036854775807) :
  Calls Tryz.prog 157 #[.string ⟨l.toArray⟩, .string ⟨#[45]⟩] w fun e w' => e = .returned (.tuple #[.string ⟨(cutNeg l).2.toArray⟩, .bool (cutNeg l).1]) ∧ w' = w := by
 cases l with
 | nil =>
  have hp : Calls Tryz.prog 202 #[.string ⟨#[]⟩, .string ⟨#[45]⟩] w fun e w' => e = .returned (.bool false) ∧ w' = w := by
   go_enter Tryz.func202, Tryz.ntmps202
   go_wp2
   go_ret
   exact ⟨rfl, rfl⟩
  go_enter Tryz.func157, Tryz.ntmps157
  go_wp2_with fail
  refine hp.mono ?_
  rintro e w' ⟨rfl, rfl⟩
  go_wp2_with fail
  go_ret2
  exact ⟨rfl, rfl⟩
 | cons c t =>
  simp only [List.length_cons] at hl
  have h1 : (1 : Int) ≤ ((t.length : Nat) : Int) + 1 := by omega
  have h2 : ((⟨(c :: t).toArray⟩ : ByteArray).extract 0 1) = ⟨#[c]⟩ := by rw [bytes_extract]; rfl
  have h3 : ((⟨(c :: t).toArray⟩ : ByteArray).extract 1 (t.length + 1)) = ⟨t.toArray⟩ := by rw [bytes_extract]; simp
  have hp : Calls Tryz.prog 202 #[.string ⟨(c :: t).toArray⟩, .string ⟨#[45]⟩] w fun e w' => e = .returned (.bool (c == 45)) ∧ w' = w := by
   go_enter Tryz.func202, Tryz.ntmps202
   go_wp2
   go_ret
   exact ⟨rfl, rfl⟩
  go_enter Tryz.func157, Tryz.ntmps157
  go_wp2_with fail
  refine hp.mono ?_
  rintro e w' ⟨rfl, rfl⟩
  by_cases hc : c = 45
  ·subst hc
   go_wp2_with fail
   go_ret2
   exact ⟨rfl, rfl⟩
  ·have hb : (c == 45) = false := by simpa using hc
   have hcn : cutNeg (c :: t) = (false, c :: t) := by unfold cutNeg; rw [if_neg (by simpa using hc)]
   rw [hb]
   go_wp2_with fail
   go_ret2
   exact ⟨ret_one (by rw [hcn]; rfl), rfl⟩
set_option maxHeartbeats 1000000 in
theorem cutprefix_any (l : List UInt8) (w : World) (hl : l.length ≤ 9223372036854775807) :
  Calls Tryz.prog 92 #[.string ⟨l.toArray⟩, .string ⟨#[45]⟩] w fun e w' => e = .returned (.tuple #[.string ⟨(cutNeg l).2.toArray⟩, .bool (cutNeg l).1]) ∧ Below w.heap.size w w' := by
 go_enter Tryz.func92, Tryz.ntmps92
 go_wp2_with fail
 refine (prefix_any l _ hl).mono ?_
 rintro e w' ⟨rfl, rfl⟩
 go_wp2_with fail
 go_ret2
 exact ⟨rfl, Below.refl _ _⟩
set_option maxHeartbeats 1000000 in
theorem cut_any (l : List UInt8) (w : World) (hl : l.length ≤ 9223372036854775807) :
  Calls Tryz.prog 158 #[.string ⟨l.toArray⟩, .string ⟨#[47]⟩] w fun e w' => e = .returned (.tuple #[.string ⟨(cutAt l).toArray⟩, .string ⟨(if 47 ∈ l then cutOn l else []).toArray⟩, .bool (decide (47 ∈ l))]) ∧ Below w.heap.size w w' := by
 by_cases h : 47 ∈ l
 ·rw [if_pos h, decide_eq_true h]
  have hc := lcut_yes l w h hl
  go_enter Tryz.func158, Tryz.ntmps158
  go_wp2_with fail
  refine hc.mono ?_
  rintro e w' ⟨rfl, hb⟩
  go_wp2_with fail
  go_ret3
  exact ⟨rfl, hb⟩
 ·rw [if_neg h, decide_eq_false h]
  have hc := lcut_no l w h
  have ha : cutAt l = l := takeWhile_all l 47 h
  rw [ha]
  go_enter Tryz.func158, Tryz.ntmps158
  go_wp2_with fail
  refine hc.mono ?_
  rintro e w' ⟨rfl, rfl⟩
  go_wp2_with fail
  go_ret3
  exact ⟨rfl, Below.refl _ _⟩
end Go.Proofs.YtcpfanpcdkoiaaaGreatDoor
