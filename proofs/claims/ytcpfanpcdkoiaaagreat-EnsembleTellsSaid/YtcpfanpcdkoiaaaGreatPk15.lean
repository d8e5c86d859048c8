/-
  Pk15: SeqT RatC SeqB (what is needed of them).
-/
import Derived.Test.YtcpfanpcdkoiaaaGreatPk07
import Derived.Test.YtcpfanpcdkoiaaaGreatPk12
import Derived.Test.YtcpfanpcdkoiaaaGreatPk14
set_option maxRecDepth 100000
set_option linter.unusedVariables false
set_option linter.unusedSimpArgs false

namespace Go.Proofs.YtcpfanpcdkoiaaaGreat
open Go.RowKit

section
variable {P : Program} {ops : Array Oper} {Q : Exit → Act → World → Prop} {S : World → Prop}
def TailQ (P : Program) (ops : Array Oper) (Q : Exit → Act → World → Prop) : Exit → Act → World → Prop
 | .normal, a, w => wpOp P ops Q (ops.size - 1) (fun a w => Q .normal a w) a w
 | e, a, w => Q e a w
def tailOk (ops : Array Oper) : Bool :=
 decide (0 < ops.size) &&
 ((List.range ops.size).all fun j => match ops[j]? with
  | some o => (o.after.all fun e => !Region.binds .any e || decide (e.on < j)) && (match o.guard with | some g => decide (g.1 < ops.size - 1) | none => true)
  | none => true) &&
 (List.range (ops.size - 1)).all fun i => match ops[ops.size - 1]? with
  | some o => (o.after.any fun e => Region.binds .any e && e.on == i) || (o.after.any fun e => Region.binds .any e && match ops[e.on]? with
   | some o2 => o2.after.any fun e2 => Region.binds .any e2 && e2.on == i
   | none => false)
  | none => false
structure TailSpec (ops : Array Oper) : Prop where
 pos : 0 < ops.size
 early : ∀ (j : Nat) (o : Oper), ops[j]? = some o → ∀ e ∈ o.after, Region.binds .any e = true → e.on < j
 guard : ∀ (j : Nat) (o : Oper) (g : Nat) (b : Bool), ops[j]? = some o → o.guard = some (g, b) → g < ops.size - 1
 last : ∀ i, i < ops.size - 1 → ∃ o : Oper, ops[ops.size - 1]? = some o ∧ ((∃ e ∈ o.after, Region.binds .any e = true ∧ e.on = i) ∨ (∃ e ∈ o.after, Region.binds .any e = true ∧ ∃ o2, ops[e.on]? = some o2 ∧ ∃ e2 ∈ o2.after, Region.binds .any e2 = true ∧ e2.on = i))
theorem tailOk_spec (h : tailOk ops = true) : TailSpec ops := by
 unfold tailOk at h
 simp only [Bool.and_eq_true, decide_eq_true_eq, List.all_eq_true, List.mem_range] at h
 obtain ⟨⟨h0, h1⟩, h2⟩ := h
 have hlt : ∀ j o, ops[j]? = some o → j < ops.size := fun j o ho => by
  rcases Nat.lt_or_ge j ops.size with h3 | h3
  ·exact h3
  ·rw [Array.getElem?_eq_none h3] at ho; cases ho
 refine ⟨h0, fun j o ho e he hb => ?_, fun j o g b ho hg => ?_, fun i hi => ?_⟩
 ·have := h1 j (hlt j o ho)
  rw [ho] at this
  simp only [Bool.and_eq_true, Array.all_eq_true_iff_forall_mem, Bool.or_eq_true, Bool.not_eq_true', decide_eq_true_eq] at this
  exact (this.1 e he).resolve_left (by rw [hb]; simp)
 ·have := h1 j (hlt j o ho)
  rw [ho] at this
  simp only [hg, Bool.and_eq_true, decide_eq_true_eq] at this
  exact this.2
 ·have := h2 i hi
  cases ho : ops[ops.size - 1]? with
  | none => rw [ho] at this; cases this
  | some o =>
   rw [ho] at this
   simp only [Bool.or_eq_true] at this
   rcases this with this | this
   ·obtain ⟨e, he, hb⟩ := Array.any_eq_true'.1 this
    simp only [Bool.and_eq_true, beq_iff_eq] at hb
    exact ⟨o, rfl, .inl ⟨e, he, hb.1, hb.2⟩⟩
   ·obtain ⟨e, he, hb⟩ := Array.any_eq_true'.1 this
    simp only [Bool.and_eq_true] at hb
    obtain ⟨hb1, hb2⟩ := hb
    cases ho2 : ops[e.on]? with
    | none => rw [ho2] at hb2; cases hb2
    | some o2 =>
     rw [ho2] at hb2
     obtain ⟨e2, he2, hb3⟩ := Array.any_eq_true'.1 hb2
     simp only [Bool.and_eq_true, beq_iff_eq] at hb3
     exact ⟨o, rfl, .inr ⟨e, he, hb1, o2, ho2, e2, he2, hb3.1, hb3.2⟩⟩
theorem getD_pop {listed : Array Bool} {j : Nat} (d : Bool) (hj : j < listed.size - 1) : listed.pop.getD j d = listed.getD j d := by
 rw [Array.getD_eq_getD_getElem?, Array.getD_eq_getD_getElem?, Array.getElem?_pop, if_pos hj]
theorem ops_pop {j : Nat} (hj : j < ops.size - 1) : ops.pop[j]? = ops[j]? := by
 rw [Array.getElem?_pop, if_pos hj]
theorem ready_pop (T : TailSpec ops) {listed : Array Bool} (hsz : listed.size = ops.size) {j : Nat} (hj : j < ops.size - 1) : j ∈ Region.ready .any ops.pop listed.pop ↔ j ∈ Region.ready .any ops listed := by
 rw [mem_ready, mem_ready, ops_pop hj, getD_pop true (by omega)]
 constructor
 ·rintro ⟨h1, o, ho, h2⟩
  refine ⟨h1, o, ho, fun e he hb => ?_⟩
  have := h2 e he hb
  rwa [getD_pop false (by have := T.early j o ho e he hb; omega)] at this
 ·rintro ⟨h1, o, ho, h2⟩
  refine ⟨h1, o, ho, fun e he hb => ?_⟩
  have := h2 e he hb
  rwa [getD_pop false (by have := T.early j o ho e he hb; omega)]
theorem ready_some (T : TailSpec ops) {listed : Array Bool} (hsz : listed.size = ops.size) : ∀ (j : Nat), j < ops.size → listed.getD j true = false → ∃ i, i ≤ j ∧ i ∈ Region.ready .any ops listed := by
  intro j hj hl
  induction j using Nat.strongRecOn with
  | ind j ih =>
   by_cases h : ∀ o, ops[j]? = some o → ∀ e ∈ o.after, Region.binds .any e = true → listed.getD e.on false = true
   ·exact ⟨j, Nat.le_refl _, mem_ready.2 ⟨hl, ops[j], Array.getElem?_eq_getElem hj, fun e he hb => h _ (Array.getElem?_eq_getElem hj) e he hb⟩⟩
   ·have ⟨o, ho, e, he, hb, hn⟩ : ∃ o, ops[j]? = some o ∧ ∃ e ∈ o.after, Region.binds .any e = true ∧ ¬ listed.getD e.on false = true := by
     apply Classical.byContradiction
     intro hc
     exact h fun o ho e he hb => Classical.byContradiction fun hn => hc ⟨o, ho, e, he, hb, hn⟩
    have h1 := T.early j o ho e he hb
    have h2 : listed.getD e.on true = false := by
     have h3 : e.on < listed.size := by omega
     simp only [Array.getD_eq_getD_getElem?, Array.getElem?_eq_getElem h3, Option.getD_some] at hn ⊢
     simpa using hn
    obtain ⟨i, hi, hr⟩ := ih e.on h1 (by omega) h2
    exact ⟨i, by omega, hr⟩
theorem upon_tail {o : Oper} {a : Act} {w : World} {K : Act → World → Prop} (h : Oper.wp P o a w K (TailQ P ops Q)) : Oper.wp P o a w K Q := by
 unfold Oper.wp at *
 generalize (execOp a.eval o).run P w = r at *
 cases r with
 | ok n w' => cases n <;> exact h
 | halt x w' => cases x <;> exact h
theorem yielded_pop {t : Array Value} {g : Nat} (hg : g < ops.size - 1) : yielded ops.pop t g = yielded ops t g := by
 unfold yielded
 rw [ops_pop hg]
theorem wanted_pop (T : TailSpec ops) {j : Nat} {o : Oper} (ho : ops[j]? = some o) (t : Array Value) : Region.wanted o (yielded ops.pop t) = Region.wanted o (yielded ops t) := by
 unfold Region.wanted
 cases hg : o.guard with
 | none => rfl
 | some gb =>
  obtain ⟨g, b⟩ := gb
  simp only [yielded_pop (T.guard j o g b ho hg)]
def Shut2 (ops : Array Oper) (listed : Array Bool) : Prop := ∀ j o, ops[j]? = some o → listed.getD j false = true → ∀ e ∈ o.after, Region.binds .any e = true → listed.getD e.on false = true
theorem wpAny_of_init (T : TailSpec ops) : ∀ (fuel : Nat) (listed : Array Bool) (a : Act) (w : World), listed.size = ops.size → listed.getD (ops.size - 1) true = false → Shut2 ops listed →
  wpAny P .any ops.pop (TailQ P ops Q) fuel listed.pop a w → wpAny P .any ops Q (fuel + 1) listed a w := by
 have hend : ∀ (fuel : Nat) (listed : Array Bool) (a : Act) (w : World), listed.size = ops.size → listed.getD (ops.size - 1) true = false → Region.ready .any ops.pop listed.pop = [] → TailQ P ops Q .normal a w → wpAny P .any ops Q (fuel + 1) listed a w := by
  intro fuel listed a w hsz hn hr hq
  have hall : ∀ j, j < ops.size - 1 → listed.getD j true = true := by
   intro j hj
   cases h : listed.getD j true with
   | true => rfl
   | false =>
    obtain ⟨i, hi, hri⟩ := ready_some T hsz j (by omega) h
    have := (ready_pop T hsz (by omega)).2 hri
    rw [hr] at this
    cases this
  obtain ⟨k, hk, hrk⟩ := ready_some T hsz (ops.size - 1) (by have := T.pos; omega) hn
  have hk2 : k = ops.size - 1 := by
   rcases Nat.lt_or_ge k (ops.size - 1) with h | h
   ·have := (ready_pop T hsz h).2 hrk
    rw [hr] at this
    cases this
   ·omega
  refine ⟨fun h => (by rw [h] at hrk; cases hrk), fun i hi => ?_⟩
  have hi2 : i = ops.size - 1 := by
   have hm := hi
   rw [mem_ready] at hm
   obtain ⟨h1, o, ho, _⟩ := hm
   have hlt : i < ops.size := by
    rcases Nat.lt_or_ge i ops.size with h3 | h3
    ·exact h3
    ·rw [Array.getElem?_eq_none h3] at ho; cases ho
   rcases Nat.lt_or_ge i (ops.size - 1) with h | h
   ·rw [hall i h] at h1; cases h1
   ·omega
  subst hi2
  refine wpOp_mono (fun a' w' h' => ?_) hq
  have hr2 : Region.ready .any ops (listed.setIfInBounds (ops.size - 1) true) = [] := by
   rw [List.eq_nil_iff_forall_not_mem]
   intro j hj
   rw [mem_ready] at hj
   obtain ⟨h1, o, ho, _⟩ := hj
   have hlt : j < ops.size := by
    rcases Nat.lt_or_ge j ops.size with h3 | h3
    ·exact h3
    ·rw [Array.getElem?_eq_none h3] at ho; cases ho
   simp only [Array.getD_eq_getD_getElem?, Array.getElem?_setIfInBounds] at h1
   split at h1
   ·rw [if_pos (by omega)] at h1; simp at h1
   ·have := hall j (by omega)
    simp only [Array.getD_eq_getD_getElem?] at this
    rw [this] at h1; cases h1
  cases fuel with
  | zero => exact ⟨hr2, h'⟩
  | succ f => exact ⟨fun _ => h', fun i hi => by rw [hr2] at hi; cases hi⟩
 intro fuel
 induction fuel with
 | zero => intro listed a w hsz hn hdc h; exact hend 0 listed a w hsz hn h.1 h.2
 | succ fuel ih =>
  intro listed a w hsz hn hdc h
  obtain ⟨h0, h1⟩ := h
  by_cases hr : Region.ready .any ops.pop listed.pop = []
  ·exact hend _ listed a w hsz hn hr (h0 hr)
  refine ⟨fun he => ?_, fun i hi => ?_⟩
  ·obtain ⟨i, hi, hri⟩ := ready_some T hsz (ops.size - 1) (by have := T.pos; omega) hn
   rw [he] at hri; cases hri
  ·have hi' := hi
   rw [mem_ready] at hi'
   obtain ⟨g1, o, ho, g2⟩ := hi'
   have hlt : i < ops.size := by
    rcases Nat.lt_or_ge i ops.size with h3 | h3
    ·exact h3
    ·rw [Array.getElem?_eq_none h3] at ho; cases ho
   have hin : i < ops.size - 1 := by
    rcases Nat.lt_or_ge i (ops.size - 1) with h3 | h3
    ·exact h3
    ·exfalso
     have h4 : i = ops.size - 1 := by omega
     subst h4
     apply hr
     rw [List.eq_nil_iff_forall_not_mem]
     intro j hj
     have hjn : j < ops.size - 1 := by
      rw [mem_ready] at hj
      obtain ⟨_, o', ho', _⟩ := hj
      rcases Nat.lt_or_ge j (ops.size - 1) with h5 | h5
      ·exact h5
      ·rw [Array.getElem?_eq_none (by simp; omega)] at ho'; cases ho'
     have hj2 := (ready_pop T hsz hjn).1 hj
     rw [mem_ready] at hj2
     obtain ⟨o2, ho2, hlast⟩ := T.last j hjn
     rw [ho] at ho2
     cases ho2
     have : listed.getD j false = true := by
      rcases hlast with ⟨e, he, hb, hon⟩ | ⟨e, he, hb, o3, ho3, e2, he2, hb2, hon2⟩
      ·have := g2 e he hb
       rwa [hon] at this
      ·have := hdc e.on o3 ho3 (g2 e he hb) e2 he2 hb2
       rwa [hon2] at this
     have h7 := hj2.1
     have h8 : j < listed.size := by omega
     simp only [Array.getD_eq_getD_getElem?, Array.getElem?_eq_getElem h8, Option.getD_some] at this h7
     rw [this] at h7; cases h7
   have hw := h1 i ((ready_pop T hsz hin).2 hi)
   unfold wpOp at hw ⊢
   rw [ops_pop hin] at hw
   simp only [ho] at hw ⊢
   rw [wanted_pop T ho] at hw
   have hpop : (listed.setIfInBounds i true).pop = listed.pop.setIfInBounds i true := by
    apply Array.ext_getElem?
    intro j
    simp only [Array.getElem?_pop, Array.getElem?_setIfInBounds, Array.size_setIfInBounds, Array.size_pop]
    split <;> split <;> simp_all <;> omega
   have hstep : ∀ a' w', wpAny P .any ops.pop (TailQ P ops Q) fuel (listed.pop.setIfInBounds i true) a' w' → wpAny P .any ops Q (fuel + 1) (listed.setIfInBounds i true) a' w' := by
    intro a' w' h'
    refine ih _ a' w' (by simpa using hsz) ?_ ?_ (by rw [hpop]; exact h')
    rotate_left
    ·intro j o9 ho9 hl9 e he hb
     have mono : ∀ k, listed.getD k false = true → (listed.setIfInBounds i true).getD k false = true := by
      intro k hk
      simp only [Array.getD_eq_getD_getElem?, Array.getElem?_setIfInBounds] at hk ⊢
      split
      ·split
       ·rfl
       ·rename_i h8 h9; subst h8; rw [Array.getElem?_eq_none (by omega)] at hk; cases hk
      ·exact hk
     by_cases hji : j = i
     ·subst hji
      rw [ho] at ho9
      cases ho9
      exact mono _ (g2 e he hb)
     ·refine mono _ (hdc j o9 ho9 ?_ e he hb)
      simp only [Array.getD_eq_getD_getElem?, Array.getElem?_setIfInBounds] at hl9 ⊢
      rwa [if_neg (fun h => hji h.symm)] at hl9
    simp only [Array.getD_eq_getD_getElem?, Array.getElem?_setIfInBounds]
    rw [if_neg (by omega)]
    simpa only [Array.getD_eq_getD_getElem?] using hn
   split
   ·rename_i hwt
    rw [if_pos hwt] at hw
    exact hw.imp (fun h' => Oper.wp_mono hstep (upon_tail h')) id
   ·rename_i hwt
    rw [if_neg hwt] at hw
    exact hstep _ _ hw
theorem pickOps_pop : ∀ (l : List (Bool × Nat)), (l.all fun x => decide (x.2 < ops.pop.size)) = true → pickOps ops.pop l = pickOps ops l
 | [], _ => rfl
 | (b, i) :: r, h => by
  simp only [List.all_cons, Bool.and_eq_true, decide_eq_true_eq, Array.size_pop] at h
  simp only [pickOps, ops_pop h.1]
  rw [pickOps_pop r (by simpa using h.2)]
theorem wp_region_seqT {id : Nat} {a : Act} {w : World} (l : List (Bool × Nat)) (hm : P.follows .mixedOrders = true) (hk : tailOk ops = true) (hs : Region.noSelect ops.pop = true) (hl : l.length + 1 = ops.size) (hlt : (l.all fun x => decide (x.2 < ops.pop.size)) = true)
  (hk2 : seqOk ops.pop l (Array.replicate (ops.size - 1) false) = true) (hQ : ∀ d v c a w, Q (.panic c) (a.put d v) w → Q (.panic c) a w) (hS : S w.drew)
  (h : S w.drew → wpSeqH P ops.pop (TailQ P ops Q) S (pickOps ops l) a w.drew) : (Code.region id ops true).wp P Q a w := by
 have T := tailOk_spec hk
 refine wp_region_any hm ?_
 have h1 := wpAnyH_of_seq (P := P) (Q := TailQ P ops Q) (S := S) hs (fun d v c a w => hQ d v c a w) l _ _ _ hk2 hlt hS (by rw [pickOps_pop l hlt]; exact h hS)
 have h2 := wpAny_of_held _ _ _ _ h1
 have hp : (Array.replicate ops.size false).pop = Array.replicate (ops.size - 1) false := by
  apply Array.ext_getElem?
  intro j
  simp only [Array.getElem?_pop, Array.getElem?_replicate, Array.size_replicate]
  split
  ·rw [if_pos (by omega)]
  ·rfl
 rw [← hp] at h2
 have h3 := wpAny_of_init T _ (Array.replicate ops.size false) a w.drew (by simp) (by
  have := T.pos
  rw [Array.getD_eq_getD_getElem?, Array.getElem?_replicate, if_pos (by omega)]; rfl) (fun j o _ hl9 => by
  rw [Array.getD_eq_getD_getElem?, Array.getElem?_replicate] at hl9
  split at hl9 <;> cases hl9) h2
 rw [← hl]
 exact hl ▸ h3
theorem tail_end {a : Act} {w : World} {o : Oper} (ho : ops[ops.size - 1]? = some o) (hg : o.guard = none) (h : Oper.wp P o a w (fun a w => Q .normal a w) Q) : TailQ P ops Q .normal a w := by
 show wpOp P ops Q (ops.size - 1) (fun a w => Q .normal a w) a w
 unfold wpOp
 rw [ho]
 have : ∀ t, Region.wanted o t = true := fun t => by simp [Region.wanted, hg]
 simp only [this, if_true]
 exact .inl h
end
end Go.Proofs.YtcpfanpcdkoiaaaGreat

namespace Go.Proofs.YtcpfanpcdkoiaaaGreat
open Go.RowKit


attribute [local go_sem] field_nat
theorem of_neg (v : Int) (h : v < 0) : qOf true v.natAbs 1 = (v : Rat) := by
 rw [qOf_one]; congr 1; simp [sg]; omega
theorem of_pos (v : Int) (h : 0 ≤ v) : qOf false v.natAbs 1 = (v : Rat) := by
 rw [qOf_one]; congr 1; simp [sg]; omega
theorem of_one (w : World) : Calls Tryz.prog 184 #[.int .u64 1] w fun e w' => ∃ r, e = .returned r ∧ NatIs w' r 1 ∧ Below w.heap.size w w' := of_any 1 w (by decide)
set_option maxHeartbeats 1000000 in
theorem qsub_any (va vc : Value) (a c : Rat) (i j : Nat) (w : World) (ha : QIs w va a) (hc : QIs w vc c) (hla : QB a i) (hlc : QB c j) (hij : i + j ≤ 90000) :
  Calls Tryz.prog 173 #[va, vc] w (QPost w (a - c)) := by
 obtain ⟨aB, axO, axL, axC, ayO, ayL, ayC, rfl, hS, hax, hay⟩ := ha.form
 have HaS := Lib.hid hS; clear hS
 obtain ⟨cB, cxO, cxL, cxC, cyO, cyL, cyC, rfl, hS, hcx, hcy⟩ := hc.form
 have HcS := Lib.hid hS; clear hS
 obtain ⟨w0, hw0⟩ : ∃ w0, w0 = (((w.alloc (.cells #[.bool aB, .slice axO axL axC, .slice ayO ayL ayC] 182)).alloc (.cells #[.bool cB, .slice cxO cxL cxC, .slice cyO cyL cyC] 182)).alloc (.cells #[.bool false, .slice none 0 0, .slice none 0 0] 182)) := ⟨_, rfl⟩
 have hbf : Below w.heap.size w w0 := by rw [hw0]; exact ((((Below.refl _ w).alloc (Nat.le_refl _) _).alloc (by simp <;> omega) _).alloc (by simp <;> omega) _)
 obtain ⟨pa, hpa⟩ : ∃ p, p = w.heap.size := ⟨_, rfl⟩
 have hba : Box3 w0 pa (Value.bool aB) (Value.slice axO axL axC) (Value.slice ayO ayL ayC) := by rw [hw0, hpa]; exact ⟨by go_simp, by go_simp, by go_simp, by go_simp, by go_simp, by go_simp⟩
 obtain ⟨pc, hpc⟩ : ∃ p, p = w.heap.size + 1 := ⟨_, rfl⟩
 have hbc : Box3 w0 pc (Value.bool cB) (Value.slice cxO cxL cxC) (Value.slice cyO cyL cyC) := by rw [hw0, hpc]; exact ⟨by go_simp, by go_simp, by go_simp, by go_simp, by go_simp, by go_simp⟩
 obtain ⟨pr, hpr⟩ : ∃ p, p = w.heap.size + 1 + 1 := ⟨_, rfl⟩
 have hbr : Box3 w0 pr (Value.bool false) (Value.slice none 0 0) (Value.slice none 0 0) := by rw [hw0, hpr]; exact ⟨by go_simp, by go_simp, by go_simp, by go_simp, by go_simp, by go_simp⟩
 have HP : Hid (w.heap.size ≤ pa ∧ pa < pc ∧ pc < pr) := Lib.hid (by omega)
 replace ha := ha.below hbf
 replace hc := hc.below hbf
 replace hax := hax.below hbf
 replace hay := hay.below hbf
 replace hcx := hcx.below hbf
 replace hcy := hcy.below hbf
 have HW := Lib.hid hw0; clear hw0
 go_enter Tryz.func173, Tryz.ntmps173
 go_upto_region 1 with fail
 rw [← HW.out, ← hpr, ← hpc, ← hpa]
 clear hpa hpc hpr HW
 have ea0 := hba.c0
 have ea1 := hba.c1
 have ea2 := hba.c2
 have ec0 := hbc.c0
 have ec1 := hbc.c1
 have ec2 := hbc.c2
 go_wp2_with fail
 clear ea0 ea1 ea2 ec0 ec1 ec2
 refine wp_region_seq (S := fun w' => Box3 w' pa (Value.bool aB) (Value.slice axO axL axC) (Value.slice ayO ayL ayC) ∧ Box3 w' pc (Value.bool cB) (Value.slice cxO cxL cxC) (Value.slice cyO cyL cyC)) [(true, 0), (true, 1), (false, 2), (false, 3), (false, 4)] (by kernel_rfl) (by kernel_rfl) (by kernel_rfl) (by kernel_rfl) (by kernel_rfl) (fun d _ _ _ _ h => by cases d <;> exact h) ⟨hba.drew, hbc.drew⟩ (fun _ => ?_)
 simp only [pickOps, List.append_eq, List.cons_append, List.nil_append, List.getElem?_toArray, List.getElem?_cons_succ, List.getElem?_cons_zero]
 have hb : Below w0.heap.size w0 w0.drew := (Below.refl _ _).drew
 generalize w0.drew = w1 at hb ⊢
 replace hba := hba.kept hb
 replace hbc := hbc.kept hb
 replace hbr := hbr.kept hb
 replace ha := ha.below hb
 replace hc := hc.below hb
 replace hax := hax.below hb
 replace hay := hay.below hb
 replace hcx := hcx.below hb
 replace hcy := hcy.below hb
 replace hbf := hbf.trans (hb.mono hbf.size)
 clear hb
 repeat (first | (refine seq_take (v := ?_) (by rfl) ?_ ?_; rotate_left; (· intro w hSw; (try dsimp only at hSw); obtain ⟨⟨ea0, ea1, ea2, _, _, _⟩, ⟨ec0, ec1, ec2, _, _, _⟩⟩ := hSw; go_simp; all_goals with_reducible rfl); (try simp only [Act.put, List.setIfInBounds_toArray, List.set_cons_zero, List.set_cons_succ])) | (refine seq_leave (by rfl) ?_; (try simp only [Act.put, List.setIfInBounds_toArray, List.set_cons_zero, List.set_cons_succ])))
 refine seq_step (by rfl) (fun K hK => ?_)
 go_simp
 go_at_call 183
 (with_reducible refine (minus_any _ c _ hc).mono ?_)
 rintro e w2 hq9
 obtain ⟨mB, mxO, mxL, mxC, myO, myL, myC, rfl, hS, hmx, hmy, hm, hb⟩ := hq9.out
 have HmS := Lib.hid hS; clear hS
 replace hba := hba.kept hb
 replace hbc := hbc.kept hb
 replace hbr := hbr.kept hb
 replace ha := ha.below hb
 replace hc := hc.below hb
 replace hax := hax.below hb
 replace hay := hay.below hb
 replace hcx := hcx.below hb
 replace hcy := hcy.below hb
 replace hbf := hbf.trans (hb.mono hbf.size)
 clear hb
 first | refine hK.out _ _ ⟨hba, hbc⟩ (fun _ => ?_) | (go_wp2_with fail; refine hK.out _ _ ⟨hba, hbc⟩ (fun _ => ?_))
 clear hK K
 (try simp only [Act.put, List.setIfInBounds_toArray, List.set_cons_zero, List.set_cons_succ])
 refine seq_step (by rfl) (fun K hK => ?_)
 go_simp
 go_at_call 182
 (with_reducible refine (qadd_any _ _ a (-c) i j _ ha hm hla hlc.neg hij).mono ?_)
 rintro e w3 hq9
 obtain ⟨qB, qxO, qxL, qxC, qyO, qyL, qyC, rfl, hS, hqx, hqy, hq, hb⟩ := hq9.out
 have HqS := Lib.hid hS; clear hS
 replace hba := hba.kept hb
 replace hbc := hbc.kept hb
 replace hbr := hbr.kept hb
 replace ha := ha.below hb
 replace hc := hc.below hb
 replace hax := hax.below hb
 replace hay := hay.below hb
 replace hcx := hcx.below hb
 replace hcy := hcy.below hb
 replace hmx := hmx.below hb
 replace hmy := hmy.below hb
 replace hm := hm.below hb
 replace hbf := hbf.trans (hb.mono hbf.size)
 clear hb
 first | refine hK.out _ _ ⟨hba, hbc⟩ (fun _ => ?_) | (go_wp2_with fail; refine hK.out _ _ ⟨hba, hbc⟩ (fun _ => ?_))
 clear hK K
 (try simp only [Act.put, List.setIfInBounds_toArray, List.set_cons_zero, List.set_cons_succ])
 refine seq_step (by rfl) (fun K hK => ?_)
 have er0 := hbr.c0
 have fr0 := hbr.f0
 have er1 := hbr.c1
 have fr1 := hbr.f1
 have er2 := hbr.c2
 have fr2 := hbr.f2
 go_simp
 clear er0 fr0 er1 fr1 er2 fr2
 obtain ⟨w4, hwE⟩ : ∃ W, W = ((w3.setCell ⟨pr, 0, none⟩ (Value.bool qB)).setCell ⟨pr, 1, none⟩ (Value.slice qxO qxL qxC)).setCell ⟨pr, 2, none⟩ (Value.slice qyO qyL qyC) := ⟨_, rfl⟩
 rw [← hwE]
 replace ha := ha.set3 (u0 := (Value.bool qB)) (u1 := (Value.slice qxO qxL qxC)) (u2 := (Value.slice qyO qyL qyC)) hbr; rw [← hwE] at ha
 replace hc := hc.set3 (u0 := (Value.bool qB)) (u1 := (Value.slice qxO qxL qxC)) (u2 := (Value.slice qyO qyL qyC)) hbr; rw [← hwE] at hc
 replace hax := hax.set3 (u0 := (Value.bool qB)) (u1 := (Value.slice qxO qxL qxC)) (u2 := (Value.slice qyO qyL qyC)) hbr; rw [← hwE] at hax
 replace hay := hay.set3 (u0 := (Value.bool qB)) (u1 := (Value.slice qxO qxL qxC)) (u2 := (Value.slice qyO qyL qyC)) hbr; rw [← hwE] at hay
 replace hcx := hcx.set3 (u0 := (Value.bool qB)) (u1 := (Value.slice qxO qxL qxC)) (u2 := (Value.slice qyO qyL qyC)) hbr; rw [← hwE] at hcx
 replace hcy := hcy.set3 (u0 := (Value.bool qB)) (u1 := (Value.slice qxO qxL qxC)) (u2 := (Value.slice qyO qyL qyC)) hbr; rw [← hwE] at hcy
 replace hmx := hmx.set3 (u0 := (Value.bool qB)) (u1 := (Value.slice qxO qxL qxC)) (u2 := (Value.slice qyO qyL qyC)) hbr; rw [← hwE] at hmx
 replace hmy := hmy.set3 (u0 := (Value.bool qB)) (u1 := (Value.slice qxO qxL qxC)) (u2 := (Value.slice qyO qyL qyC)) hbr; rw [← hwE] at hmy
 replace hm := hm.set3 (u0 := (Value.bool qB)) (u1 := (Value.slice qxO qxL qxC)) (u2 := (Value.slice qyO qyL qyC)) hbr; rw [← hwE] at hm
 replace hqx := hqx.set3 (u0 := (Value.bool qB)) (u1 := (Value.slice qxO qxL qxC)) (u2 := (Value.slice qyO qyL qyC)) hbr; rw [← hwE] at hqx
 replace hqy := hqy.set3 (u0 := (Value.bool qB)) (u1 := (Value.slice qxO qxL qxC)) (u2 := (Value.slice qyO qyL qyC)) hbr; rw [← hwE] at hqy
 replace hq := hq.set3 (u0 := (Value.bool qB)) (u1 := (Value.slice qxO qxL qxC)) (u2 := (Value.slice qyO qyL qyC)) hbr; rw [← hwE] at hq
 replace hba := hba.set3o (u0 := (Value.bool qB)) (u1 := (Value.slice qxO qxL qxC)) (u2 := (Value.slice qyO qyL qyC)) (show pa ≠ pr by have := HP.out; omega); rw [← hwE] at hba
 replace hbc := hbc.set3o (u0 := (Value.bool qB)) (u1 := (Value.slice qxO qxL qxC)) (u2 := (Value.slice qyO qyL qyC)) (show pc ≠ pr by have := HP.out; omega); rw [← hwE] at hbc
 replace hbf := below_set3 (u0 := (Value.bool qB)) (u1 := (Value.slice qxO qxL qxC)) (u2 := (Value.slice qyO qyL qyC)) hbf (show w.heap.size ≤ pr by have := HP.out; omega); rw [← hwE] at hbf
 replace hbr := hbr.set3 (u0 := (Value.bool qB)) (u1 := (Value.slice qxO qxL qxC)) (u2 := (Value.slice qyO qyL qyC)); rw [← hwE] at hbr; clear hwE
 first | refine hK.out _ _ ⟨hba, hbc⟩ (fun _ => ?_) | (go_wp2_with fail; refine hK.out _ _ ⟨hba, hbc⟩ (fun _ => ?_))
 clear hK K
 (try simp only [Act.put, List.setIfInBounds_toArray, List.set_cons_zero, List.set_cons_succ])
 refine seq_end ?_
 rw [← qsub_is] at hq
 go_wp2_with fail
 exact ret_rat rfl rfl hbr rfl ⟨_, rfl, hq, hbf⟩
end Go.Proofs.YtcpfanpcdkoiaaaGreat

namespace Go.Proofs.YtcpfanpcdkoiaaaGreat
open Go.RowKit

def mask (l : List Nat) : Nat := l.foldl (fun s d => s ||| 2 ^ d) 0
theorem testBit_fold (l : List Nat) (s k : Nat) : (l.foldl (fun s d => s ||| 2 ^ d) s).testBit k = (s.testBit k || l.contains k) := by
 induction l generalizing s with
 | nil => simp
 | cons d l ih =>
  rw [List.foldl_cons, ih, Nat.testBit_or, Nat.testBit_two_pow]
  simp only [List.contains_cons, Bool.or_assoc]
  congr 2
  by_cases h : d = k
  ·subst h; simp
  ·have : ¬ k = d := fun e => h e.symm
   simp [h, this]
theorem testBit_mask (l : List Nat) (k : Nat) : (mask l).testBit k = l.contains k := by
 unfold mask; rw [testBit_fold]; simp
abbrev Info := Nat × Nat × Option Nat
def depsL (o : Oper) : List Nat := (o.after.toList.filter (Region.binds .any)).map (·.on)
def infoOf (ops : Array Oper) (o : Oper) : Info := (mask (depsL o), mask (o.looksAt ops), o.dst)
def tab (ops : Array Oper) : List Info := ops.toList.map (infoOf ops)
def rdy (t : Info) (m : Nat) : Bool := (t.1 &&& m) == t.1
def apartT (x y : Info) : Bool :=
  (match x.2.2 with
   | some d => !y.2.1.testBit d && y.2.2 != some d
   | none => true) &&
  (match y.2.2 with
   | some d => !x.2.1.testBit d
   | none => true)
def freeT (ti : Info) (i m : Nat) : List Info → Nat → Bool
 | [], _ => true
 | tj :: r, j => (j == i || m.testBit j || tj.1.testBit i || apartT ti tj) && freeT ti i m r (j + 1)
def aloneT (i m : Nat) : List Info → Nat → Bool
 | [], _ => true
 | tj :: r, j => (if j == i then rdy tj m && !m.testBit j else (m.testBit j || !rdy tj m)) && aloneT i m r (j + 1)
def doneT (m : Nat) : List Info → Nat → Bool
 | [], _ => true
 | tj :: r, j => (m.testBit j || !rdy tj m) && doneT m r (j + 1)
def seqFast (T : List Info) : List (Bool × Nat) → Nat → Bool
 | [], m => doneT m T 0
 | (true, i) :: r, m => (match T[i]? with | some ti => rdy ti m && !m.testBit i && freeT ti i m T 0 | none => false) && seqFast T r (m ||| 2 ^ i)
 | (false, i) :: r, m => aloneT i m T 0 && decide (i < T.length) && seqFast T r (m ||| 2 ^ i)
theorem freeT_get {ti : Info} {i m : Nat} : ∀ (l : List Info) (k : Nat), freeT ti i m l k = true → ∀ j tj, l[j]? = some tj → (k + j == i || m.testBit (k + j) || tj.1.testBit i || apartT ti tj) = true
 | [], k, h, j, tj, hj => by simp at hj
 | t :: r, k, h, j, tj, hj => by
  simp only [freeT, Bool.and_eq_true] at h
  cases j with
  | zero => simp at hj; subst hj; exact h.1
  | succ j =>
   have := freeT_get r (k + 1) h.2 j tj (by simpa using hj)
   rwa [show k + 1 + j = k + (j + 1) by omega] at this
theorem aloneT_get {i m : Nat} : ∀ (l : List Info) (k : Nat), aloneT i m l k = true → ∀ j tj, l[j]? = some tj → (if k + j == i then rdy tj m && !m.testBit (k + j) else (m.testBit (k + j) || !rdy tj m)) = true
 | [], k, h, j, tj, hj => by simp at hj
 | t :: r, k, h, j, tj, hj => by
  simp only [aloneT, Bool.and_eq_true] at h
  cases j with
  | zero => simp at hj; subst hj; exact h.1
  | succ j =>
   have := aloneT_get r (k + 1) h.2 j tj (by simpa using hj)
   rwa [show k + 1 + j = k + (j + 1) by omega] at this
theorem doneT_get {m : Nat} : ∀ (l : List Info) (k : Nat), doneT m l k = true → ∀ j tj, l[j]? = some tj → (m.testBit (k + j) || !rdy tj m) = true
 | [], k, h, j, tj, hj => by simp at hj
 | t :: r, k, h, j, tj, hj => by
  simp only [doneT, Bool.and_eq_true] at h
  cases j with
  | zero => simp at hj; subst hj; exact h.1
  | succ j =>
   have := doneT_get r (k + 1) h.2 j tj (by simpa using hj)
   rwa [show k + 1 + j = k + (j + 1) by omega] at this
section
variable {ops : Array Oper}
theorem tab_get {j : Nat} {o : Oper} (h : ops[j]? = some o) : (tab ops)[j]? = some (infoOf ops o) := by
 unfold tab; rw [List.getElem?_map]; simp [h]
structure Rel (ops : Array Oper) (listed : Array Bool) (m : Nat) : Prop where
 size : listed.size = ops.size
 bit : ∀ j, listed.getD j false = m.testBit j
theorem Rel.bitT {listed : Array Bool} {m j : Nat} (h : Rel ops listed m) (hj : j < ops.size) : listed.getD j true = m.testBit j := by
 rw [← h.bit]
 have : j < listed.size := by rw [h.size]; exact hj
 simp [Array.getD_eq_getD_getElem?, this]
theorem Rel.set {listed : Array Bool} {m i : Nat} (h : Rel ops listed m) (hi : i < ops.size) : Rel ops (listed.setIfInBounds i true) (m ||| 2 ^ i) := by
 refine ⟨by simpa using h.size, fun j => ?_⟩
 rw [Nat.testBit_or, Nat.testBit_two_pow, ← h.bit]
 simp only [Array.getD_eq_getD_getElem?, Array.getElem?_setIfInBounds]
 split
 ·rename_i e; subst e
  rw [if_pos (by rw [h.size]; exact hi)]; simp
 ·rename_i e; simp [e]
theorem rdy_iff {o : Oper} {listed : Array Bool} {m : Nat} (h : Rel ops listed m) : rdy (infoOf ops o) m = true ↔ ∀ e ∈ o.after, Region.binds .any e = true → listed.getD e.on false = true := by
 unfold rdy infoOf
 rw [beq_iff_eq]
 constructor
 ·intro he e hm hb
  have he : mask (depsL o) &&& m = mask (depsL o) := he
  have h1 : (mask (depsL o)).testBit e.on = true := by
   rw [testBit_mask]
   simp only [List.contains_eq_mem, decide_eq_true_eq, depsL, List.mem_map, List.mem_filter]
   exact ⟨e, ⟨Array.mem_toList_iff.2 hm, hb⟩, rfl⟩
  rw [← he, Nat.testBit_and, Bool.and_eq_true] at h1
  rw [h.bit]; exact h1.2
 ·intro hall
  apply Nat.eq_of_testBit_eq
  intro k
  rw [Nat.testBit_and]
  cases hk : (mask (depsL o)).testBit k with
  | false => rfl
  | true =>
   rw [testBit_mask] at hk
   simp only [List.contains_eq_mem, decide_eq_true_eq, depsL, List.mem_map, List.mem_filter] at hk
   obtain ⟨e, ⟨hm, hb⟩, rfl⟩ := hk
   rw [← h.bit, hall e (Array.mem_toList_iff.1 hm) hb]; rfl
theorem apartT_is {x y : Oper} : apartT (infoOf ops x) (infoOf ops y) = x.apart ops y := by
 unfold apartT infoOf Oper.apart
 simp only [testBit_mask]
 rfl
theorem ready_mem {listed : Array Bool} {m j : Nat} {o : Oper} (h : Rel ops listed m) (ho : ops[j]? = some o) : j ∈ Region.ready .any ops listed ↔ (m.testBit j = false ∧ rdy (infoOf ops o) m = true) := by
 have hj : j < ops.size := (Array.getElem?_eq_some_iff.1 ho).1
 rw [mem_ready, rdy_iff h, h.bitT hj]
 constructor
 ·rintro ⟨h1, o', ho', h2⟩
  rw [ho] at ho'; cases ho'
  exact ⟨h1, h2⟩
 ·rintro ⟨h1, h2⟩
  exact ⟨h1, o, ho, h2⟩
theorem filter_one {p : Nat → Bool} {n i : Nat} (hi : i < n) (h : ∀ j, j < n → (p j = true ↔ j = i)) : (List.range n).filter p = [i] := by
 induction n with
 | zero => omega
 | succ n ih =>
  rw [List.range_succ, List.filter_append]
  by_cases hn : i = n
  ·subst hn
   have h1 : (List.range i).filter p = [] := by
    rw [List.filter_eq_nil_iff]
    intro j hj hp
    have hj' := List.mem_range.1 hj
    have := (h j (by omega)).1 hp
    omega
   rw [h1]
   have := (h i (by omega)).2 rfl
   simp [this]
  ·rw [ih (by omega) (fun j hj => h j (by omega))]
   have : p n = false := by
    cases hp : p n with
    | false => rfl
    | true => exact (hn ((h n (by omega)).1 hp).symm).elim
   simp [this]
theorem seqOk_of_fast : ∀ (l : List (Bool × Nat)) (listed : Array Bool) (m : Nat), Rel ops listed m → seqFast (tab ops) l m = true → (l.all fun x => decide (x.2 < ops.size)) = true → seqOk ops l listed = true
 | [], listed, m, hR, h, _ => by
  simp only [seqFast] at h
  simp only [seqOk, List.isEmpty_iff, List.eq_nil_iff_forall_not_mem]
  intro j hj
  have hj2 := hj
  rw [mem_ready] at hj2
  obtain ⟨_, o, ho, _⟩ := hj2
  have h1 := (ready_mem hR ho).1 hj
  have h2 := doneT_get _ _ h j _ (tab_get ho)
  rw [Nat.zero_add, h1.1, h1.2] at h2
  cases h2
 | (true, i) :: r, listed, m, hR, h, hlt => by
  simp only [List.all_cons, Bool.and_eq_true, decide_eq_true_eq] at hlt
  have ho : ops[i]? = some ops[i] := Array.getElem?_eq_getElem hlt.1
  simp only [seqFast, tab_get ho, Bool.and_eq_true, Bool.not_eq_true'] at h
  obtain ⟨⟨⟨h1, h2⟩, h3⟩, h4⟩ := h
  simp only [seqOk, Bool.and_eq_true]
  refine ⟨⟨?_, ?_⟩, seqOk_of_fast r _ _ (hR.set hlt.1) h4 hlt.2⟩
  ·simp only [Region.free, ho, List.all_eq_true, List.mem_range]
   intro j hj
   have hoj : ops[j]? = some ops[j] := Array.getElem?_eq_getElem hj
   have h5 := freeT_get _ _ h3 j _ (tab_get hoj)
   rw [Nat.zero_add] at h5
   rw [hoj, hR.bitT hj]
   simp only [Bool.or_eq_true] at h5 ⊢
   rcases h5 with (h5 | h5) | h5
   ·exact .inl (h5.imp id id)
   ·refine .inr (.inl ?_)
    have h6 : (mask (depsL ops[j])).testBit i = true := h5
    rw [testBit_mask] at h6
    simp only [List.contains_eq_mem, decide_eq_true_eq, depsL, List.mem_map, List.mem_filter] at h6
    obtain ⟨e, ⟨hm, hb⟩, he⟩ := h6
    rw [Array.any_eq_true']
    exact ⟨e, Array.mem_toList_iff.1 hm, by simp [hb, he]⟩
   ·rw [apartT_is] at h5
    exact .inr (.inr h5)
  ·rw [List.contains_eq_mem, decide_eq_true_eq]
   exact (ready_mem hR ho).2 ⟨h2, h1⟩
 | (false, i) :: r, listed, m, hR, h, hlt => by
  simp only [List.all_cons, Bool.and_eq_true, decide_eq_true_eq] at hlt
  simp only [seqFast, Bool.and_eq_true, decide_eq_true_eq] at h
  obtain ⟨⟨h1, h2⟩, h3⟩ := h
  simp only [seqOk, Bool.and_eq_true, beq_iff_eq]
  refine ⟨?_, seqOk_of_fast r _ _ (hR.set hlt.1) h3 hlt.2⟩
  unfold Region.ready
  refine filter_one hlt.1 fun j hj => ?_
  have hoj : ops[j]? = some ops[j] := Array.getElem?_eq_getElem hj
  have h4 := aloneT_get _ _ h1 j _ (tab_get hoj)
  rw [Nat.zero_add] at h4
  have h5 := ready_mem hR hoj
  unfold Region.ready at h5
  rw [List.mem_filter, List.mem_range] at h5
  have h6 : ∀ b : Bool, (j < ops.size ∧ b = true) ↔ b = true := fun b => ⟨fun h => h.2, fun h => ⟨hj, h⟩⟩
  rw [h6] at h5
  rw [h5]
  by_cases hji : j = i
  ·subst hji
   simp only [beq_self_eq_true, if_true, Bool.and_eq_true, Bool.not_eq_true'] at h4
   exact ⟨fun _ => rfl, fun _ => ⟨h4.2, h4.1⟩⟩
  ·have : (j == i) = false := by simpa using hji
   rw [this] at h4
   simp only [Bool.false_eq_true, if_false, Bool.or_eq_true, Bool.not_eq_true'] at h4
   refine ⟨fun h => ?_, fun h => (hji h).elim⟩
   rcases h4 with h4 | h4
   ·rw [h.1] at h4; cases h4
   ·rw [h.2] at h4; cases h4
variable {P : Program} {Q : Exit → Act → World → Prop} {S : World → Prop}
theorem wp_region_seqQ {id : Nat} {a : Act} {w : World} (T : List Info) (l : List (Bool × Nat)) (hm : P.follows .mixedOrders = true) (hs : Region.noSelect ops = true) (hl : l.length = ops.size) (hlt : (l.all fun x => decide (x.2 < ops.size)) = true)
  (hT : tab ops = T) (hk : seqFast T l 0 = true) (hQ : ∀ d v c a w, Q (.panic c) (a.put d v) w → Q (.panic c) a w) (hS : S w.drew)
  (h : S w.drew → wpSeqH P ops Q S (pickOps ops l) a w.drew) : (Code.region id ops true).wp P Q a w := by
 refine wp_region_seq l hm hs hl hlt (seqOk_of_fast l _ 0 ⟨by simp, fun j => ?_⟩ (by rw [hT]; exact hk) hlt) hQ hS h
 simp only [Array.getD_eq_getD_getElem?, Array.getElem?_replicate, Nat.zero_testBit]
 split <;> rfl
end
end Go.Proofs.YtcpfanpcdkoiaaaGreat
