/-
  Pi24: SeqV (what is needed of them).
-/
import Derived.Test.YtlmjkbdodecbmaaGreatDoorPi11

namespace Go.Proofs.YtlmjkbdodecbmaaGreatDoor
open Go.RowKit
set_option linter.unusedVariables false
section
variable {P : Program} {ops : Array Oper} {Q : Exit → Act → World → Prop} {S : World → Prop}
/-- What an operation waits for, and what that waits for. -/
inductive DepP (ops : Array Oper) : Nat → Nat → Prop
  | one {j : Nat} {o : Oper} {e : Edge} (ho : ops[j]? = some o) (he : e ∈ o.after) (hb : Region.binds .any e = true) : DepP ops j e.on
  | more {j k : Nat} {o : Oper} {e : Edge} (h : DepP ops j k) (ho : ops[k]? = some o) (he : e ∈ o.after) (hb : Region.binds .any e = true) : DepP ops j e.on
theorem DepP.cons {ops : Array Oper} {j i : Nat} {o : Oper} {e : Edge} (ho : ops[j]? = some o) (he : e ∈ o.after) (hb : Region.binds .any e = true) (h : DepP ops e.on i) : DepP ops j i := by
  have key : ∀ k i, DepP ops k i → k = e.on → DepP ops j i := by
    intro k i h
    induction h with
    | one h1 h2 h3 => intro hk; subst hk; exact .more (.one ho he hb) h1 h2 h3
    | more _ h1 h2 h3 ih => intro hk; exact .more (ih hk) h1 h2 h3
  exact key _ _ h rfl
def depB (ops : Array Oper) : Nat → Nat → Nat → Bool
  | 0, _, _ => false
  | n + 1, j, i => match ops[j]? with
    | some o => o.after.any fun e => Region.binds .any e && (e.on == i || depB ops n e.on i)
    | none => false
theorem depB_spec (ops : Array Oper) : ∀ (n j i : Nat), depB ops n j i = true → DepP ops j i := by
  intro n
  induction n with
  | zero => intro j i h; cases h
  | succ n ih =>
    intro j i h
    unfold depB at h
    cases ho : ops[j]? with
    | none => rw [ho] at h; cases h
    | some o =>
      rw [ho] at h
      obtain ⟨e, he, hb⟩ := Array.any_eq_true'.1 h
      simp only [Bool.and_eq_true, Bool.or_eq_true, beq_iff_eq] at hb
      rcases hb.2 with h1 | h1
      · rw [← h1]; exact .one ho he hb.1
      · exact .cons ho he hb.1 (ih _ _ h1)
/-- The last operation waits for all others; each waits for earlier ones alone. -/
def tailOk3 (ops : Array Oper) : Bool :=
  decide (0 < ops.size) &&
  ((List.range ops.size).all fun j => match ops[j]? with
    | some o => (o.after.all fun e => !Region.binds .any e || decide (e.on < j)) && (match o.guard with | some g => decide (g.1 < ops.size - 1) | none => true)
    | none => true) &&
  (List.range (ops.size - 1)).all fun i => depB ops 4 (ops.size - 1) i
structure TailSpec3 (ops : Array Oper) : Prop where
  pos : 0 < ops.size
  early : ∀ (j : Nat) (o : Oper), ops[j]? = some o → ∀ e ∈ o.after, Region.binds .any e = true → e.on < j
  guard : ∀ (j : Nat) (o : Oper) (g : Nat) (b : Bool), ops[j]? = some o → o.guard = some (g, b) → g < ops.size - 1
  last : ∀ i, i < ops.size - 1 → DepP ops (ops.size - 1) i
theorem tailOk_spec3 (h : tailOk3 ops = true) : TailSpec3 ops := by
  unfold tailOk3 at h
  simp only [Bool.and_eq_true, decide_eq_true_eq, List.all_eq_true, List.mem_range] at h
  obtain ⟨⟨h0, h1⟩, h2⟩ := h
  have hlt : ∀ j o, ops[j]? = some o → j < ops.size := fun j o ho => by
    rcases Nat.lt_or_ge j ops.size with h3 | h3
    · exact h3
    · rw [Array.getElem?_eq_none h3] at ho; cases ho
  refine ⟨h0, fun j o ho e he hb => ?_, fun j o g b ho hg => ?_, fun i hi => ?_⟩
  · have := h1 j (hlt j o ho)
    rw [ho] at this
    simp only [Bool.and_eq_true, Array.all_eq_true_iff_forall_mem, Bool.or_eq_true, Bool.not_eq_true', decide_eq_true_eq] at this
    exact (this.1 e he).resolve_left (by rw [hb]; simp)
  · have := h1 j (hlt j o ho)
    rw [ho] at this
    simp only [hg, Bool.and_eq_true, decide_eq_true_eq] at this
    exact this.2
  · exact depB_spec ops 4 _ _ (h2 i hi)
theorem getD_pop3 {listed : Array Bool} {j : Nat} (d : Bool) (hj : j < listed.size - 1) : listed.pop.getD j d = listed.getD j d := by
  rw [Array.getD_eq_getD_getElem?, Array.getD_eq_getD_getElem?, Array.getElem?_pop, if_pos hj]
theorem ops_pop3 {j : Nat} (hj : j < ops.size - 1) : ops.pop[j]? = ops[j]? := by
  rw [Array.getElem?_pop, if_pos hj]
theorem ready_pop3 (T : TailSpec3 ops) {listed : Array Bool} (hsz : listed.size = ops.size) {j : Nat} (hj : j < ops.size - 1) : j ∈ Region.ready .any ops.pop listed.pop ↔ j ∈ Region.ready .any ops listed := by
  rw [mem_ready, mem_ready, ops_pop3 hj, getD_pop3 true (by omega)]
  constructor
  · rintro ⟨h1, o, ho, h2⟩
    refine ⟨h1, o, ho, fun e he hb => ?_⟩
    have := h2 e he hb
    rwa [getD_pop3 false (by have := T.early j o ho e he hb; omega)] at this
  · rintro ⟨h1, o, ho, h2⟩
    refine ⟨h1, o, ho, fun e he hb => ?_⟩
    have := h2 e he hb
    rwa [getD_pop3 false (by have := T.early j o ho e he hb; omega)]
/-- As long as one is left, one is ready. -/
theorem ready_some3 (T : TailSpec3 ops) {listed : Array Bool} (hsz : listed.size = ops.size) : ∀ (j : Nat), j < ops.size → listed.getD j true = false → ∃ i, i ≤ j ∧ i ∈ Region.ready .any ops listed := by
    intro j hj hl
    induction j using Nat.strongRecOn with
    | ind j ih =>
      by_cases h : ∀ o, ops[j]? = some o → ∀ e ∈ o.after, Region.binds .any e = true → listed.getD e.on false = true
      · exact ⟨j, Nat.le_refl _, mem_ready.2 ⟨hl, ops[j], Array.getElem?_eq_getElem hj, fun e he hb => h _ (Array.getElem?_eq_getElem hj) e he hb⟩⟩
      · have ⟨o, ho, e, he, hb, hn⟩ : ∃ o, ops[j]? = some o ∧ ∃ e ∈ o.after, Region.binds .any e = true ∧ ¬ listed.getD e.on false = true := by
          apply Classical.byContradiction
          intro hc
          exact h fun o ho e he hb => Classical.byContradiction fun hn => hc ⟨o, ho, e, he, hb, hn⟩
        have h1 := T.early j o ho e he hb
        have h2 : listed.getD e.on true = false := by
          have h3 : e.on < listed.size := by omega
          simp only [Array.getD_eq_getD_getElem?, Array.getElem?_eq_getElem h3, Option.getD_some] at hn ⊢
          simpa using hn
        obtain ⟨i, hi, hr⟩ := ih e.on h1 (by omega) h2
        exact ⟨i, by omega, hr⟩
theorem upon_tail3 {o : Oper} {a : Act} {w : World} {K : Act → World → Prop} (h : Oper.wp P o a w K (TailQ P ops Q)) : Oper.wp P o a w K Q := by
  unfold Oper.wp at *
  generalize (execOp a.eval o).run P w = r at *
  cases r with
  | ok n w' => cases n <;> exact h
  | halt x w' => cases x <;> exact h
theorem yielded_pop3 {t : Array Value} {g : Nat} (hg : g < ops.size - 1) : yielded ops.pop t g = yielded ops t g := by
  unfold yielded
  rw [ops_pop3 hg]
theorem wanted_pop3 (T : TailSpec3 ops) {j : Nat} {o : Oper} (ho : ops[j]? = some o) (t : Array Value) : Region.wanted o (yielded ops.pop t) = Region.wanted o (yielded ops t) := by
  unfold Region.wanted
  cases hg : o.guard with
  | none => rfl
  | some gb =>
    obtain ⟨g, b⟩ := gb
    simp only [yielded_pop3 (T.guard j o g b ho hg)]
theorem wpAny_of_init3 (T : TailSpec3 ops) : ∀ (fuel : Nat) (listed : Array Bool) (a : Act) (w : World), listed.size = ops.size → listed.getD (ops.size - 1) true = false → Shut2 ops listed →
    wpAny P .any ops.pop (TailQ P ops Q) fuel listed.pop a w → wpAny P .any ops Q (fuel + 1) listed a w := by
  have hend : ∀ (fuel : Nat) (listed : Array Bool) (a : Act) (w : World), listed.size = ops.size → listed.getD (ops.size - 1) true = false → Region.ready .any ops.pop listed.pop = [] → TailQ P ops Q .normal a w → wpAny P .any ops Q (fuel + 1) listed a w := by
    intro fuel listed a w hsz hn hr hq
    have hall : ∀ j, j < ops.size - 1 → listed.getD j true = true := by
      intro j hj
      cases h : listed.getD j true with
      | true => rfl
      | false =>
        obtain ⟨i, hi, hri⟩ := ready_some3 T hsz j (by omega) h
        have := (ready_pop3 T hsz (by omega)).2 hri
        rw [hr] at this
        cases this
    obtain ⟨k, hk, hrk⟩ := ready_some3 T hsz (ops.size - 1) (by have := T.pos; omega) hn
    have hk2 : k = ops.size - 1 := by
      rcases Nat.lt_or_ge k (ops.size - 1) with h | h
      · have := (ready_pop3 T hsz h).2 hrk
        rw [hr] at this
        cases this
      · omega
    refine ⟨fun h => (by rw [h] at hrk; cases hrk), fun i hi => ?_⟩
    have hi2 : i = ops.size - 1 := by
      have hm := hi
      rw [mem_ready] at hm
      obtain ⟨h1, o, ho, _⟩ := hm
      have hlt : i < ops.size := by
        rcases Nat.lt_or_ge i ops.size with h3 | h3
        · exact h3
        · rw [Array.getElem?_eq_none h3] at ho; cases ho
      rcases Nat.lt_or_ge i (ops.size - 1) with h | h
      · rw [hall i h] at h1; cases h1
      · omega
    subst hi2
    refine wpOp_mono (fun a' w' h' => ?_) hq
    have hr2 : Region.ready .any ops (listed.setIfInBounds (ops.size - 1) true) = [] := by
      rw [List.eq_nil_iff_forall_not_mem]
      intro j hj
      rw [mem_ready] at hj
      obtain ⟨h1, o, ho, _⟩ := hj
      have hlt : j < ops.size := by
        rcases Nat.lt_or_ge j ops.size with h3 | h3
        · exact h3
        · rw [Array.getElem?_eq_none h3] at ho; cases ho
      simp only [Array.getD_eq_getD_getElem?, Array.getElem?_setIfInBounds] at h1
      split at h1
      · rw [if_pos (by omega)] at h1; simp at h1
      · have := hall j (by omega)
        simp only [Array.getD_eq_getD_getElem?] at this
        rw [this] at h1; cases h1
    cases fuel with
    | zero => exact ⟨hr2, h'⟩
    | succ f => exact ⟨fun _ => h', fun i hi => by rw [hr2] at hi; cases hi⟩
  intro fuel
  induction fuel with
  | zero => intro listed a w hsz hn hdc h; exact hend 0 listed a w hsz hn h.1 h.2
  | succ fuel ih =>
    intro listed a w hsz hn hdc h
    obtain ⟨h0, h1⟩ := h
    by_cases hr : Region.ready .any ops.pop listed.pop = []
    · exact hend _ listed a w hsz hn hr (h0 hr)
    refine ⟨fun he => ?_, fun i hi => ?_⟩
    · obtain ⟨i, hi, hri⟩ := ready_some3 T hsz (ops.size - 1) (by have := T.pos; omega) hn
      rw [he] at hri; cases hri
    · have hi' := hi
      rw [mem_ready] at hi'
      obtain ⟨g1, o, ho, g2⟩ := hi'
      have hlt : i < ops.size := by
        rcases Nat.lt_or_ge i ops.size with h3 | h3
        · exact h3
        · rw [Array.getElem?_eq_none h3] at ho; cases ho
      have hin : i < ops.size - 1 := by
        rcases Nat.lt_or_ge i (ops.size - 1) with h3 | h3
        · exact h3
        · exfalso
          have h4 : i = ops.size - 1 := by omega
          subst h4
          apply hr
          rw [List.eq_nil_iff_forall_not_mem]
          intro j hj
          have hjn : j < ops.size - 1 := by
            rw [mem_ready] at hj
            obtain ⟨_, o', ho', _⟩ := hj
            rcases Nat.lt_or_ge j (ops.size - 1) with h5 | h5
            · exact h5
            · rw [Array.getElem?_eq_none (by simp; omega)] at ho'; cases ho'
          have hj2 := (ready_pop3 T hsz hjn).1 hj
          rw [mem_ready] at hj2
          have hlast := T.last j hjn
          have this : listed.getD j false = true := by
            clear hj hj2 hjn
            induction hlast with
            | one h1 h2 h3 => rw [ho] at h1; cases h1; exact g2 _ h2 h3
            | more _ h1 h2 h3 ih => exact hdc _ _ h1 ih _ h2 h3
          have h7 := hj2.1
          have h8 : j < listed.size := by omega
          simp only [Array.getD_eq_getD_getElem?, Array.getElem?_eq_getElem h8, Option.getD_some] at this h7
          rw [this] at h7; cases h7
      have hw := h1 i ((ready_pop3 T hsz hin).2 hi)
      unfold wpOp at hw ⊢
      rw [ops_pop3 hin] at hw
      simp only [ho] at hw ⊢
      rw [wanted_pop3 T ho] at hw
      have hpop : (listed.setIfInBounds i true).pop = listed.pop.setIfInBounds i true := by
        apply Array.ext_getElem?
        intro j
        simp only [Array.getElem?_pop, Array.getElem?_setIfInBounds, Array.size_setIfInBounds, Array.size_pop]
        split <;> split <;> simp_all <;> omega
      have hstep : ∀ a' w', wpAny P .any ops.pop (TailQ P ops Q) fuel (listed.pop.setIfInBounds i true) a' w' → wpAny P .any ops Q (fuel + 1) (listed.setIfInBounds i true) a' w' := by
        intro a' w' h'
        refine ih _ a' w' (by simpa using hsz) ?_ ?_ (by rw [hpop]; exact h')
        rotate_left
        · intro j o9 ho9 hl9 e he hb
          have mono : ∀ k, listed.getD k false = true → (listed.setIfInBounds i true).getD k false = true := by
            intro k hk
            simp only [Array.getD_eq_getD_getElem?, Array.getElem?_setIfInBounds] at hk ⊢
            split
            · split
              · rfl
              · rename_i h8 h9; subst h8; rw [Array.getElem?_eq_none (by omega)] at hk; cases hk
            · exact hk
          by_cases hji : j = i
          · subst hji
            rw [ho] at ho9
            cases ho9
            exact mono _ (g2 e he hb)
          · refine mono _ (hdc j o9 ho9 ?_ e he hb)
            simp only [Array.getD_eq_getD_getElem?, Array.getElem?_setIfInBounds] at hl9 ⊢
            rwa [if_neg (fun h => hji h.symm)] at hl9
        simp only [Array.getD_eq_getD_getElem?, Array.getElem?_setIfInBounds]
        rw [if_neg (by omega)]
        simpa only [Array.getD_eq_getD_getElem?] using hn
      split
      · rename_i hwt
        rw [if_pos hwt] at hw
        exact hw.imp (fun h' => Oper.wp_mono hstep (upon_tail3 h')) id
      · rename_i hwt
        rw [if_neg hwt] at hw
        exact hstep _ _ hw
end
end Go.Proofs.YtlmjkbdodecbmaaGreatDoor
