/-
  Pi29: MathTj MathTk SeqY RangeY TreQ TreR (what is needed of them).
-/
import Derived.Test.YtlmjkbdodecbmaaGreatDoorPi17
import Derived.Test.YtlmjkbdodecbmaaGreatDoorPi23
import Derived.Test.YtlmjkbdodecbmaaGreatDoorPi24
import Derived.Test.YtlmjkbdodecbmaaGreatDoorPi25
import Derived.Test.YtlmjkbdodecbmaaGreatDoorPi27
import Derived.Test.YtlmjkbdodecbmaaGreatDoorPi28

namespace Go.Proofs.YtlmjkbdodecbmaaGreatDoor
open Go.RowKit
set_option linter.unusedVariables false
set_option linter.unusedSimpArgs false
/-- A round of Paths: the way so far, the ways told. -/
def ptStep (t : TR) (s : List Int × List (List Int)) (x : Nat × Nat) : List Int × List (List Int) := (s.1.take (x.2 - 1) ++ [(x.1 : Int)], if kidsT t x.1 = [] then s.2 ++ [s.1.take (x.2 - 1) ++ [(x.1 : Int)]] else s.2)
def ptS (t : TR) (pre : List (Nat × Nat)) : List Int × List (List Int) := pre.foldl (ptStep t) ([], [])
def wayP (t : TR) (pre : List (Nat × Nat)) : List Int := (ptS t pre).1
def toldP (t : TR) (pre : List (Nat × Nat)) : List (List Int) := (ptS t pre).2
/-- The ways to all leaves. -/
def pathsT (t : TR) : List (List Int) := toldP t (walkT t)
theorem ptS_snoc (t : TR) (pre : List (Nat × Nat)) (x : Nat × Nat) : ptS t (pre ++ [x]) = ptStep t (ptS t pre) x := by unfold ptS; rw [List.foldl_append]; rfl
theorem wayP_snoc (t : TR) (pre : List (Nat × Nat)) (x : Nat × Nat) : wayP t (pre ++ [x]) = (wayP t pre).take (x.2 - 1) ++ [(x.1 : Int)] := by unfold wayP; rw [ptS_snoc]; rfl
theorem toldP_leaf {t : TR} (pre : List (Nat × Nat)) {x : Nat × Nat} (h : kidsT t x.1 = []) : toldP t (pre ++ [x]) = toldP t pre ++ [wayP t (pre ++ [x])] := by
  rw [wayP_snoc]
  unfold toldP
  rw [ptS_snoc]
  unfold ptStep wayP
  rw [if_pos h]
theorem toldP_no {t : TR} (pre : List (Nat × Nat)) {x : Nat × Nat} (h : ¬ kidsT t x.1 = []) : toldP t (pre ++ [x]) = toldP t pre := by
  unfold toldP
  rw [ptS_snoc]
  unfold ptStep
  rw [if_neg h]
theorem toldP_grow (t : TR) : ∀ (r pre : List (Nat × Nat)), toldP t pre <+: toldP t (pre ++ r) := by
  intro r
  induction r with
  | nil => intro pre; rw [List.append_nil]; exact List.prefix_rfl
  | cons x r ih =>
    intro pre
    have h1 : toldP t pre <+: toldP t (pre ++ [x]) := by
      by_cases h : kidsT t x.1 = []
      · rw [toldP_leaf pre h]; exact List.prefix_append _ _
      · rw [toldP_no pre h]; exact List.prefix_rfl
    have h2 := ih (pre ++ [x])
    rw [List.append_assoc, List.singleton_append] at h2
    exact h1.trans h2
theorem toldP_pre {t : TR} {pre L : List (Nat × Nat)} (h : pre <+: L) : toldP t pre <+: toldP t L := by
  obtain ⟨r, rfl⟩ := h
  exact toldP_grow t r pre
/-- Depths that go down by one at most. -/
def Chain (d : Nat) : List (Nat × Nat) → Prop
  | [] => True
  | x :: r => 1 ≤ x.2 ∧ x.2 ≤ d + 1 ∧ Chain x.2 r
def lastD (d : Nat) (l : List (Nat × Nat)) : Nat := l.foldl (fun _ y => y.2) d
theorem chain_split : ∀ (a : List (Nat × Nat)) {d : Nat} {b : List (Nat × Nat)}, Chain d (a ++ b) → Chain d a ∧ Chain (lastD d a) b := by
  intro a
  induction a with
  | nil => intro d b h; exact ⟨trivial, h⟩
  | cons x a ih =>
    rintro d b ⟨h1, h2, h3⟩
    obtain ⟨h4, h5⟩ := ih h3
    exact ⟨⟨h1, h2, h4⟩, h5⟩
theorem dfs_chain {kf : Nat → List Nat} : ∀ (f : Nat) (st : List (Nat × Nat)) (d : Nat), (∀ x ∈ st, 1 ≤ x.2 ∧ x.2 ≤ d + 1) → st.Pairwise (fun x y => y.2 ≤ x.2) → Chain d (dfs kf f st) := by
  intro f
  induction f with
  | zero => intro st d _ _; cases st <;> exact trivial
  | succ f ih =>
    intro st d h hp
    cases st with
    | nil => exact trivial
    | cons x st =>
      rw [List.pairwise_cons] at hp
      refine ⟨(h x (by simp)).1, (h x (by simp)).2, ih _ _ (fun y hy => ?_) ?_⟩
      · rcases List.mem_append.1 hy with hy | hy
        · obtain ⟨k, _, rfl⟩ := List.mem_map.1 hy
          exact ⟨by show 1 ≤ x.2 + 1; omega, Nat.le_refl _⟩
        · have h1 := h y (by simp [hy])
          have h2 := hp.1 y hy
          omega
      · rw [List.pairwise_append]
        refine ⟨?_, hp.2, fun y hy z hz => ?_⟩
        · rw [List.pairwise_map]
          exact List.Pairwise.imp (fun _ => Nat.le_refl _) (List.pairwise_of_forall (R := fun _ _ => True) (fun _ _ => trivial))
        · obtain ⟨k, _, rfl⟩ := List.mem_map.1 hy
          have := hp.1 z hz
          show z.2 ≤ x.2 + 1
          omega
theorem walkT_chain (t : TR) : Chain 0 (walkT t) := by
  unfold walkT
  split
  · exact dfs_chain _ _ 0 (fun x hx => by simp at hx; subst hx; exact ⟨Nat.le_refl _, Nat.le_refl _⟩) (by simp)
  · exact trivial
theorem fold_len (t : TR) : ∀ (r : List (Nat × Nat)) (way : List Int) (tl : List (List Int)) (d : Nat), way.length = d → Chain d r → (r.foldl (ptStep t) (way, tl)).1.length = lastD d r := by
  intro r
  induction r with
  | nil => intro way tl d h _; exact h
  | cons x r ih =>
    rintro way tl d h ⟨h1, h2, h3⟩
    rw [List.foldl_cons]
    exact ih _ _ x.2 (by simp; omega) h3
/-- The way ahead of a node is long enough. -/
theorem way_room {t : TR} {pre : List (Nat × Nat)} {x : Nat × Nat} (h : (pre ++ [x]) <+: walkT t) : 1 ≤ x.2 ∧ x.2 ≤ (wayP t pre).length + 1 ∧ (wayP t (pre ++ [x])).length = x.2 := by
  obtain ⟨r, hr⟩ := h
  have hc := walkT_chain t
  rw [← hr, List.append_assoc] at hc
  obtain ⟨h1, h2, h3, -⟩ := chain_split pre hc
  have hl : (wayP t pre).length = lastD 0 pre := fold_len t pre [] [] 0 rfl h1
  refine ⟨h2, by omega, ?_⟩
  rw [wayP_snoc, List.length_append, List.length_take, List.length_singleton]
  omega
end Go.Proofs.YtlmjkbdodecbmaaGreatDoor

namespace Go.Proofs.YtlmjkbdodecbmaaGreatDoor
open Go.RowKit
set_option linter.unusedVariables false
section
variable {F : Fence} {n : Nat} {P : Program} {ops : Array Oper} {Q : Exit → Act → World → Prop} {S : World → Prop}
/-- The post of the region without its last operation, which is made in the fence. -/
def TailQI (F : Fence) (n : Nat) (P : Program) (ops : Array Oper) (Q : Exit → Act → World → Prop) : Exit → Act → World → Prop
  | .normal, a, w => wpOpIn F n P ops Q (ops.size - 1) (fun a w => Q .normal a w) a w
  | e, a, w => Q e a w
theorem uponIn_tail3 {o : Oper} {a : Act} {w : World} {K : Act → World → Prop} (h : Oper.wpIn F n P o a w K (TailQI F n P ops Q)) : Oper.wpIn F n P o a w K Q := by
  unfold Oper.wpIn at *
  refine ⟨h.1, ?_⟩
  have h := h.2
  generalize (o.semAt F.round a.eval).run P w = r at *
  cases r with
  | ok m w' => cases m <;> exact h
  | halt x w' => cases x <;> exact h
def tailOk9 (ops : Array Oper) : Bool :=
  decide (0 < ops.size) &&
  ((List.range ops.size).all fun j => match ops[j]? with
    | some o => (o.after.all fun e => !Region.binds .any e || decide (e.on < j)) && (match o.guard with | some g => decide (g.1 < ops.size - 1) | none => true)
    | none => true) &&
  (List.range (ops.size - 1)).all fun i => depB ops 16 (ops.size - 1) i
theorem tailOk_spec9 (h : tailOk9 ops = true) : TailSpec3 ops := by
  unfold tailOk9 at h
  simp only [Bool.and_eq_true, decide_eq_true_eq, List.all_eq_true, List.mem_range] at h
  obtain ⟨⟨h0, h1⟩, h2⟩ := h
  have hlt : ∀ j o, ops[j]? = some o → j < ops.size := fun j o ho => by
    rcases Nat.lt_or_ge j ops.size with h3 | h3
    · exact h3
    · rw [Array.getElem?_eq_none h3] at ho; cases ho
  refine ⟨h0, fun j o ho e he hb => ?_, fun j o g b ho hg => ?_, fun i hi => ?_⟩
  · have := h1 j (hlt j o ho)
    rw [ho] at this
    simp only [Bool.and_eq_true, Array.all_eq_true_iff_forall_mem, Bool.or_eq_true, Bool.not_eq_true', decide_eq_true_eq] at this
    exact (this.1 e he).resolve_left (by rw [hb]; simp)
  · have := h1 j (hlt j o ho)
    rw [ho] at this
    simp only [hg, Bool.and_eq_true, decide_eq_true_eq] at this
    exact this.2
  · exact depB_spec ops 16 _ _ (h2 i hi)
theorem wpAnyIn_of_init3 (T : TailSpec3 ops) : ∀ (fuel : Nat) (listed : Array Bool) (a : Act) (w : World), listed.size = ops.size → listed.getD (ops.size - 1) true = false → Shut2 ops listed →
    wpAnyIn F n P .any ops.pop (TailQI F n P ops Q) fuel listed.pop a w → wpAnyIn F n P .any ops Q (fuel + 1) listed a w := by
  have hend : ∀ (fuel : Nat) (listed : Array Bool) (a : Act) (w : World), listed.size = ops.size → listed.getD (ops.size - 1) true = false → Region.ready .any ops.pop listed.pop = [] → TailQI F n P ops Q .normal a w → wpAnyIn F n P .any ops Q (fuel + 1) listed a w := by
    intro fuel listed a w hsz hn hr hq
    have hall : ∀ j, j < ops.size - 1 → listed.getD j true = true := by
      intro j hj
      cases h : listed.getD j true with
      | true => rfl
      | false =>
        obtain ⟨i, hi, hri⟩ := ready_some3 T hsz j (by omega) h
        have := (ready_pop3 T hsz (by omega)).2 hri
        rw [hr] at this
        cases this
    obtain ⟨k, hk, hrk⟩ := ready_some3 T hsz (ops.size - 1) (by have := T.pos; omega) hn
    have hk2 : k = ops.size - 1 := by
      rcases Nat.lt_or_ge k (ops.size - 1) with h | h
      · have := (ready_pop3 T hsz h).2 hrk
        rw [hr] at this
        cases this
      · omega
    refine ⟨fun h => (by rw [h] at hrk; cases hrk), fun i hi => ?_⟩
    have hi2 : i = ops.size - 1 := by
      have hm := hi
      rw [mem_ready] at hm
      obtain ⟨h1, o, ho, _⟩ := hm
      have hlt : i < ops.size := by
        rcases Nat.lt_or_ge i ops.size with h3 | h3
        · exact h3
        · rw [Array.getElem?_eq_none h3] at ho; cases ho
      rcases Nat.lt_or_ge i (ops.size - 1) with h | h
      · rw [hall i h] at h1; cases h1
      · omega
    subst hi2
    refine wpOpIn_mono (fun a' w' h' => ?_) hq
    have hr2 : Region.ready .any ops (listed.setIfInBounds (ops.size - 1) true) = [] := by
      rw [List.eq_nil_iff_forall_not_mem]
      intro j hj
      rw [mem_ready] at hj
      obtain ⟨h1, o, ho, _⟩ := hj
      have hlt : j < ops.size := by
        rcases Nat.lt_or_ge j ops.size with h3 | h3
        · exact h3
        · rw [Array.getElem?_eq_none h3] at ho; cases ho
      simp only [Array.getD_eq_getD_getElem?, Array.getElem?_setIfInBounds] at h1
      split at h1
      · rw [if_pos (by omega)] at h1; simp at h1
      · have := hall j (by omega)
        simp only [Array.getD_eq_getD_getElem?] at this
        rw [this] at h1; cases h1
    cases fuel with
    | zero => exact ⟨hr2, h'⟩
    | succ f => exact ⟨fun _ => h', fun i hi => by rw [hr2] at hi; cases hi⟩
  intro fuel
  induction fuel with
  | zero => intro listed a w hsz hn hdc h; exact hend 0 listed a w hsz hn h.1 h.2
  | succ fuel ih =>
    intro listed a w hsz hn hdc h
    obtain ⟨h0, h1⟩ := h
    by_cases hr : Region.ready .any ops.pop listed.pop = []
    · exact hend _ listed a w hsz hn hr (h0 hr)
    refine ⟨fun he => ?_, fun i hi => ?_⟩
    · obtain ⟨i, hi, hri⟩ := ready_some3 T hsz (ops.size - 1) (by have := T.pos; omega) hn
      rw [he] at hri; cases hri
    · have hi' := hi
      rw [mem_ready] at hi'
      obtain ⟨g1, o, ho, g2⟩ := hi'
      have hlt : i < ops.size := by
        rcases Nat.lt_or_ge i ops.size with h3 | h3
        · exact h3
        · rw [Array.getElem?_eq_none h3] at ho; cases ho
      have hin : i < ops.size - 1 := by
        rcases Nat.lt_or_ge i (ops.size - 1) with h3 | h3
        · exact h3
        · exfalso
          have h4 : i = ops.size - 1 := by omega
          subst h4
          apply hr
          rw [List.eq_nil_iff_forall_not_mem]
          intro j hj
          have hjn : j < ops.size - 1 := by
            rw [mem_ready] at hj
            obtain ⟨_, o', ho', _⟩ := hj
            rcases Nat.lt_or_ge j (ops.size - 1) with h5 | h5
            · exact h5
            · rw [Array.getElem?_eq_none (by simp; omega)] at ho'; cases ho'
          have hj2 := (ready_pop3 T hsz hjn).1 hj
          rw [mem_ready] at hj2
          have hlast := T.last j hjn
          have this : listed.getD j false = true := by
            clear hj hj2 hjn
            induction hlast with
            | one h1 h2 h3 => rw [ho] at h1; cases h1; exact g2 _ h2 h3
            | more _ h1 h2 h3 ih => exact hdc _ _ h1 ih _ h2 h3
          have h7 := hj2.1
          have h8 : j < listed.size := by omega
          simp only [Array.getD_eq_getD_getElem?, Array.getElem?_eq_getElem h8, Option.getD_some] at this h7
          rw [this] at h7; cases h7
      have hw := h1 i ((ready_pop3 T hsz hin).2 hi)
      unfold wpOpIn at hw ⊢
      rw [ops_pop3 hin] at hw
      simp only [ho] at hw ⊢
      rw [wanted_pop3 T ho] at hw
      have hpop : (listed.setIfInBounds i true).pop = listed.pop.setIfInBounds i true := by
        apply Array.ext_getElem?
        intro j
        simp only [Array.getElem?_pop, Array.getElem?_setIfInBounds, Array.size_setIfInBounds, Array.size_pop]
        split <;> split <;> simp_all <;> omega
      have hstep : ∀ a' w', wpAnyIn F n P .any ops.pop (TailQI F n P ops Q) fuel (listed.pop.setIfInBounds i true) a' w' → wpAnyIn F n P .any ops Q (fuel + 1) (listed.setIfInBounds i true) a' w' := by
        intro a' w' h'
        refine ih _ a' w' (by simpa using hsz) ?_ ?_ (by rw [hpop]; exact h')
        rotate_left
        · intro j o9 ho9 hl9 e he hb
          have mono : ∀ k, listed.getD k false = true → (listed.setIfInBounds i true).getD k false = true := by
            intro k hk
            simp only [Array.getD_eq_getD_getElem?, Array.getElem?_setIfInBounds] at hk ⊢
            split
            · split
              · rfl
              · rename_i h8 h9; subst h8; rw [Array.getElem?_eq_none (by omega)] at hk; cases hk
            · exact hk
          by_cases hji : j = i
          · subst hji
            rw [ho] at ho9
            cases ho9
            exact mono _ (g2 e he hb)
          · refine mono _ (hdc j o9 ho9 ?_ e he hb)
            simp only [Array.getD_eq_getD_getElem?, Array.getElem?_setIfInBounds] at hl9 ⊢
            rwa [if_neg (fun h => hji h.symm)] at hl9
        simp only [Array.getD_eq_getD_getElem?, Array.getElem?_setIfInBounds]
        rw [if_neg (by omega)]
        simpa only [Array.getD_eq_getD_getElem?] using hn
      split
      · rename_i hwt
        rw [if_pos hwt] at hw
        exact Oper.wpIn_mono hstep (uponIn_tail3 hw)
      · rename_i hwt
        rw [if_neg hwt] at hw
        exact ⟨hw.1, hstep _ _ hw.2⟩
theorem wpAnyIn_tail9 (hk : tailOk9 ops = true) {fuel : Nat} {a : Act} {w : World} (h : wpAnyIn F n P .any ops.pop (TailQI F n P ops Q) fuel (Array.replicate (ops.size - 1) false) a w) : wpAnyIn F n P .any ops Q (fuel + 1) (Array.replicate ops.size false) a w := by
  have T := tailOk_spec9 hk
  rw [← pop_replicate] at h
  exact wpAnyIn_of_init3 T _ (Array.replicate ops.size false) a w (by simp) (by
    have := T.pos
    rw [Array.getD_eq_getD_getElem?, Array.getElem?_replicate, if_pos (by omega)]; rfl) (fun j o _ hl9 => by
    rw [Array.getD_eq_getD_getElem?, Array.getElem?_replicate] at hl9
    split at hl9 <;> cases hl9) h
end
section
variable {P : Program} {ops : Array Oper} {Q : Exit → Act → World → Prop} {S : World → Prop}
theorem letsOut_tailI {F : Fence} {n : Nat} (h : ¬ LetsOut Q) : ¬ LetsOut (TailQI F n P ops Q) := fun h9 => h (by unfold LetsOut at *; exact h9)
/-- A region in a round: all but its last three operations in one order, these three behind, in the fence. -/
theorem wpIn_region_tail9 {l9 id : Nat} {a : Act} {w : World} (l : List (Bool × Nat)) (hnd : noDefers ops.pop.pop.pop = true) (hlo : ¬ LetsOut Q) (hm : P.follows .mixedOrders = true) (hk : tailOk9 ops = true) (hk' : tailOk9 ops.pop = true) (hk'' : tailOk9 ops.pop.pop = true) (hs : Region.noSelect ops.pop.pop.pop = true) (hl : l.length + 3 = ops.size) (hlt : (l.all fun x => decide (x.2 < ops.pop.pop.pop.size)) = true)
    (hk2 : seqOk ops.pop.pop.pop l (Array.replicate (ops.size - 3) false) = true) (hQ : ∀ c a w, ¬ Q (.panic c) a w) (hS : S w.drew)
    (h : S w.drew → wpSeqH P ops.pop.pop.pop (TailQI (Fence.wide.inRound l9) 0 P ops.pop.pop (TailQI (Fence.wide.inRound l9) 0 P ops.pop (TailQI (Fence.wide.inRound l9) 0 P ops Q))) S (pickOps ops l) a w.drew) : (Code.region id ops true).wpIn (Fence.wide.inRound l9) 0 P Q a w := by
  have hsz : ops.pop.pop.pop.size = ops.size - 3 := by simp only [Array.size_pop]; omega
  have hltA : ∀ m, ops.size - 3 ≤ m → (l.all fun x => decide (x.2 < m)) = true := fun m hm9 => by
    rw [List.all_eq_true] at hlt ⊢
    intro x hx
    have := hlt x hx
    simp only [decide_eq_true_eq] at this ⊢
    omega
  have e : pickOps ops.pop.pop.pop l = pickOps ops l := ((pickOps_pop (ops := ops.pop.pop) l hlt).trans (pickOps_pop (ops := ops.pop) l (hltA _ (by simp only [Array.size_pop]; omega)))).trans (pickOps_pop l (hltA _ (by simp only [Array.size_pop]; omega)))
  have h1 := wpAnyH_of_seq (P := P) (Q := TailQI (Fence.wide.inRound l9) 0 P ops.pop.pop (TailQI (Fence.wide.inRound l9) 0 P ops.pop (TailQI (Fence.wide.inRound l9) 0 P ops Q))) (S := S) hs (fun d v c a w h9 => (hQ c _ _ h9).elim) l _ _ _ hk2 hlt hS (by rw [e]; exact h hS)
  have h2 := wpAnyIn_of_wpAny (l := l9) hnd (letsOut_tailI (letsOut_tailI (letsOut_tailI hlo))) _ _ _ _ (wpAny_of_held _ _ _ _ h1)
  have h3 := wpAnyIn_tail9 hk'' (by rw [show ops.pop.pop.size - 1 = ops.size - 3 by simp only [Array.size_pop]; omega]; exact h2)
  rw [show ops.pop.pop.size = ops.size - 2 by simp only [Array.size_pop]; omega] at h3
  have h4 := wpAnyIn_tail9 hk' (by rw [show ops.pop.size - 1 = ops.size - 2 by simp only [Array.size_pop]; omega]; exact h3)
  rw [show ops.pop.size = ops.size - 1 by simp only [Array.size_pop]] at h4
  have h5 := wpAnyIn_tail9 hk h4
  rw [show l.length + 1 + 1 + 1 = ops.size by omega] at h5
  exact wpIn_region_any hm h5
/-- The last operation, made in the fence. -/
theorem tailI_end {F : Fence} {n : Nat} {a : Act} {w : World} {o : Oper} (ho : ops[ops.size - 1]? = some o) (hw : Region.wanted o (yielded ops a.tmps) = true) (h : Oper.wpIn F n P o a w (fun a w => Q .normal a w) Q) : TailQI F n P ops Q .normal a w := by
  show wpOpIn F n P ops Q (ops.size - 1) (fun a w => Q .normal a w) a w
  unfold wpOpIn
  rw [ho]
  simp only [hw, if_true]
  exact h
/-- The last operation, passed. -/
theorem tailI_pass {n : Nat} {l9 : Nat} {a : Act} {w : World} {o : Oper} (ho : ops[ops.size - 1]? = some o) (hw : Region.wanted o (yielded ops a.tmps) = false) (h : Q .normal (a.put o.dst undef) w) : TailQI (Fence.wide.inRound l9) n P ops Q .normal a w := by
  show wpOpIn (Fence.wide.inRound l9) n P ops Q (ops.size - 1) (fun a w => Q .normal a w) a w
  unfold wpOpIn
  rw [ho]
  simp only [hw]
  exact ⟨fun _ _ => trivial, h⟩
end
end Go.Proofs.YtlmjkbdodecbmaaGreatDoor

namespace Go.Proofs.YtlmjkbdodecbmaaGreatDoor
open Go.RowKit
set_option linter.unusedVariables false
set_option linter.unusedSimpArgs false
theorem wp_rangeY {α : Type} {P : Program} {g : Operand} {ps : Array Tmp} {assign body : Code} {Q : Exit → Act → World → Prop} {a : Act} {w : World}
    {gf : Nat} {lb : Array Value} (hg : a.eval g = .func (.func gf) #[] lb) (eg : ∀ args w, (callFunc gf args).run P w = .ok (.enter gf args) w)
    {Enc : World → Array Value → α → Prop} {xs : List α} {R : Nat → Prop} (hit : IterW P gf lb Enc xs R w) (hps : ∀ W v x, Enc W v x → v.size = ps.size) (hR : ∀ k, R k → k < w.heap.size)
    (I : List α → (Nat → Prop) → World → Prop) (Ix : Code → List α → (Nat → Prop) → World → Prop) (hI : ∀ pre S W W', I pre S W → Oth w.heap.size S W W' → I pre S W') (hIx : ∀ c pre S W W', Ix c pre S W → Oth w.heap.size S W W' → Ix c pre S W')
    (S0 : Nat → Prop) (hS0 : ∀ k, S0 k → ¬ R k ∧ k < w.heap.size) (h0 : I [] S0 w) (Ax : α → Act → World → Prop) (hAx : ∀ x a' W W', Ax x a' W → Ext w.heap.size W W' → Ax x a' W')
    (hassign : ∀ (l : Nat) (pre : List α) (x : α) (v : Array Value) (S : Nat → Prop) (W : World) (K : Act → World → Prop), I pre S W → Enc W v x → pre ++ [x] <+: xs →
      (∀ a' W', Below W.heap.size W W' → I pre S W' → Ax x a' W' → K a' W') →
      assign.wpIn (Fence.wide.inRound l) 0 P (Exit.then K (fun _ _ _ => False)) { tmps := (ps.zip v).foldl (fun t (p, v) => t.setIfInBounds p v) a.tmps, defers := [] } W)
    (hbody : ∀ (l : Nat) (pre : List α) (x : α) (a' : Act) (S : Nat → Prop) (W : World), I pre S W → Ax x a' W → pre ++ [x] <+: xs → (∀ k, S k → ¬ R k ∧ k < W.heap.size) → body.wpIn (Fence.wide.inRound l) 0 P (postW I Ix (pre ++ [x]) S W) a' W)
    (hdone : ∀ (S : Nat → Prop) (W : World), I xs S W → ¬ S w.heap.size → (∀ k, S k → ¬ R k) → W.heap[w.heap.size]? = some (.deferred (some [])) → Q .normal { a with defers := { target := .collected w.heap.size, args := #[] } :: a.defers } W)
    (hstop : ∀ (c : Code) (pre : List α) (S : Nat → Prop) (W : World), pre <+: xs → Ix c pre S W → ¬ S w.heap.size → W.heap[w.heap.size]? = some (.deferred (some [])) → c.wpIn Fence.wide 0 P Q { a with defers := { target := .collected w.heap.size, args := #[] } :: a.defers } W) :
    (Code.rangeFunc g ps assign body).wpIn Fence.wide 0 P Q a w := by
  refine wpIn_rangeFunc ?_
  intro fn hfn
  obtain ⟨rec, hrec⟩ : ∃ rec : LoopState → Option Code → Loop, rec = fun st pe => { state := st, pending := pe, fn, tmps := a.tmps, params := ps, assign, body, defers := w.heap.size } := ⟨_, rfl⟩
  obtain ⟨W1, hW1⟩ : ∃ W1, (w.alloc (.deferred (some []))).alloc (.loop (rec .ready none)) = W1 := ⟨_, rfl⟩
  have hL1 : W1.heap[w.heap.size + 1]? = some (.loop (rec .ready none)) := by
    rw [← hW1]; have := World.alloc_heap_new (w.alloc (.deferred (some []))) (.loop (rec .ready none)); rwa [World.size_alloc] at this
  have hK1 : W1.heap[w.heap.size]? = some (.deferred (some [])) := by
    rw [← hW1]; exact (Below.heap_alloc _ _ _ (by simp)).trans (World.alloc_heap_new w _)
  have hb1 : Below w.heap.size w W1 := by
    rw [← hW1]; exact ((Below.refl _ w).alloc (Nat.le_refl _) _).alloc (by simp) _
  have hI1 : I [] S0 W1 := hI _ _ _ _ h0 (Oth.of_below hb1)
  refine ⟨w.heap.size + 1, [{ target := .collected w.heap.size, args := #[] }], W1, { target := .fn (.func gf) lb, args := #[.func (.yield (w.heap.size + 1)) #[] #[]] }, W1, gf,
    #[.func (.yield (w.heap.size + 1)) #[] #[]] ++ lb, W1, ?_, ?_, ?_, ?_, fun h => by simp [Fence.wide] at h, ?_⟩
  · rw [← hW1, hrec]; exact run_enterLoop_outer _ _ _ _ _
  · simp only [resolve, hg]
    simp [go_sem]
  · intro f' hf'; trivial
  · simp [invoke, go_sem, eg]
  · refine (hit (w.heap.size + 1)
      (fun pre T W => ∃ S, (T = fun k => S k ∨ k = w.heap.size + 1) ∧ I pre S W ∧ (∀ k, S k → ¬ R k ∧ k < W.heap.size) ∧ ¬ S w.heap.size ∧ ¬ S (w.heap.size + 1) ∧ W.heap[w.heap.size + 1]? = some (.loop (rec .ready none)) ∧ W.heap[w.heap.size]? = some (.deferred (some [])))
      (fun pre T W => ∃ S c, (T = fun k => S k ∨ k = w.heap.size + 1) ∧ ¬ S (w.heap.size + 1) ∧ ¬ S w.heap.size ∧ Ix c pre S W ∧ W.heap[w.heap.size + 1]? = some (.loop (rec .done (some c))) ∧ W.heap[w.heap.size]? = some (.deferred (some [])))
      (fun k => S0 k ∨ k = w.heap.size + 1) W1 hb1 (fun k hk => by
        have hlt1 := (Array.getElem?_eq_some_iff.1 hL1).1
        rcases hk with h | h
        · exact ⟨(hS0 k h).1, by have := (hS0 k h).2; omega⟩
        · exact ⟨fun hr => by have := hR k hr; omega, by omega⟩) ?_ ?_ ?_ ⟨S0, rfl, hI1, fun k h => ⟨(hS0 k h).1, by have := (hS0 k h).2; have := hb1.size; omega⟩, fun h => by have := (hS0 _ h).2; omega, fun h => by have := (hS0 _ h).2; omega, hL1, hK1⟩).mono ?_
    · rintro pre T W W' ⟨S, rfl, hi, h1, h2, h3, hl, hk⟩ hb
      exact ⟨S, rfl, hI _ _ _ _ hi (hb.mono hb1.size (fun k h => .inl h)), fun k hk => ⟨(h1 k hk).1, Nat.lt_of_lt_of_le (h1 k hk).2 hb.size⟩, h2, h3, (hb.same _ (Array.getElem?_eq_some_iff.1 hl).1 (.inr (.inr rfl))).trans hl, (hb.same _ (Array.getElem?_eq_some_iff.1 hk).1 (.inl (Array.getElem?_eq_some_iff.1 hK1).1)).trans hk⟩
    · rintro pre T W W' ⟨S, c, rfl, h3, h4, hi, hl, hk⟩ hb
      exact ⟨S, c, rfl, h3, h4, hIx c _ _ _ _ hi (hb.mono hb1.size (fun k h => .inl h)), (hb.same _ (Array.getElem?_eq_some_iff.1 hl).1 (.inr (.inr rfl))).trans hl, (hb.same _ (Array.getElem?_eq_some_iff.1 hk).1 (.inl (Array.getElem?_eq_some_iff.1 hK1).1)).trans hk⟩
    · -- ONE ROUND
      rintro pre x v T W ⟨S, rfl, hi, hSB, hSD, hSl, hl, hk⟩ henc hpre
      have hlt : w.heap.size + 1 < W.heap.size := (Array.getElem?_eq_some_iff.1 hl).1
      have hy := run_yield (P := P) (args := v) hl (by rw [hrec]; exact hps _ _ _ henc)
      rw [hrec] at hy
      refine ⟨fn, _, assign, body, hy, roundIn_of_wpIn hfn (hassign _ pre x v S W _ hi henc hpre ?_)⟩
      clear hy
      intro a' Wa hba hia hax
      have hla := (hba.block _ hlt).trans hl
      have hka := (hba.block w.heap.size (by omega)).trans hk
      have hlta : w.heap.size + 1 < Wa.heap.size := Nat.lt_of_lt_of_le hlt hba.size
      refine ⟨_, run_beginRound hla (by rw [hrec]), ?_⟩
      have hl2 : (Wa.putObj (w.heap.size + 1) (.loop { rec .ready none with state := .busy })).heap[w.heap.size + 1]? = some (.loop { rec .ready none with state := .busy }) := World.putObj_heap_same hlta
      have hk2 : (Wa.putObj (w.heap.size + 1) (.loop { rec .ready none with state := .busy })).heap[w.heap.size]? = some (.deferred (some [])) := (World.putObj_heap_other (by omega)).trans hka
      have hex : Ext w.heap.size Wa (Wa.putObj (w.heap.size + 1) (.loop { rec .ready none with state := .busy })) := Ext.put (by omega) hla rfl
      have hf2 : Foot (fun k => S k ∨ k = w.heap.size + 1) (fun k => S k ∨ k = w.heap.size + 1) W (Wa.putObj (w.heap.size + 1) (.loop { rec .ready none with state := .busy })) :=
        (Foot.of_below hba).trans (Foot.put _ (.inr rfl))
      refine wpIn_mono (hbody _ pre x a' S _ (hI _ _ _ _ hia (Oth.put _ (by omega) hSl)) (hAx _ _ _ _ hax hex) hpre (fun k hk => ⟨(hSB k hk).1, by have := (hSB k hk).2; have := hba.size; simp; omega⟩)) ?_
      generalize Wa.putObj (w.heap.size + 1) (.loop { rec .ready none with state := .busy }) = W2 at hl2 hk2 hf2 ⊢
      have hlt2 : w.heap.size + 1 < W2.heap.size := (Array.getElem?_eq_some_iff.1 hl2).1
      have fin : ∀ (jump : Option Code) (S' : Nat → Prop) (W3 : World), Foot S S' W2 W3 →
          (Instr.endRound (w.heap.size + 1) jump).run P W3 = .ok (.bool jump.isNone) (W3.putObj (w.heap.size + 1) (.loop (rec (if jump.isNone then .ready else .done) jump))) ∧
          W3.heap[w.heap.size + 1]? = some (.loop { rec .ready none with state := .busy }) ∧
          (W3.putObj (w.heap.size + 1) (.loop (rec (if jump.isNone then .ready else .done) jump))).heap[w.heap.size + 1]? = some (.loop (rec (if jump.isNone then .ready else .done) jump)) ∧
          (W3.putObj (w.heap.size + 1) (.loop (rec (if jump.isNone then .ready else .done) jump))).heap[w.heap.size]? = some (.deferred (some [])) ∧
          Foot (fun k => S k ∨ k = w.heap.size + 1) (fun k => S' k ∨ k = w.heap.size + 1) W (W3.putObj (w.heap.size + 1) (.loop (rec (if jump.isNone then .ready else .done) jump))) ∧
          ¬ S' w.heap.size ∧ ¬ S' (w.heap.size + 1) ∧ (∀ k, S' k → ¬ R k) := fun jump S' W3 hf => by
        have hl3 := (hf.same _ hlt2 hSl).trans hl2
        have hk3 := (hf.same w.heap.size (by omega) hSD).trans hk2
        have := run_endRound (P := P) jump hl3
        rw [hrec] at this ⊢
        refine ⟨this, by rw [hrec] at hl3; exact hl3, World.putObj_heap_same (Array.getElem?_eq_some_iff.1 hl3).1, (World.putObj_heap_other (by omega)).trans hk3, ?_, ?_, ?_, ?_⟩
        · exact (hf2.trans (hf.wide (T := fun k => k = w.heap.size + 1))).trans (Foot.put _ (.inr rfl))
        · intro h; rcases hf.fresh _ h with h1 | h1
          · exact hSD h1
          · omega
        · intro h; rcases hf.fresh _ h with h1 | h1
          · exact hSl h1
          · omega
        · intro k h; rcases hf.fresh _ h with h1 | h1
          · exact (hSB k h1).1
          · intro hr; have := hR k hr; have := hf2.size; omega
      rintro e a3 W3 hp
      cases e with
      | normal =>
        obtain ⟨S', hi3, hf3, ht3⟩ := hp
        obtain ⟨hr, hl3, hl4, hk4, hft, g1, g2, g3⟩ := fin none S' W3 hf3
        exact ⟨_, _, hr, .inl ⟨rfl, _, ⟨S', rfl, hI _ _ _ _ hi3 (Oth.put _ (by omega) g2), fun k hk => ⟨g3 k hk, by simpa using ht3 k hk⟩, g1, g2, hl4, hk4⟩, hft, fun k hk => by
          rcases hk with h | h
          · simpa using ht3 k h
          · rw [h]; exact (Array.getElem?_eq_some_iff.1 hl4).1⟩⟩
      | ret =>
        obtain ⟨S', hi3, hf3⟩ := hp
        obtain ⟨hr, hl3, hl4, hk4, hft, g1, g2, g3⟩ := fin (some .ret) S' W3 hf3
        exact ⟨_, _, hr, .inr ⟨rfl, _, ⟨S', .ret, rfl, g2, g1, hIx _ _ _ _ _ hi3 (Oth.put _ (by omega) g2), hl4, hk4⟩, hft⟩⟩
      | exit id =>
        obtain ⟨S', hi3, hf3⟩ := hp
        obtain ⟨hr, hl3, hl4, hk4, hft, g1, g2, g3⟩ := fin (some (.exit id)) S' W3 hf3
        exact ⟨_, _, hr, .inr ⟨rfl, _, ⟨S', .exit id, rfl, g2, g1, hIx _ _ _ _ _ hi3 (Oth.put _ (by omega) g2), hl4, hk4⟩, hft⟩⟩
      | goto t =>
        obtain ⟨S', hi3, hf3⟩ := hp
        obtain ⟨hr, hl3, hl4, hk4, hft, g1, g2, g3⟩ := fin (some (.goto t)) S' W3 hf3
        exact ⟨_, _, hr, .inr ⟨rfl, _, ⟨S', .goto t, rfl, g2, g1, hIx _ _ _ _ _ hi3 (Oth.put _ (by omega) g2), hl4, hk4⟩, hft⟩⟩
      | panic ch => exact hp.elim
      | outgrown => exact hp.elim
    · -- BEHIND THE ITERATOR
      rintro e W2 ⟨⟨v, rfl⟩, (⟨T, ⟨S, rfl, hi, hSr, hSd, hn, hl, hk⟩, _⟩ | ⟨pre, T, hp, ⟨S, c, rfl, hn, hSd, hi, hl, hk⟩, _⟩)⟩
      · exact ⟨none, _, by have := run_endLoop (P := P) hl (by rw [hrec]; simp); rw [hrec] at this; exact this, hdone S _ (hI _ _ _ _ hi (Oth.put _ (by omega) hn)) hSd (fun k h => (hSr k h).1) ((World.putObj_heap_other (by omega)).trans hk)⟩
      · exact ⟨some c, _, by have := run_endLoop (P := P) hl (by rw [hrec]; simp); rw [hrec] at this; exact this, hstop c pre S _ hp (hIx _ _ _ _ _ hi (Oth.put _ (by omega) hn)) hSd ((World.putObj_heap_other (by omega)).trans hk)⟩
end Go.Proofs.YtlmjkbdodecbmaaGreatDoor

namespace Go.Proofs.YtlmjkbdodecbmaaGreatDoor
open Go.RowKit Go.Shelf
set_option linter.unusedVariables false
set_option linter.unusedSimpArgs false
attribute [local go_sem] Oper.semAt_some field_nat
abbrev pathsF : Nat := 41
theorem enters_paths1 : ∀ args w, (callFunc pathsF args).run Tryz.prog w = .ok (.enter pathsF args) w := enters_of Tryz.func41 (by kernel_rfl) rfl
theorem paths_any (no : Option Addr) (n nc : Nat) (ms nt : Int) (w : World) : Calls Tryz.prog 11 #[.agg #[.slice no n nc, .int .i64 ms, .int .i64 nt]] w fun e w' => e = .returned (.func (.func pathsF) #[] #[.pointer (some ⟨w.heap.size, 0, none⟩)]) ∧ w' = w.alloc (.cells #[.slice no n nc, .int .i64 ms, .int .i64 nt] 24) := by
  go_enter Tryz.func11, Tryz.ntmps11
  go_wp2_with fail
  go_ret
  exact ⟨rfl, rfl⟩
theorem OwnsK.cut {K base : Nat} {e : TypeId} {w : World} {ao : Option Addr} {n m c : Nat} {xs r : List Value} (h : OwnsK K base e w (.slice ao n c) n xs) (hm : m ≤ n) (hr : r.length = m * K) (hx : r <+: xs) : OwnsK K base e w (.slice ao m c) m r := by
  obtain ⟨h1, ⟨h2, h3⟩ | ⟨g', cap', cur, e1, h3, h4, h5, h6, h7, h8⟩⟩ := h
  · cases h2
    have hm0 : m = 0 := by omega
    subst hm0
    exact ⟨hr, .inl ⟨rfl, rfl⟩⟩
  · cases e1
    refine ⟨hr, .inr ⟨g', c, cur, rfl, h3, h4, by omega, h6, h7, ?_⟩⟩
    obtain ⟨s, hs⟩ := hx
    have h9 : cur.toList.take (n * K) = r ++ s := by rw [h8, hs]
    have h10 : cur.toList.take (m * K) = (cur.toList.take (n * K)).take (m * K) := by
      rw [List.take_take, Nat.min_eq_left (Nat.mul_le_mul_right K hm)]
    rw [h10, h9, ← hr, List.take_left']
    rfl
theorem icel_pre {a b : List Int} (h : a <+: b) : icel a <+: icel b := by
  obtain ⟨s, rfl⟩ := h
  rw [icel_app]
  exact List.prefix_append _ _
/-- The state between two rounds of Paths' walk. -/
structure PtI (D0 D1 p2 p3 px B : Nat) (t : TR) (yf : Value) (J : List (List Int) → (Nat → Prop) → World → Prop) (S0 : Nat → Prop) (W1 : World) (pre : List (Nat × Nat)) (S : Nat → Prop) (W : World) (wo : Option Addr) (wn wc : Nat) (So : Nat → Prop) : Prop where
  eS : S = fun k => (k = p3 ∨ (Value.slice wo wn wc).ownBlock = some k) ∨ So k
  b2 : BoxL W p2 [yf]
  b3 : BoxL W p3 [.slice wo wn wc]
  own : OwnsK 1 D1 3 W (.slice wo wn wc) (wayP t pre).length (icel (wayP t pre))
  j : J (toldP t pre) So W
  foot : Foot S0 So W1 W
  apart : ∀ k, So k → k ≠ p2 ∧ k ≠ p3 ∧ (Value.slice wo wn wc).ownBlock ≠ some k ∧ ¬ Res B px k
  top : Top So W
end Go.Proofs.YtlmjkbdodecbmaaGreatDoor

namespace Go.Proofs.YtlmjkbdodecbmaaGreatDoor
open Go.RowKit Go.Shelf
set_option linter.unusedVariables false
set_option linter.unusedSimpArgs false
attribute [local go_sem] Oper.semAt_some field_nat
theorem E_rowsI : ElemK Tryz.prog 28 27 (.slice none 0 0) 1 24 := elemK_of Tryz.underlying28 (by kernel_rfl) rfl (by decide)
/-- The list that is grown, its box. -/
def WyI (D p3 p5 : Nat) (stop : Int) (w : World) (pre : List (List Int)) (S : Nat → Prop) (W : World) : Prop := ∃ (ao : Option Addr) (an ac : Nat) (xs : List Value), (S = fun k => k = p5 ∨ (Value.slice ao an ac).ownBlock = some k) ∧ BoxL W p3 [.int .i64 stop] ∧ BoxL W p5 [.slice ao an ac] ∧ OwnsK 1 D 27 W (.slice ao an ac) pre.length xs ∧ Below w.heap.size w W
theorem WyI.oth {D p3 p5 : Nat} {stop : Int} {w : World} {pre : List (List Int)} {S : Nat → Prop} {W W' : World} {D1 : Nat} (h : WyI D p3 p5 stop w pre S W) (ho : Oth D1 S W W') (hw : w.heap.size ≤ D1) (h3 : p3 < D1) : WyI D p3 p5 stop w pre S W' := by
  obtain ⟨ao, an, ac, xs, rfl, i1, i2, i4, i7⟩ := h
  exact ⟨ao, an, ac, xs, rfl, i1.block (ho.same _ i1.lt (.inl h3)), i2.block (ho.same _ i2.lt (.inr (.inl rfl))), i4.block fun g hg => ho.same g (i4.lt g hg).2 (.inr (.inr hg)), i7.trans ⟨ho.os, ho.tape, ho.output, ho.size, fun k hk => ho.same k (Nat.lt_of_lt_of_le hk i7.size) (.inl (by omega))⟩⟩
end Go.Proofs.YtlmjkbdodecbmaaGreatDoor
