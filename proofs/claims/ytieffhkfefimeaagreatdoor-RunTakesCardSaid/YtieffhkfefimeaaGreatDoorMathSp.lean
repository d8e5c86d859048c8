/-
  Plain facts on ensembles that are spoilt.
-/
import Derived.Test.YtieffhkfefimeaaGreatDoorMathO
namespace Go.Proofs.YtieffhkfefimeaaGreatDoor
open Go.RowKit
set_option linter.unusedVariables false
set_option linter.unusedSimpArgs false

structure CheckOk (e : EE) : Prop where
  size : sizeE e = true
  agg : e.agg ∈ aggW
  post : e.post ∈ postW
  base : baseE e = true
  nums : numsE e.nodes = true
  mode : everyE e.nodes true (fun n => decide (1 ≤ n.mode ∧ n.mode ≤ 7)) = true
  feat : everyE e.nodes false (fun n => decide (0 ≤ n.feat ∧ n.feat < e.feats)) = true
  val : everyE e.nodes false (fun n => finP n.val) = true
  val2 : everyE e.nodes true (fun n => decide (n.val < 4294967296)) = true
  kid : kidE e.nodes = true
  forest : forestE e.nodes = true
  leaf : leafE e = true
  weight : e.leaves.any (fun l => !finP l.wt) = false
theorem checkE_1 {f : EE}  (hb : sizeE f = false) : checkE f = 1 := by
  unfold checkE
  rw [if_pos hb]
theorem checkE_2 {f : EE} (h1 : sizeE f = true) (hb : f.agg ∉ aggW) : checkE f = 2 := by
  unfold checkE
  rw [if_neg (by rw [h1]; simp), if_pos hb]
theorem checkE_3 {f : EE} (h1 : sizeE f = true) (h2 : f.agg ∈ aggW) (hb : f.post ∉ postW) : checkE f = 3 := by
  unfold checkE
  rw [if_neg (by rw [h1]; simp), if_neg (by exact fun h => h h2), if_pos hb]
theorem checkE_4 {f : EE} (h1 : sizeE f = true) (h2 : f.agg ∈ aggW) (h3 : f.post ∈ postW) (hb : baseE f = false) : checkE f = 4 := by
  unfold checkE
  rw [if_neg (by rw [h1]; simp), if_neg (by exact fun h => h h2), if_neg (by exact fun h => h h3), if_pos hb]
theorem checkE_5 {f : EE} (h1 : sizeE f = true) (h2 : f.agg ∈ aggW) (h3 : f.post ∈ postW) (h4 : baseE f = true) (hb : numsE f.nodes = false) : checkE f = 5 := by
  unfold checkE
  rw [if_neg (by rw [h1]; simp), if_neg (by exact fun h => h h2), if_neg (by exact fun h => h h3), if_neg (by rw [h4]; simp), if_pos hb]
theorem checkE_6 {f : EE} (h1 : sizeE f = true) (h2 : f.agg ∈ aggW) (h3 : f.post ∈ postW) (h4 : baseE f = true) (h5 : numsE f.nodes = true) (hb : everyE f.nodes true (fun n => decide (1 ≤ n.mode ∧ n.mode ≤ 7)) = false) : checkE f = 6 := by
  unfold checkE
  rw [if_neg (by rw [h1]; simp), if_neg (by exact fun h => h h2), if_neg (by exact fun h => h h3), if_neg (by rw [h4]; simp), if_neg (by rw [h5]; simp), if_pos hb]
theorem checkE_7 {f : EE} (h1 : sizeE f = true) (h2 : f.agg ∈ aggW) (h3 : f.post ∈ postW) (h4 : baseE f = true) (h5 : numsE f.nodes = true) (h6 : everyE f.nodes true (fun n => decide (1 ≤ n.mode ∧ n.mode ≤ 7)) = true) (hb : everyE f.nodes false (fun n => decide (0 ≤ n.feat ∧ n.feat < f.feats)) = false) : checkE f = 7 := by
  unfold checkE
  rw [if_neg (by rw [h1]; simp), if_neg (by exact fun h => h h2), if_neg (by exact fun h => h h3), if_neg (by rw [h4]; simp), if_neg (by rw [h5]; simp), if_neg (by rw [h6]; simp), if_pos hb]
theorem checkE_8 {f : EE} (h1 : sizeE f = true) (h2 : f.agg ∈ aggW) (h3 : f.post ∈ postW) (h4 : baseE f = true) (h5 : numsE f.nodes = true) (h6 : everyE f.nodes true (fun n => decide (1 ≤ n.mode ∧ n.mode ≤ 7)) = true) (h7 : everyE f.nodes false (fun n => decide (0 ≤ n.feat ∧ n.feat < f.feats)) = true) (hb : everyE f.nodes false (fun n => finP n.val) = false ∨ everyE f.nodes true (fun n => decide (n.val < 4294967296)) = false) : checkE f = 8 := by
  unfold checkE
  rw [if_neg (by rw [h1]; simp), if_neg (by exact fun h => h h2), if_neg (by exact fun h => h h3), if_neg (by rw [h4]; simp), if_neg (by rw [h5]; simp), if_neg (by rw [h6]; simp), if_neg (by rw [h7]; simp), if_pos hb]
theorem checkE_9 {f : EE} (h1 : sizeE f = true) (h2 : f.agg ∈ aggW) (h3 : f.post ∈ postW) (h4 : baseE f = true) (h5 : numsE f.nodes = true) (h6 : everyE f.nodes true (fun n => decide (1 ≤ n.mode ∧ n.mode ≤ 7)) = true) (h7 : everyE f.nodes false (fun n => decide (0 ≤ n.feat ∧ n.feat < f.feats)) = true) (h8 : everyE f.nodes false (fun n => finP n.val) = true ∧ everyE f.nodes true (fun n => decide (n.val < 4294967296)) = true) (hb : kidE f.nodes = false) : checkE f = 9 := by
  unfold checkE
  rw [if_neg (by rw [h1]; simp), if_neg (by exact fun h => h h2), if_neg (by exact fun h => h h3), if_neg (by rw [h4]; simp), if_neg (by rw [h5]; simp), if_neg (by rw [h6]; simp), if_neg (by rw [h7]; simp), if_neg (by rw [h8.1, h8.2]; simp), if_pos hb]
theorem checkE_10 {f : EE} (h1 : sizeE f = true) (h2 : f.agg ∈ aggW) (h3 : f.post ∈ postW) (h4 : baseE f = true) (h5 : numsE f.nodes = true) (h6 : everyE f.nodes true (fun n => decide (1 ≤ n.mode ∧ n.mode ≤ 7)) = true) (h7 : everyE f.nodes false (fun n => decide (0 ≤ n.feat ∧ n.feat < f.feats)) = true) (h8 : everyE f.nodes false (fun n => finP n.val) = true ∧ everyE f.nodes true (fun n => decide (n.val < 4294967296)) = true) (h9 : kidE f.nodes = true) (hb : forestE f.nodes = false) : checkE f = 10 := by
  unfold checkE
  rw [if_neg (by rw [h1]; simp), if_neg (by exact fun h => h h2), if_neg (by exact fun h => h h3), if_neg (by rw [h4]; simp), if_neg (by rw [h5]; simp), if_neg (by rw [h6]; simp), if_neg (by rw [h7]; simp), if_neg (by rw [h8.1, h8.2]; simp), if_neg (by rw [h9]; simp), if_pos hb]
theorem checkE_11 {f : EE} (h1 : sizeE f = true) (h2 : f.agg ∈ aggW) (h3 : f.post ∈ postW) (h4 : baseE f = true) (h5 : numsE f.nodes = true) (h6 : everyE f.nodes true (fun n => decide (1 ≤ n.mode ∧ n.mode ≤ 7)) = true) (h7 : everyE f.nodes false (fun n => decide (0 ≤ n.feat ∧ n.feat < f.feats)) = true) (h8 : everyE f.nodes false (fun n => finP n.val) = true ∧ everyE f.nodes true (fun n => decide (n.val < 4294967296)) = true) (h9 : kidE f.nodes = true) (h10 : forestE f.nodes = true) (hb : leafE f = false) : checkE f = 11 := by
  unfold checkE
  rw [if_neg (by rw [h1]; simp), if_neg (by exact fun h => h h2), if_neg (by exact fun h => h h3), if_neg (by rw [h4]; simp), if_neg (by rw [h5]; simp), if_neg (by rw [h6]; simp), if_neg (by rw [h7]; simp), if_neg (by rw [h8.1, h8.2]; simp), if_neg (by rw [h9]; simp), if_neg (by rw [h10]; simp), if_pos hb]
theorem checkE_12 {f : EE} (h1 : sizeE f = true) (h2 : f.agg ∈ aggW) (h3 : f.post ∈ postW) (h4 : baseE f = true) (h5 : numsE f.nodes = true) (h6 : everyE f.nodes true (fun n => decide (1 ≤ n.mode ∧ n.mode ≤ 7)) = true) (h7 : everyE f.nodes false (fun n => decide (0 ≤ n.feat ∧ n.feat < f.feats)) = true) (h8 : everyE f.nodes false (fun n => finP n.val) = true ∧ everyE f.nodes true (fun n => decide (n.val < 4294967296)) = true) (h9 : kidE f.nodes = true) (h10 : forestE f.nodes = true) (h11 : leafE f = true) (hb : f.leaves.any (fun l => !finP l.wt) = true) : checkE f = 12 := by
  unfold checkE
  rw [if_neg (by rw [h1]; simp), if_neg (by exact fun h => h h2), if_neg (by exact fun h => h h3), if_neg (by rw [h4]; simp), if_neg (by rw [h5]; simp), if_neg (by rw [h6]; simp), if_neg (by rw [h7]; simp), if_neg (by rw [h8.1, h8.2]; simp), if_neg (by rw [h9]; simp), if_neg (by rw [h10]; simp), if_neg (by rw [h11]; simp), if_pos hb]
theorem check_ok {f : EE} (h : checkE f = 0) : CheckOk f := by
  have h1 : sizeE f = true := Bool.not_eq_false _ ▸ fun hb => by rw [checkE_1  hb] at h; cases h
  have h2 : f.agg ∈ aggW := Classical.byContradiction fun hb => by rw [checkE_2 h1 hb] at h; cases h
  have h3 : f.post ∈ postW := Classical.byContradiction fun hb => by rw [checkE_3 h1 h2 hb] at h; cases h
  have h4 : baseE f = true := Bool.not_eq_false _ ▸ fun hb => by rw [checkE_4 h1 h2 h3 hb] at h; cases h
  have h5 : numsE f.nodes = true := Bool.not_eq_false _ ▸ fun hb => by rw [checkE_5 h1 h2 h3 h4 hb] at h; cases h
  have h6 : everyE f.nodes true (fun n => decide (1 ≤ n.mode ∧ n.mode ≤ 7)) = true := Bool.not_eq_false _ ▸ fun hb => by rw [checkE_6 h1 h2 h3 h4 h5 hb] at h; cases h
  have h7 : everyE f.nodes false (fun n => decide (0 ≤ n.feat ∧ n.feat < f.feats)) = true := Bool.not_eq_false _ ▸ fun hb => by rw [checkE_7 h1 h2 h3 h4 h5 h6 hb] at h; cases h
  have h8 : everyE f.nodes false (fun n => finP n.val) = true ∧ everyE f.nodes true (fun n => decide (n.val < 4294967296)) = true := by
    refine ⟨Bool.not_eq_false _ ▸ fun hb => ?_, Bool.not_eq_false _ ▸ fun hb => ?_⟩
    · rw [checkE_8 h1 h2 h3 h4 h5 h6 h7 (.inl hb)] at h; cases h
    · rw [checkE_8 h1 h2 h3 h4 h5 h6 h7 (.inr hb)] at h; cases h
  have h9 : kidE f.nodes = true := Bool.not_eq_false _ ▸ fun hb => by rw [checkE_9 h1 h2 h3 h4 h5 h6 h7 h8 hb] at h; cases h
  have h10 : forestE f.nodes = true := Bool.not_eq_false _ ▸ fun hb => by rw [checkE_10 h1 h2 h3 h4 h5 h6 h7 h8 h9 hb] at h; cases h
  have h11 : leafE f = true := Bool.not_eq_false _ ▸ fun hb => by rw [checkE_11 h1 h2 h3 h4 h5 h6 h7 h8 h9 h10 hb] at h; cases h
  have h12 : f.leaves.any (fun l => !finP l.wt) = false := Bool.not_eq_true _ ▸ fun hb => by rw [checkE_12 h1 h2 h3 h4 h5 h6 h7 h8 h9 h10 h11 hb] at h; cases h
  exact ⟨h1, h2, h3, h4, h5, h6, h7, h8.1, h8.2, h9, h10, h11, h12⟩
theorem everyE_congr {ns ms : List EN} {all : Bool} {p : EN → Bool} (h : ns.map (fun n => (all || decide (n.mode ≠ 7)) && !p n) = ms.map (fun n => (all || decide (n.mode ≠ 7)) && !p n)) : everyE ns all p = everyE ms all p := by
  unfold everyE
  have : ∀ l : List EN, l.any (fun n => (all || decide (n.mode ≠ 7)) && !p n) = (l.map (fun n => (all || decide (n.mode ≠ 7)) && !p n)).any id := fun l => by rw [List.any_map]; rfl
  rw [this ns, this ms, h]
theorem everyE_bad {ns : List EN} {all : Bool} {p : EN → Bool} {n : EN} (hn : n ∈ ns) (h1 : (all || decide (n.mode ≠ 7)) = true) (h2 : p n = false) : everyE ns all p = false := by
  unfold everyE
  rw [Bool.not_eq_false', List.any_eq_true]
  exact ⟨n, hn, by rw [h1, h2]; rfl⟩
theorem everyE_all {ns : List EN} {all : Bool} {p : EN → Bool} (h : everyE ns all p = true) {n : EN} (hn : n ∈ ns) (h1 : (all || decide (n.mode ≠ 7)) = true) : p n = true := by
  unfold everyE at h
  rw [Bool.not_eq_true', List.any_eq_false] at h
  have := h n hn
  rw [h1] at this
  simpa using this
theorem everyE_intro {ns : List EN} {all : Bool} {p : EN → Bool} (h : ∀ n ∈ ns, (all || decide (n.mode ≠ 7)) = true → p n = true) : everyE ns all p = true := by
  unfold everyE
  rw [Bool.not_eq_true', List.any_eq_false]
  intro n hn
  cases hc : (all || decide (n.mode ≠ 7)) with
  | false => simp
  | true => rw [h n hn hc]; simp
theorem findE_congr {ns ms : List EN} (h : ns.map (fun n => (n.tree, n.node)) = ms.map (fun n => (n.tree, n.node))) (t x : Int) : findE ns t x = findE ms t x := by
  have : ∀ l : List EN, findE l t x = (l.map (fun n => (n.tree, n.node))).findIdx? (fun y => decide (y.1 = t) && decide (y.2 = x)) := fun l => by unfold findE; rw [List.findIdx?_map]; rfl
  rw [this ns, this ms, h]
theorem treesE_congr {ns ms : List EN} (h : ns.map (fun n => (n.tree, n.node)) = ms.map (fun n => (n.tree, n.node))) : treesE ns = treesE ms := by
  have : ∀ l : List EN, treesE l = setT ((l.map (fun n => (n.tree, n.node))).map Prod.fst) := fun l => by unfold treesE; rw [List.map_map]; rfl
  rw [this ns, this ms, h]
theorem numsE_congr {ns ms : List EN} (h : ns.map (fun n => (n.tree, n.node)) = ms.map (fun n => (n.tree, n.node))) : numsE ns = numsE ms := by
  have hl : ns.length = ms.length := by have := congrArg List.length h; simpa using this
  unfold numsE
  rw [hl]
  rw [Bool.eq_iff_iff, List.all_eq_true, List.all_eq_true]
  have key : ∀ k, k < ms.length → (ns[k]!.tree = ms[k]!.tree ∧ ns[k]!.node = ms[k]!.node) := by
    intro k hk
    have h1 := congrArg (fun l => l[k]?) h
    simp only [List.getElem?_map, List.getElem?_eq_getElem hk, List.getElem?_eq_getElem (show k < ns.length by omega), Option.map_some, Option.some.injEq, Prod.mk.injEq] at h1
    rw [getElem!_pos ns k (by omega), getElem!_pos ms k hk]
    exact h1
  constructor
  · intro h2 k hk
    have := h2 k hk
    have hk' := List.mem_range.1 hk
    simp only [(key k hk').1, (key k hk').2, findE_congr h] at this
    exact this
  · intro h2 k hk
    have := h2 k hk
    have hk' := List.mem_range.1 hk
    simp only [(key k hk').1, (key k hk').2, findE_congr h]
    exact this
theorem nums_at {ns : List EN} (h : numsE ns = true) {k : Nat} (hk : k < ns.length) : 0 ≤ ns[k].tree ∧ 0 ≤ ns[k].node ∧ (findE ns ns[k].tree ns[k].node).getD 0 = k := by
  unfold numsE at h
  have := List.all_eq_true.1 h k (List.mem_range.2 hk)
  rw [getElem!_pos ns k hk] at this
  simpa using this
/-- A node's fields turned: what stays of all nodes. -/
theorem set_pairs {ns : List EN} {n : Nat} {y : EN} (hn : n < ns.length) (h1 : y.tree = ns[n].tree) (h2 : y.node = ns[n].node) : (ns.set n y).map (fun n => (n.tree, n.node)) = ns.map (fun n => (n.tree, n.node)) := by
  rw [List.map_set]
  apply List.ext_getElem?
  intro i
  rw [List.getElem?_set]
  split
  · rename_i h; subst h
    rw [List.length_map] at *
    simp [hn, h1, h2]
  · rfl
theorem mem_set {ns : List EN} {n : Nat} {y z : EN} (hn : n < ns.length) (hz : z ∈ ns.set n y) : z = y ∨ z ∈ ns := by
  rcases List.mem_or_eq_of_mem_set hz with h | h
  · exact .inr h
  · exact .inl h
theorem self_set {ns : List EN} {n : Nat} {y : EN} (hn : n < ns.length) : y ∈ ns.set n y := List.mem_set hn y
theorem size_congr {e f : EE} (h1 : f.feats = e.feats) (h2 : f.tgts = e.tgts) (h3 : f.nodes.length ≤ 2000) (h4 : 1 ≤ f.nodes.length) (h5 : f.leaves.length ≤ 2000) (h6 : treesE f.nodes = treesE e.nodes) (h : sizeE e = true) : sizeE f = true := by
  unfold sizeE at h ⊢
  rw [h1, h2, h6]
  simp only [Bool.and_eq_true, decide_eq_true_eq] at h ⊢
  exact ⟨h.1, h.2.1, h.2.2.1, h.2.2.2.1, h4, h3, h5, h.2.2.2.2.2.2.2⟩
theorem trees_more {ns : List EN} {y : EN} (hy : y ∈ ns) : treesE (ns ++ [y]) = treesE ns := by
  unfold treesE
  refine rising_eq _ _ (setT_sorted _) (setT_sorted _) (fun z => ?_)
  rw [setT_mem, setT_mem, List.map_append, List.mem_append]
  constructor
  · rintro (h | h)
    · exact h
    · simp only [List.map_cons, List.map_nil, List.mem_singleton] at h
      subst h
      exact List.mem_map.2 ⟨y, hy, rfl⟩
  · exact .inl
/-- An ensemble with one thing in it that can't be. -/
def spoilE (e : EE) (how : Int) (n : Nat) : EE :=
  if how = 0 then { e with tgts := 21 } else
  if how = 1 then { e with agg := [115, 117, 109] } else
  if how = 2 then { e with post := [] } else
  if how = 3 then { e with base := [2139095040] } else
  if how = 4 then { e with nodes := e.nodes ++ [e.nodes[n]!] } else
  if how = 5 then { e with nodes := e.nodes.set n { e.nodes[n]! with mode := 8 } } else
  if how = 6 then { e with nodes := e.nodes.set n { e.nodes[n]! with tru := e.nodes[n]!.fls } } else
  { e with leaves := e.leaves ++ [⟨e.nodes[n]!.tree, -1, 0, 0⟩] }
def spoilC (how : Int) : Nat := if how = 0 then 1 else if how = 1 then 2 else if how = 2 then 3 else if how = 3 then 4 else if how = 4 then 5 else if how = 5 then 6 else if how = 6 then 9 else 11
theorem check_spoilt {e : EE} {how : Int} {n : Nat} (h : checkE e = 0) (hn : n < e.nodes.length) (hnl : e.nodes.length ≤ 60) (hll : e.leaves.length ≤ 60) (h6 : how = 6 → e.nodes[n]!.mode ≠ 7) : checkE (spoilE e how n) = spoilC how := by
  have H := check_ok h
  have hy : e.nodes[n]! = e.nodes[n] := getElem!_pos e.nodes n hn
  have hm : e.nodes[n] ∈ e.nodes := List.getElem_mem hn
  have tf : (true = false) = False := by simp
  have S : ∀ f : EE, f.feats = e.feats → f.tgts = e.tgts → f.nodes = e.nodes → f.leaves = e.leaves → sizeE f = true := by
    intro f h1 h2 h3 h4
    exact size_congr h1 h2 (by rw [h3]; omega) (by rw [h3]; omega) (by rw [h4]; omega) (by rw [h3]) H.size
  unfold spoilE spoilC
  by_cases q0 : how = 0
  · rw [if_pos q0, if_pos q0]
    exact checkE_1 (by unfold sizeE; simp)
  rw [if_neg q0, if_neg q0]
  by_cases q1 : how = 1
  · rw [if_pos q1, if_pos q1]
    exact checkE_2 (S _ rfl rfl rfl rfl) (by show ([115, 117, 109] : List UInt8) ∉ aggW; decide)
  rw [if_neg q1, if_neg q1]
  by_cases q2 : how = 2
  · rw [if_pos q2, if_pos q2]
    exact checkE_3 (S _ rfl rfl rfl rfl) H.agg (by show ([] : List UInt8) ∉ postW; decide)
  rw [if_neg q2, if_neg q2]
  by_cases q3 : how = 3
  · rw [if_pos q3, if_pos q3]
    exact checkE_4 (S _ rfl rfl rfl rfl) H.agg H.post (by
      unfold baseE
      have : finP 2139095040 = false := by kernel_rfl
      simp [this])
  rw [if_neg q3, if_neg q3]
  by_cases q4 : how = 4
  · rw [if_pos q4, if_pos q4, hy]
    have hnum : numsE (e.nodes ++ [e.nodes[n]]) = false := by
      unfold numsE
      refine List.all_eq_false.2 ⟨e.nodes.length, by simp, ?_⟩
      have h1 : (e.nodes ++ [e.nodes[n]])[e.nodes.length]! = e.nodes[n] := by simp
      simp only [h1]
      have h3 : findE (e.nodes ++ [e.nodes[n]]) e.nodes[n].tree e.nodes[n].node ≠ some e.nodes.length := by
        intro h9
        unfold findE at h9
        have h10 := (List.findIdx?_eq_some_iff_getElem.1 h9).2.2 n hn
        rw [List.getElem_append_left hn] at h10
        simp at h10
      cases hf : findE (e.nodes ++ [e.nodes[n]]) e.nodes[n].tree e.nodes[n].node with
      | none => simp; intro _ _; omega
      | some j => simp; intro _ _ e9; subst e9; exact h3 hf
    exact checkE_5 (size_congr (e := e) rfl rfl (by simp; omega) (by simp) (by show e.leaves.length ≤ 2000; omega) (trees_more hm) H.size) H.agg H.post H.base hnum
  rw [if_neg q4, if_neg q4]
  by_cases q5 : how = 5
  · rw [if_pos q5, if_pos q5, hy]
    have hp := set_pairs (y := { e.nodes[n] with mode := 8 }) hn rfl rfl
    exact checkE_6 (size_congr (e := e) rfl rfl (by simp; omega) (by simp; omega) (by show e.leaves.length ≤ 2000; omega) (treesE_congr hp) H.size) H.agg H.post H.base ((numsE_congr hp).trans H.nums) (everyE_bad (self_set hn) rfl (by simp))
  rw [if_neg q5, if_neg q5]
  by_cases q6 : how = 6
  · rw [if_pos q6, if_pos q6]
    have h7 := h6 q6
    rw [hy] at h7 ⊢
    have hp := set_pairs (y := { e.nodes[n] with tru := e.nodes[n].fls }) hn rfl rfl
    have tr : ∀ (all : Bool) (p : EN → Bool), (∀ z w : EN, z.mode = w.mode → z.feat = w.feat → z.val = w.val → p z = p w) → everyE e.nodes all p = true → everyE (e.nodes.set n { e.nodes[n] with tru := e.nodes[n].fls }) all p = true := by
      intro all p hpq hev
      refine everyE_intro fun z hz hc => ?_
      rcases mem_set hn hz with rfl | hz
      · exact (hpq { e.nodes[n] with tru := e.nodes[n].fls } e.nodes[n] rfl rfl rfl).trans (everyE_all hev hm hc)
      · exact everyE_all hev hz hc
    exact checkE_9 (size_congr (e := e) rfl rfl (by simp; omega) (by simp; omega) (by show e.leaves.length ≤ 2000; omega) (treesE_congr hp) H.size) H.agg H.post H.base ((numsE_congr hp).trans H.nums) (tr _ _ (by intro z w a b c; simp only [a]) H.mode) (tr _ _ (by intro z w a b c; simp only [b]) H.feat) ⟨tr _ _ (by intro z w a b c; simp only [c]) H.val, tr _ _ (by intro z w a b c; simp only [c]) H.val2⟩
      (by unfold kidE; exact everyE_bad (self_set hn) (by simp [h7]) (by simp))
  rw [if_neg q6, if_neg q6, hy]
  have hnf : findE e.nodes e.nodes[n].tree (-1) = none := by
    unfold findE
    rw [List.findIdx?_eq_none_iff]
    intro x hx
    obtain ⟨i, hi, rfl⟩ := List.mem_iff_getElem.1 hx
    have := (nums_at H.nums hi).2.1
    simp
    intro _ h9
    omega
  exact checkE_11 (size_congr (e := e) rfl rfl (by show e.nodes.length ≤ 2000; omega) (by show 1 ≤ e.nodes.length; omega) (by simp; omega) rfl H.size) H.agg H.post H.base H.nums H.mode H.feat ⟨H.val, H.val2⟩ H.kid H.forest (by unfold leafE; simp [hnf])
theorem spoilt_0 {e : EE} {n : Nat} {y : EN} (h : checkE e = 0) (hn : n < e.nodes.length) (hnl : e.nodes.length ≤ 60) (hll : e.leaves.length ≤ 60) (hy : e.nodes[n]! = y) : checkE { e with tgts := 21 } = 1 := by
  have h9 := check_spoilt (how := 0) h hn hnl hll (by intro h; exact absurd h (by decide))
  unfold spoilE spoilC at h9
  rw [if_pos rfl, if_pos rfl] at h9
  exact h9
theorem spoilt_1 {e : EE} {n : Nat} {y : EN} (h : checkE e = 0) (hn : n < e.nodes.length) (hnl : e.nodes.length ≤ 60) (hll : e.leaves.length ≤ 60) (hy : e.nodes[n]! = y) : checkE { e with agg := [115, 117, 109] } = 2 := by
  have h9 := check_spoilt (how := 1) h hn hnl hll (by intro h; exact absurd h (by decide))
  unfold spoilE spoilC at h9
  rw [if_neg (by decide), if_pos rfl, if_neg (by decide), if_pos rfl] at h9
  exact h9
theorem spoilt_2 {e : EE} {n : Nat} {y : EN} (h : checkE e = 0) (hn : n < e.nodes.length) (hnl : e.nodes.length ≤ 60) (hll : e.leaves.length ≤ 60) (hy : e.nodes[n]! = y) : checkE { e with post := [] } = 3 := by
  have h9 := check_spoilt (how := 2) h hn hnl hll (by intro h; exact absurd h (by decide))
  unfold spoilE spoilC at h9
  rw [if_neg (by decide), if_neg (by decide), if_pos rfl, if_neg (by decide), if_neg (by decide), if_pos rfl] at h9
  exact h9
theorem spoilt_3 {e : EE} {n : Nat} {y : EN} (h : checkE e = 0) (hn : n < e.nodes.length) (hnl : e.nodes.length ≤ 60) (hll : e.leaves.length ≤ 60) (hy : e.nodes[n]! = y) : checkE { e with base := [2139095040] } = 4 := by
  have h9 := check_spoilt (how := 3) h hn hnl hll (by intro h; exact absurd h (by decide))
  unfold spoilE spoilC at h9
  rw [if_neg (by decide), if_neg (by decide), if_neg (by decide), if_pos rfl, if_neg (by decide), if_neg (by decide), if_neg (by decide), if_pos rfl] at h9
  exact h9
theorem spoilt_4 {e : EE} {n : Nat} {y : EN} (h : checkE e = 0) (hn : n < e.nodes.length) (hnl : e.nodes.length ≤ 60) (hll : e.leaves.length ≤ 60) (hy : e.nodes[n]! = y) : checkE { e with nodes := e.nodes ++ [y] } = 5 := by
  have h9 := check_spoilt (how := 4) h hn hnl hll (by intro h; exact absurd h (by decide))
  unfold spoilE spoilC at h9
  rw [if_neg (by decide), if_neg (by decide), if_neg (by decide), if_neg (by decide), if_pos rfl, if_neg (by decide), if_neg (by decide), if_neg (by decide), if_neg (by decide), if_pos rfl, hy] at h9
  exact h9
theorem spoilt_5 {e : EE} {n : Nat} {y : EN} (h : checkE e = 0) (hn : n < e.nodes.length) (hnl : e.nodes.length ≤ 60) (hll : e.leaves.length ≤ 60) (hy : e.nodes[n]! = y) : checkE { e with nodes := e.nodes.set n { y with mode := 8 } } = 6 := by
  have h9 := check_spoilt (how := 5) h hn hnl hll (by intro h; exact absurd h (by decide))
  unfold spoilE spoilC at h9
  rw [if_neg (by decide), if_neg (by decide), if_neg (by decide), if_neg (by decide), if_neg (by decide), if_pos rfl, if_neg (by decide), if_neg (by decide), if_neg (by decide), if_neg (by decide), if_neg (by decide), if_pos rfl, hy] at h9
  exact h9
theorem spoilt_6 {e : EE} {n : Nat} {y : EN} (h : checkE e = 0) (hn : n < e.nodes.length) (hnl : e.nodes.length ≤ 60) (hll : e.leaves.length ≤ 60) (hy : e.nodes[n]! = y) (h7 : y.mode ≠ 7) : checkE { e with nodes := e.nodes.set n { y with tru := y.fls } } = 9 := by
  have h9 := check_spoilt (how := 6) h hn hnl hll (by intro _; rw [hy]; exact h7)
  unfold spoilE spoilC at h9
  rw [if_neg (by decide), if_neg (by decide), if_neg (by decide), if_neg (by decide), if_neg (by decide), if_neg (by decide), if_pos rfl, if_neg (by decide), if_neg (by decide), if_neg (by decide), if_neg (by decide), if_neg (by decide), if_neg (by decide), if_pos rfl, hy] at h9
  exact h9
theorem spoilt_7 {e : EE} {n : Nat} {y : EN} (h : checkE e = 0) (hn : n < e.nodes.length) (hnl : e.nodes.length ≤ 60) (hll : e.leaves.length ≤ 60) (hy : e.nodes[n]! = y) : checkE { e with leaves := e.leaves ++ [⟨y.tree, -1, 0, 0⟩] } = 11 := by
  have h9 := check_spoilt (how := 7) h hn hnl hll (by intro h; exact absurd h (by decide))
  unfold spoilE spoilC at h9
  rw [if_neg (by decide), if_neg (by decide), if_neg (by decide), if_neg (by decide), if_neg (by decide), if_neg (by decide), if_neg (by decide), if_neg (by decide), if_neg (by decide), if_neg (by decide), if_neg (by decide), if_neg (by decide), if_neg (by decide), if_neg (by decide), hy] at h9
  exact h9
end Go.Proofs.YtieffhkfefimeaaGreatDoor
