/-
  Ph25: MathTj MathTk SeqY (what is needed of them).
-/
import Derived.Test.YtlmjkbdodecbmaaGreatDoorPh20
import Derived.Test.YtlmjkbdodecbmaaGreatDoorPh22

namespace Go.Proofs.YtlmjkbdodecbmaaGreatDoor
open Go.RowKit
set_option linter.unusedVariables false
set_option linter.unusedSimpArgs false
/-- A round of Paths: the way so far, the ways told. -/
def ptStep (t : TR) (s : List Int × List (List Int)) (x : Nat × Nat) : List Int × List (List Int) := (s.1.take (x.2 - 1) ++ [(x.1 : Int)], if kidsT t x.1 = [] then s.2 ++ [s.1.take (x.2 - 1) ++ [(x.1 : Int)]] else s.2)
def ptS (t : TR) (pre : List (Nat × Nat)) : List Int × List (List Int) := pre.foldl (ptStep t) ([], [])
def wayP (t : TR) (pre : List (Nat × Nat)) : List Int := (ptS t pre).1
def toldP (t : TR) (pre : List (Nat × Nat)) : List (List Int) := (ptS t pre).2
/-- The ways to all leaves. -/
def pathsT (t : TR) : List (List Int) := toldP t (walkT t)
theorem ptS_snoc (t : TR) (pre : List (Nat × Nat)) (x : Nat × Nat) : ptS t (pre ++ [x]) = ptStep t (ptS t pre) x := by unfold ptS; rw [List.foldl_append]; rfl
theorem wayP_snoc (t : TR) (pre : List (Nat × Nat)) (x : Nat × Nat) : wayP t (pre ++ [x]) = (wayP t pre).take (x.2 - 1) ++ [(x.1 : Int)] := by unfold wayP; rw [ptS_snoc]; rfl
theorem toldP_leaf {t : TR} (pre : List (Nat × Nat)) {x : Nat × Nat} (h : kidsT t x.1 = []) : toldP t (pre ++ [x]) = toldP t pre ++ [wayP t (pre ++ [x])] := by
  rw [wayP_snoc]
  unfold toldP
  rw [ptS_snoc]
  unfold ptStep wayP
  rw [if_pos h]
theorem toldP_no {t : TR} (pre : List (Nat × Nat)) {x : Nat × Nat} (h : ¬ kidsT t x.1 = []) : toldP t (pre ++ [x]) = toldP t pre := by
  unfold toldP
  rw [ptS_snoc]
  unfold ptStep
  rw [if_neg h]
theorem toldP_grow (t : TR) : ∀ (r pre : List (Nat × Nat)), toldP t pre <+: toldP t (pre ++ r) := by
  intro r
  induction r with
  | nil => intro pre; rw [List.append_nil]; exact List.prefix_rfl
  | cons x r ih =>
    intro pre
    have h1 : toldP t pre <+: toldP t (pre ++ [x]) := by
      by_cases h : kidsT t x.1 = []
      · rw [toldP_leaf pre h]; exact List.prefix_append _ _
      · rw [toldP_no pre h]; exact List.prefix_rfl
    have h2 := ih (pre ++ [x])
    rw [List.append_assoc, List.singleton_append] at h2
    exact h1.trans h2
theorem toldP_pre {t : TR} {pre L : List (Nat × Nat)} (h : pre <+: L) : toldP t pre <+: toldP t L := by
  obtain ⟨r, rfl⟩ := h
  exact toldP_grow t r pre
/-- Depths that go down by one at most. -/
def Chain (d : Nat) : List (Nat × Nat) → Prop
  | [] => True
  | x :: r => 1 ≤ x.2 ∧ x.2 ≤ d + 1 ∧ Chain x.2 r
def lastD (d : Nat) (l : List (Nat × Nat)) : Nat := l.foldl (fun _ y => y.2) d
theorem chain_split : ∀ (a : List (Nat × Nat)) {d : Nat} {b : List (Nat × Nat)}, Chain d (a ++ b) → Chain d a ∧ Chain (lastD d a) b := by
  intro a
  induction a with
  | nil => intro d b h; exact ⟨trivial, h⟩
  | cons x a ih =>
    rintro d b ⟨h1, h2, h3⟩
    obtain ⟨h4, h5⟩ := ih h3
    exact ⟨⟨h1, h2, h4⟩, h5⟩
theorem dfs_chain {kf : Nat → List Nat} : ∀ (f : Nat) (st : List (Nat × Nat)) (d : Nat), (∀ x ∈ st, 1 ≤ x.2 ∧ x.2 ≤ d + 1) → st.Pairwise (fun x y => y.2 ≤ x.2) → Chain d (dfs kf f st) := by
  intro f
  induction f with
  | zero => intro st d _ _; cases st <;> exact trivial
  | succ f ih =>
    intro st d h hp
    cases st with
    | nil => exact trivial
    | cons x st =>
      rw [List.pairwise_cons] at hp
      refine ⟨(h x (by simp)).1, (h x (by simp)).2, ih _ _ (fun y hy => ?_) ?_⟩
      · rcases List.mem_append.1 hy with hy | hy
        · obtain ⟨k, _, rfl⟩ := List.mem_map.1 hy
          exact ⟨by show 1 ≤ x.2 + 1; omega, Nat.le_refl _⟩
        · have h1 := h y (by simp [hy])
          have h2 := hp.1 y hy
          omega
      · rw [List.pairwise_append]
        refine ⟨?_, hp.2, fun y hy z hz => ?_⟩
        · rw [List.pairwise_map]
          exact List.Pairwise.imp (fun _ => Nat.le_refl _) (List.pairwise_of_forall (R := fun _ _ => True) (fun _ _ => trivial))
        · obtain ⟨k, _, rfl⟩ := List.mem_map.1 hy
          have := hp.1 z hz
          show z.2 ≤ x.2 + 1
          omega
theorem walkT_chain (t : TR) : Chain 0 (walkT t) := by
  unfold walkT
  split
  · exact dfs_chain _ _ 0 (fun x hx => by simp at hx; subst hx; exact ⟨Nat.le_refl _, Nat.le_refl _⟩) (by simp)
  · exact trivial
theorem fold_len (t : TR) : ∀ (r : List (Nat × Nat)) (way : List Int) (tl : List (List Int)) (d : Nat), way.length = d → Chain d r → (r.foldl (ptStep t) (way, tl)).1.length = lastD d r := by
  intro r
  induction r with
  | nil => intro way tl d h _; exact h
  | cons x r ih =>
    rintro way tl d h ⟨h1, h2, h3⟩
    rw [List.foldl_cons]
    exact ih _ _ x.2 (by simp; omega) h3
/-- The way ahead of a node is long enough. -/
theorem way_room {t : TR} {pre : List (Nat × Nat)} {x : Nat × Nat} (h : (pre ++ [x]) <+: walkT t) : 1 ≤ x.2 ∧ x.2 ≤ (wayP t pre).length + 1 ∧ (wayP t (pre ++ [x])).length = x.2 := by
  obtain ⟨r, hr⟩ := h
  have hc := walkT_chain t
  rw [← hr, List.append_assoc] at hc
  obtain ⟨h1, h2, h3, -⟩ := chain_split pre hc
  have hl : (wayP t pre).length = lastD 0 pre := fold_len t pre [] [] 0 rfl h1
  refine ⟨h2, by omega, ?_⟩
  rw [wayP_snoc, List.length_append, List.length_take, List.length_singleton]
  omega
theorem fold_count (t : TR) : ∀ (r : List (Nat × Nat)) (way : List Int) (tl : List (List Int)), (r.foldl (ptStep t) (way, tl)).2.length = tl.length + (r.filter fun x => decide (kidsT t x.1 = [])).length := by
  intro r
  induction r with
  | nil => intro way tl; simp
  | cons x r ih =>
    intro way tl
    rw [List.foldl_cons, List.filter_cons]
    by_cases h : kidsT t x.1 = []
    · rw [if_pos (by simpa using h)]
      unfold ptStep at ih ⊢
      rw [ih, if_pos h]
      simp
      omega
    · rw [if_neg (by simpa using h)]
      unfold ptStep at ih ⊢
      rw [ih, if_neg h]
theorem paths_count (t : TR) : (pathsT t).length = ((walkT t).filter fun x => decide (kidsT t x.1 = [])).length := by
  have := fold_count t (walkT t) [] []
  simpa [pathsT, toldP, ptS] using this
end Go.Proofs.YtlmjkbdodecbmaaGreatDoor

namespace Go.Proofs.YtlmjkbdodecbmaaGreatDoor
open Go.RowKit
set_option linter.unusedVariables false
set_option linter.unusedSimpArgs false
theorem upK_some {N : Nat} {i : Int} (hi : 0 ≤ i) : ∀ (ks : List Int) (ps : List (Int × Int)) (up : List Int), UpS N ps up → (ps.map Prod.fst ++ ks).Nodup → (∀ k ∈ ks, 1 ≤ k ∧ k < (N : Int)) → ∃ up', upK N i ks up = some up' := by
  intro ks
  induction ks with
  | nil => intro ps up _ _ _; exact ⟨up, rfl⟩
  | cons k ks ih =>
    intro ps up h hn hv
    obtain ⟨h1, h2⟩ := hv k (by simp)
    have hnk : ∀ p ∈ ps, p.1 ≠ k := fun p hp e => by
      rw [List.nodup_append] at hn
      exact hn.2.2 p.1 (List.mem_map.2 ⟨p, hp, rfl⟩) k (by simp) e
    have hno : up[k.toNat]? = some (-1) := h.no k.toNat (by omega) (fun p hp e => by
      have := (h.val p hp).1
      exact hnk p hp (by omega))
    have hc : ¬ (k < 1 ∨ (N : Int) ≤ k ∨ 0 ≤ up[k.toNat]?.getD 0) := by rw [hno]; simp; omega
    rw [upK, if_neg hc]
    have hone : upK N i [k] up = some (up.set k.toNat i) := by rw [upK, if_neg hc]; rfl
    have hs := upK_spec hi [k] ps up _ h hone
    exact ih _ _ hs (by simpa using hn) (fun j hj => hv j (by simp [hj]))
theorem pairs_fst (n : TN) (i : Int) : (n.kids.map (fun k => (k, i))).map Prod.fst = n.kids := by simp [Function.comp_def]
theorem upN_some {N : Nat} : ∀ (ns : List TN) (i : Int) (ps : List (Int × Int)) (up : List Int), 0 ≤ i → UpS N ps up → (ps.map Prod.fst ++ (pairsN i ns).map Prod.fst).Nodup → (∀ n ∈ ns, ∀ k ∈ n.kids, 1 ≤ k ∧ k < (N : Int)) → ∃ up', upN N i ns up = some up' := by
  intro ns
  induction ns with
  | nil => intro i ps up _ _ _ _; exact ⟨up, rfl⟩
  | cons n ns ih =>
    intro i ps up hi h hn hv
    rw [pairsN, List.map_append, pairs_fst, ← List.append_assoc] at hn
    obtain ⟨u, hu⟩ := upK_some hi n.kids ps up h (List.nodup_append.1 hn).1 (hv n (by simp))
    obtain ⟨v, hv9⟩ := ih (i + 1) _ u (by omega) (upK_spec hi n.kids ps up u h hu) (by rw [List.map_append, pairs_fst]; exact hn) (fun m hm => hv m (by simp [hm]))
    exact ⟨v, by rw [upN, hu]; exact hv9⟩
theorem nodup_pairs_of : ∀ (ns : List TN) (i : Int), (∀ n ∈ ns, n.kids.Nodup) → (∀ (x y : Nat) (n m : TN), ns[x]? = some n → ns[y]? = some m → x ≠ y → ∀ k ∈ n.kids, k ∉ m.kids) → ((pairsN i ns).map Prod.fst).Nodup := by
  intro ns
  induction ns with
  | nil => intro i _ _; simp [pairsN]
  | cons n ns ih =>
    intro i h1 h2
    rw [pairsN, List.map_append, pairs_fst, List.nodup_append]
    refine ⟨h1 n (by simp), ih (i + 1) (fun m hm => h1 m (by simp [hm])) (fun x y a b ha hb hxy => h2 (x + 1) (y + 1) a b (by simpa using ha) (by simpa using hb) (by omega)), fun a ha b hb e => ?_⟩
    subst e
    obtain ⟨p, hp, rfl⟩ := List.mem_map.1 hb
    obtain ⟨m, x, hx, _, hk⟩ := (mem_pairsN ns (i + 1) p).1 hp
    exact h2 0 (m + 1) n x rfl (by simpa using hx) (by omega) p.1 ha hk
theorem upT_some {t : TR} (hv : ∀ n ∈ t.nodes, ∀ k ∈ n.kids, 1 ≤ k ∧ k < (t.N : Int)) (h1 : ∀ n ∈ t.nodes, n.kids.Nodup) (h2 : ∀ (x y : Nat) (n m : TN), t.nodes[x]? = some n → t.nodes[y]? = some m → x ≠ y → ∀ k ∈ n.kids, k ∉ m.kids) : ∃ up, upT t = some up :=
  upN_some t.nodes 0 [] (List.replicate t.N (-1)) (by omega) ⟨by simp, by simp, by simp, fun k hk _ => by rw [List.getElem?_replicate]; simp [hk]⟩ (by simpa using nodup_pairs_of t.nodes 0 h1 h2) hv
theorem kids_total : ∀ (ns : List TN) (i : Int), (ns.map fun x => x.kids.length).sum = ((pairsN i ns).map Prod.fst).length := by
  intro ns
  induction ns with
  | nil => intro i; rfl
  | cons n ns ih => intro i; rw [List.map_cons, List.sum_cons, pairsN, List.map_append, List.length_append, pairs_fst, ih (i + 1)]
theorem dfs_map {kf kg : Nat → List Nat} {N : Nat} {φ : Nat → Nat} (h : ∀ x, x < N → kg (φ x) = (kf x).map φ) (hv : ∀ x, x < N → ∀ k ∈ kf x, k < N) : ∀ (f : Nat) (st : List (Nat × Nat)), (∀ x ∈ st, x.1 < N) → dfs kg f (st.map fun x => (φ x.1, x.2)) = (dfs kf f st).map fun x => (φ x.1, x.2) := by
  intro f
  induction f with
  | zero => intro st _; cases st <;> rfl
  | succ f ih =>
    intro st hs
    cases st with
    | nil => rfl
    | cons x st =>
      rw [List.map_cons, dfs, dfs, List.map_cons]
      congr 1
      rw [← ih _ (fun y hy => by
        rcases List.mem_append.1 hy with hy | hy
        · obtain ⟨k, hk, rfl⟩ := List.mem_map.1 hy
          exact hv x.1 (hs x (by simp)) k hk
        · exact hs y (by simp [hy])), List.map_append, h x.1 (hs x (by simp))]
      simp [Function.comp_def]
section
variable {t : TR} (hs : shapeB t = true)
include hs
theorem kid_ok {x : Nat} {n : TN} (hn : t.nodes[x]? = some n) : ∀ k ∈ n.kids, 1 ≤ k ∧ k < (t.N : Int) := fun k hk => by
  obtain ⟨up, _, ho, _⟩ := shapeB_true hs
  obtain ⟨a, b, _⟩ := ho.val x n hn k hk
  exact ⟨a, b⟩
theorem posT_zero : posT t 0 = 0 := by
  unfold posT walkT
  rw [if_pos hs]
  unfold dfsAll
  rw [dfs]
  simp
theorem posT_pos {n : Nat} (h1 : 1 ≤ n) (h2 : n < t.N) : 1 ≤ posT t n := by
  rcases Nat.eq_zero_or_pos (posT t n) with h | h
  · have := posT_inj hs h2 (by omega) (h.trans (posT_zero hs).symm)
    omega
  · exact h
theorem orderT_N : (orderT t).N = t.N := orderT_len hs
theorem orderT_get {j : Nat} {n : TN} (hn : t.nodes[j]? = some n) : (orderT t).nodes[posT t j]? = some (newN t n) := by
  have hj : j < t.N := (List.getElem?_eq_some_iff.1 hn).1
  have h1 := posT_get hs hj
  rw [List.getElem?_map] at h1
  unfold orderT
  rw [List.getElem?_map]
  cases hw : (walkT t)[posT t j]? with
  | none => rw [hw] at h1; cases h1
  | some x =>
    rw [hw] at h1
    simp only [Option.map_some, Option.some.injEq] at h1 ⊢
    rw [h1, hn]
    rfl
theorem orderT_kids {j : Nat} (hj : j < t.N) : kidsT (orderT t) (posT t j) = (kidsT t j).map (posT t) := by
  have hn : t.nodes[j]? = some (t.nodes[j]'hj) := List.getElem?_eq_getElem hj
  unfold kidsT
  rw [orderT_get hs hn, hn]
  simp [newN, Function.comp_def]
theorem newN_kid {j : Nat} {n : TN} (hn : t.nodes[j]? = some n) {k : Int} (hk : k ∈ (newN t n).kids) : ∃ i : Nat, (i : Int) ∈ n.kids ∧ 1 ≤ i ∧ i < t.N ∧ k = ((posT t i : Nat) : Int) := by
  obtain ⟨m, hm, rfl⟩ := List.mem_map.1 hk
  obtain ⟨h1, h2⟩ := kid_ok hs hn m hm
  exact ⟨m.toNat, by rwa [Int.toNat_of_nonneg (by omega)], by omega, by omega, rfl⟩
theorem order_up : ∃ up, upT (orderT t) = some up := by
  obtain ⟨up, _, ho, _⟩ := shapeB_true hs
  refine upT_some (fun y hy k hk => ?_) (fun y hy => ?_) (fun p q y z hy hz hpq k hk hk2 => ?_)
  · obtain ⟨p, hp⟩ := List.getElem?_of_mem hy
    obtain ⟨j, n, hj, hn, -, rfl⟩ := orderT_at hs hp
    obtain ⟨i, _, h1, h2, rfl⟩ := newN_kid hs hn hk
    have := posT_pos hs h1 h2
    have := posT_lt hs h2
    rw [orderT_N hs]
    omega
  · obtain ⟨p, hp⟩ := List.getElem?_of_mem hy
    obtain ⟨j, n, hj, hn, -, rfl⟩ := orderT_at hs hp
    show (n.kids.map _).Nodup
    have hv := kid_ok hs hn
    have hd := ho.nd j n hn
    generalize n.kids = l at hv hd
    induction l with
    | nil => simp
    | cons a l ih =>
      rw [List.nodup_cons] at hd
      rw [List.map_cons, List.nodup_cons]
      refine ⟨fun hm => ?_, ih (fun k hk => hv k (by simp [hk])) hd.2⟩
      obtain ⟨b, hb, e⟩ := List.mem_map.1 hm
      have ha1 := hv a (by simp)
      have hb1 := hv b (by simp [hb])
      have e2 := posT_inj hs (n := b.toNat) (m := a.toNat) (by omega) (by omega) (by omega)
      have : a = b := by omega
      exact hd.1 (by rw [this]; exact hb)
  · obtain ⟨j, n, hj, hn, hp, rfl⟩ := orderT_at hs hy
    obtain ⟨i, m, hi, hm, hq, rfl⟩ := orderT_at hs hz
    obtain ⟨a, ha, ha1, ha2, e1⟩ := newN_kid hs hn hk
    obtain ⟨b, hb, hb1, hb2, e2⟩ := newN_kid hs hm hk2
    have hab := posT_inj hs ha2 hb2 (by omega)
    subst hab
    have hji : j ≠ i := fun e => hpq (by rw [← hp, ← hq, e])
    exact ho.dj j i n m hn hm hji _ ha hb
theorem order_dfs : dfsAll (kidsT (orderT t)) t.N = (walkT t).map fun x => (posT t x.1, x.2) := by
  obtain ⟨up, _, ho, hN, _⟩ := shapeB_true hs
  have hw : walkT t = dfsAll (kidsT t) t.N := by unfold walkT; rw [if_pos hs]
  rw [hw]
  unfold dfsAll
  rw [← dfs_map (kf := kidsT t) (kg := kidsT (orderT t)) (N := t.N) (φ := posT t) (fun x hx => orderT_kids hs hx) (fun x hx k hk => (ho.f.val x k hk).2) (t.N + 1) [(0, 1)] (fun x hx => by simp at hx; subst hx; exact hN)]
  rw [List.map_cons, List.map_nil]
  show _ = dfs _ _ [(posT t 0, 1)]
  rw [posT_zero hs]
theorem order_shape : shapeB (orderT t) = true := by
  obtain ⟨up, hup⟩ := order_up hs
  obtain ⟨_, _, _, hN, _⟩ := shapeB_true hs
  have ho := upT_once hup
  unfold shapeB
  rw [hup]
  simp only [Bool.and_eq_true, decide_eq_true_eq]
  rw [orderT_N hs]
  refine ⟨hN, ?_⟩
  have hof := ho.f
  have hob := ho.f.rev
  rw [orderT_N hs] at hof hob
  have hp := dfsAll_perm hN hof hob (fun x k => by simp)
  show (dfsAll (fun x => (kidsT (orderT t) x).reverse) t.N).length = t.N
  rw [← hp.1, order_dfs hs, List.length_map, walkT_len hs]
theorem order_walk : walkT (orderT t) = (walkT t).map fun x => (posT t x.1, x.2) := by
  unfold walkT
  rw [if_pos (order_shape hs), orderT_N hs, order_dfs hs, if_pos hs]
  unfold walkT
  rw [if_pos hs]
theorem order_deep : deepT (orderT t) = deepT t := by
  unfold deepT
  rw [order_walk hs, List.foldl_map]
theorem order_paths : (pathsT (orderT t)).length = (pathsT t).length := by
  rw [paths_count, paths_count, order_walk hs, List.filter_map, List.length_map]
  congr 1
  apply List.filter_congr
  intro x hx
  have hx9 := walk_fst_lt hs hx
  show decide (kidsT (orderT t) (posT t x.1) = []) = _
  rw [orderT_kids hs hx9]
  simp
theorem order_pos {p : Nat} (hp : p < t.N) : posT (orderT t) p = p := by
  have hs2 := order_shape hs
  have hl : p < (walkT t).length := by rw [walkT_len hs]; exact hp
  have hx : (walkT t)[p]? = some ((walkT t)[p]'hl) := List.getElem?_eq_getElem hl
  have h1 : (walkT (orderT t))[p]? = some (posT t ((walkT t)[p]'hl).1, ((walkT t)[p]'hl).2) := by rw [order_walk hs, List.getElem?_map, hx]; rfl
  have h2 := posT_at hs2 h1
  have h3 := posT_at hs hx
  rw [h3] at h2
  exact h2
theorem newN_again {j : Nat} {n : TN} (hn : t.nodes[j]? = some n) : newN (orderT t) (newN t n) = newN t n := by
  have hk : (newN t n).kids.map (fun k => ((posT (orderT t) k.toNat : Nat) : Int)) = (newN t n).kids := by
    conv => rhs; rw [← List.map_id (newN t n).kids]
    apply List.map_congr_left
    intro k hk
    obtain ⟨i, _, h1, h2, rfl⟩ := newN_kid hs hn hk
    rw [Int.toNat_natCast, order_pos hs (posT_lt hs h2)]
    rfl
  have hd : (if 0 ≤ (newN t n).df ∧ (newN t n).df < ((orderT t).N : Int) then ((posT (orderT t) (newN t n).df.toNat : Nat) : Int) else -1) = (newN t n).df := by
    rw [orderT_N hs]
    by_cases h : 0 ≤ n.df ∧ n.df < (t.N : Int)
    · have e : (newN t n).df = ((posT t n.df.toNat : Nat) : Int) := by show (if _ then _ else _) = _; rw [if_pos h]
      have hl := posT_lt hs (n := n.df.toNat) (by omega)
      rw [e, if_pos (by omega), Int.toNat_natCast, order_pos hs hl]
    · have e : (newN t n).df = -1 := by show (if _ then _ else _) = _; rw [if_neg h]
      rw [e, if_neg (by omega)]
  show (⟨_, _, _, _, _⟩ : TN) = _
  rw [hk, hd]
theorem order_again : orderT (orderT t) = orderT t := by
  have hs2 := order_shape hs
  have hl : (orderT (orderT t)).nodes = (orderT t).nodes := by
    apply List.ext_getElem?
    intro p
    by_cases hp : p < t.N
    · obtain ⟨y, hy⟩ : ∃ y, (orderT t).nodes[p]? = some y := ⟨_, List.getElem?_eq_getElem (by rw [orderT_len hs]; exact hp)⟩
      obtain ⟨j, n, hj, hn, hpj, rfl⟩ := orderT_at hs hy
      have h1 := orderT_get hs2 hy
      rw [order_pos hs hp, newN_again hs hn] at h1
      rw [h1, hy]
    · rw [List.getElem?_eq_none (by rw [orderT_len hs2, orderT_N hs]; omega), List.getElem?_eq_none (by rw [orderT_len hs]; omega)]
  show (⟨(orderT (orderT t)).nodes, _, _⟩ : TR) = ⟨(orderT t).nodes, _, _⟩
  rw [hl]
  rfl
theorem order_valid {fs : List F5} (h : validT fs t = true) : validT fs (orderT t) = true := by
  obtain ⟨h1, h2, _, h4⟩ := validT_out h
  unfold validT
  simp only [Bool.and_eq_true, decide_eq_true_eq]
  refine ⟨?_, ?_, order_shape hs, by rw [order_deep hs]; exact h4⟩
  · unfold headT at h1 ⊢
    rw [orderT_len hs]
    exact h1
  · rw [List.all_eq_true]
    intro y hy
    obtain ⟨p, hp⟩ := List.getElem?_of_mem hy
    obtain ⟨j, n, hj, hn, -, rfl⟩ := orderT_at hs hp
    have h9 := List.all_eq_true.1 h2 n (List.mem_of_getElem? hn)
    unfold nodeB at h9 ⊢
    simp only [Bool.and_eq_true, Bool.or_eq_true, decide_eq_true_eq] at h9 ⊢
    refine ⟨h9.1, h9.2.1, h9.2.2.1, ?_⟩
    rcases h9.2.2.2 with h5 | h5
    · left
      show (if _ then _ else _) = (-1 : Int)
      rw [if_neg (by omega)]
    · right
      obtain ⟨a, b⟩ := kid_ok hs hn _ h5
      show (if _ then _ else _) ∈ n.kids.map _
      rw [if_pos ⟨by omega, b⟩]
      exact List.mem_map.2 ⟨n.df, h5, rfl⟩
theorem kids_few : (t.nodes.map fun x => x.kids.length).sum + 1 ≤ t.N := by
  obtain ⟨up, hu, ho, hN, _⟩ := shapeB_true hs
  have hS := upT_spec hu
  rw [kids_total t.nodes 0]
  have h1 : (((pairsN 0 t.nodes).map Prod.fst).map fun k : Int => k.toNat - 1).Nodup := by
    have hn := hS.nd
    have hv : ∀ k ∈ (pairsN 0 t.nodes).map Prod.fst, 1 ≤ k := fun k hk => by
      obtain ⟨p, hp, rfl⟩ := List.mem_map.1 hk
      exact (hS.val p hp).1
    generalize (pairsN 0 t.nodes).map Prod.fst = l at hn hv
    induction l with
    | nil => simp
    | cons a l ih =>
      rw [List.nodup_cons] at hn
      rw [List.map_cons, List.nodup_cons]
      refine ⟨fun hm => ?_, ih hn.2 (fun k hk => hv k (by simp [hk]))⟩
      obtain ⟨b, hb, e⟩ := List.mem_map.1 hm
      have h1 := hv a (by simp)
      have h2 := hv b (by simp [hb])
      have : a = b := by omega
      exact hn.1 (by rw [this]; exact hb)
  have h2 := nodup_lt (N := t.N - 1) h1 (fun x hx => by
    obtain ⟨k, hk, rfl⟩ := List.mem_map.1 hx
    obtain ⟨p, hp, rfl⟩ := List.mem_map.1 hk
    have := hS.val p hp
    omega)
  rw [List.length_map] at h2
  omega
end
theorem treeR_two : ∀ (ls : List TN) (n : Int), 0 ≤ treeR n ls → n ≤ 2000 → treeR n ls + 2 * ((ls.length : Nat) : Int) + (((ls.map fun x => x.kids.length).sum : Nat) : Int) ≤ n := by
  intro ls
  induction ls with
  | nil => intro n h hn; rw [treeR] at h ⊢; simp
  | cons x r ih =>
    intro n h hn
    rw [treeR] at h ⊢
    by_cases h0 : n < 0
    · rw [if_pos h0] at h; omega
    · rw [if_neg h0] at h ⊢
      have h9 : 0 ≤ predR (roomL n [4, x.sc.length, x.ct.length, x.kids.length]) x.p := by
        by_cases h8 : predR (roomL n [4, x.sc.length, x.ct.length, x.kids.length]) x.p < 0
        · rw [treeR_neg h8] at h; omega
        · omega
      have h7 : 0 ≤ roomL n [4, x.sc.length, x.ct.length, x.kids.length] := by
        by_cases h8 : roomL n [4, x.sc.length, x.ct.length, x.kids.length] < 0
        · have hz : predR (roomL n [4, x.sc.length, x.ct.length, x.kids.length]) x.p < 0 := by
            generalize roomL n [4, x.sc.length, x.ct.length, x.kids.length] = m at h8
            have hl : roomL m [1] ≤ m ∨ roomL m [1] = -1 := roomL_le _ _
            have hl2 : roomL m [1] < 0 := by omega
            rw [predR_eq, valsRoom_neg hl2, predsR_neg hl2]; exact hl2
          omega
        · omega
      obtain ⟨h5, h6⟩ := roomL_sum _ h7
      simp only [List.sum_cons, List.sum_nil, Int.natCast_add] at h5
      obtain ⟨h1, h2, h3⟩ := predR_le x.p _ h9 (by omega)
      have k1 := ih _ h (by omega)
      rw [List.length_cons, List.map_cons, List.sum_cons]
      omega
theorem order_small {t : TR} (hs : shapeB t = true) (hb : treeB t = true) : (orderT t).nodes.length + ((orderT t).nodes.map fun x => x.kids.length).sum ≤ 1500 ∧ ∀ z ∈ (orderT t).nodes, SmN z := by
  obtain ⟨h1, h2⟩ := treeB_le hb
  have h3 := kids_few (order_shape hs)
  have h4 : 2 * t.N ≤ 1500 + 1 := by
    unfold treeB at hb
    simp only [decide_eq_true_eq] at hb
    have h5 := treeR_two t.nodes 1500 hb (by decide)
    unfold TR.N
    omega
  rw [orderT_N hs] at h3
  refine ⟨by rw [orderT_len hs]; omega, fun y hy => ?_⟩
  obtain ⟨p, hp⟩ := List.getElem?_of_mem hy
  obtain ⟨j, n, hj, hn, -, rfl⟩ := orderT_at hs hp
  have h9 := h2 n (List.mem_of_getElem? hn)
  exact ⟨h9.sc, h9.ct, by show (n.kids.map _).length ≤ 4000; rw [List.length_map]; exact h9.kids, h9.p, h9.sz⟩
end Go.Proofs.YtlmjkbdodecbmaaGreatDoor

namespace Go.Proofs.YtlmjkbdodecbmaaGreatDoor
open Go.RowKit
set_option linter.unusedVariables false
section
variable {F : Fence} {n : Nat} {P : Program} {ops : Array Oper} {Q : Exit → Act → World → Prop} {S : World → Prop}
/-- The post of the region without its last operation, which is made in the fence. -/
def TailQI (F : Fence) (n : Nat) (P : Program) (ops : Array Oper) (Q : Exit → Act → World → Prop) : Exit → Act → World → Prop
  | .normal, a, w => wpOpIn F n P ops Q (ops.size - 1) (fun a w => Q .normal a w) a w
  | e, a, w => Q e a w
theorem uponIn_tail3 {o : Oper} {a : Act} {w : World} {K : Act → World → Prop} (h : Oper.wpIn F n P o a w K (TailQI F n P ops Q)) : Oper.wpIn F n P o a w K Q := by
  unfold Oper.wpIn at *
  refine ⟨h.1, ?_⟩
  have h := h.2
  generalize (o.semAt F.round a.eval).run P w = r at *
  cases r with
  | ok m w' => cases m <;> exact h
  | halt x w' => cases x <;> exact h
def tailOk9 (ops : Array Oper) : Bool :=
  decide (0 < ops.size) &&
  ((List.range ops.size).all fun j => match ops[j]? with
    | some o => (o.after.all fun e => !Region.binds .any e || decide (e.on < j)) && (match o.guard with | some g => decide (g.1 < ops.size - 1) | none => true)
    | none => true) &&
  (List.range (ops.size - 1)).all fun i => depB ops 16 (ops.size - 1) i
theorem tailOk_spec9 (h : tailOk9 ops = true) : TailSpec3 ops := by
  unfold tailOk9 at h
  simp only [Bool.and_eq_true, decide_eq_true_eq, List.all_eq_true, List.mem_range] at h
  obtain ⟨⟨h0, h1⟩, h2⟩ := h
  have hlt : ∀ j o, ops[j]? = some o → j < ops.size := fun j o ho => by
    rcases Nat.lt_or_ge j ops.size with h3 | h3
    · exact h3
    · rw [Array.getElem?_eq_none h3] at ho; cases ho
  refine ⟨h0, fun j o ho e he hb => ?_, fun j o g b ho hg => ?_, fun i hi => ?_⟩
  · have := h1 j (hlt j o ho)
    rw [ho] at this
    simp only [Bool.and_eq_true, Array.all_eq_true_iff_forall_mem, Bool.or_eq_true, Bool.not_eq_true', decide_eq_true_eq] at this
    exact (this.1 e he).resolve_left (by rw [hb]; simp)
  · have := h1 j (hlt j o ho)
    rw [ho] at this
    simp only [hg, Bool.and_eq_true, decide_eq_true_eq] at this
    exact this.2
  · exact depB_spec ops 16 _ _ (h2 i hi)
theorem wpAnyIn_of_init3 (T : TailSpec3 ops) : ∀ (fuel : Nat) (listed : Array Bool) (a : Act) (w : World), listed.size = ops.size → listed.getD (ops.size - 1) true = false → Shut2 ops listed →
    wpAnyIn F n P .any ops.pop (TailQI F n P ops Q) fuel listed.pop a w → wpAnyIn F n P .any ops Q (fuel + 1) listed a w := by
  have hend : ∀ (fuel : Nat) (listed : Array Bool) (a : Act) (w : World), listed.size = ops.size → listed.getD (ops.size - 1) true = false → Region.ready .any ops.pop listed.pop = [] → TailQI F n P ops Q .normal a w → wpAnyIn F n P .any ops Q (fuel + 1) listed a w := by
    intro fuel listed a w hsz hn hr hq
    have hall : ∀ j, j < ops.size - 1 → listed.getD j true = true := by
      intro j hj
      cases h : listed.getD j true with
      | true => rfl
      | false =>
        obtain ⟨i, hi, hri⟩ := ready_some3 T hsz j (by omega) h
        have := (ready_pop3 T hsz (by omega)).2 hri
        rw [hr] at this
        cases this
    obtain ⟨k, hk, hrk⟩ := ready_some3 T hsz (ops.size - 1) (by have := T.pos; omega) hn
    have hk2 : k = ops.size - 1 := by
      rcases Nat.lt_or_ge k (ops.size - 1) with h | h
      · have := (ready_pop3 T hsz h).2 hrk
        rw [hr] at this
        cases this
      · omega
    refine ⟨fun h => (by rw [h] at hrk; cases hrk), fun i hi => ?_⟩
    have hi2 : i = ops.size - 1 := by
      have hm := hi
      rw [mem_ready] at hm
      obtain ⟨h1, o, ho, _⟩ := hm
      have hlt : i < ops.size := by
        rcases Nat.lt_or_ge i ops.size with h3 | h3
        · exact h3
        · rw [Array.getElem?_eq_none h3] at ho; cases ho
      rcases Nat.lt_or_ge i (ops.size - 1) with h | h
      · rw [hall i h] at h1; cases h1
      · omega
    subst hi2
    refine wpOpIn_mono (fun a' w' h' => ?_) hq
    have hr2 : Region.ready .any ops (listed.setIfInBounds (ops.size - 1) true) = [] := by
      rw [List.eq_nil_iff_forall_not_mem]
      intro j hj
      rw [mem_ready] at hj
      obtain ⟨h1, o, ho, _⟩ := hj
      have hlt : j < ops.size := by
        rcases Nat.lt_or_ge j ops.size with h3 | h3
        · exact h3
        · rw [Array.getElem?_eq_none h3] at ho; cases ho
      simp only [Array.getD_eq_getD_getElem?, Array.getElem?_setIfInBounds] at h1
      split at h1
      · rw [if_pos (by omega)] at h1; simp at h1
      · have := hall j (by omega)
        simp only [Array.getD_eq_getD_getElem?] at this
        rw [this] at h1; cases h1
    cases fuel with
    | zero => exact ⟨hr2, h'⟩
    | succ f => exact ⟨fun _ => h', fun i hi => by rw [hr2] at hi; cases hi⟩
  intro fuel
  induction fuel with
  | zero => intro listed a w hsz hn hdc h; exact hend 0 listed a w hsz hn h.1 h.2
  | succ fuel ih =>
    intro listed a w hsz hn hdc h
    obtain ⟨h0, h1⟩ := h
    by_cases hr : Region.ready .any ops.pop listed.pop = []
    · exact hend _ listed a w hsz hn hr (h0 hr)
    refine ⟨fun he => ?_, fun i hi => ?_⟩
    · obtain ⟨i, hi, hri⟩ := ready_some3 T hsz (ops.size - 1) (by have := T.pos; omega) hn
      rw [he] at hri; cases hri
    · have hi' := hi
      rw [mem_ready] at hi'
      obtain ⟨g1, o, ho, g2⟩ := hi'
      have hlt : i < ops.size := by
        rcases Nat.lt_or_ge i ops.size with h3 | h3
        · exact h3
        · rw [Array.getElem?_eq_none h3] at ho; cases ho
      have hin : i < ops.size - 1 := by
        rcases Nat.lt_or_ge i (ops.size - 1) with h3 | h3
        · exact h3
        · exfalso
          have h4 : i = ops.size - 1 := by omega
          subst h4
          apply hr
          rw [List.eq_nil_iff_forall_not_mem]
          intro j hj
          have hjn : j < ops.size - 1 := by
            rw [mem_ready] at hj
            obtain ⟨_, o', ho', _⟩ := hj
            rcases Nat.lt_or_ge j (ops.size - 1) with h5 | h5
            · exact h5
            · rw [Array.getElem?_eq_none (by simp; omega)] at ho'; cases ho'
          have hj2 := (ready_pop3 T hsz hjn).1 hj
          rw [mem_ready] at hj2
          have hlast := T.last j hjn
          have this : listed.getD j false = true := by
            clear hj hj2 hjn
            induction hlast with
            | one h1 h2 h3 => rw [ho] at h1; cases h1; exact g2 _ h2 h3
            | more _ h1 h2 h3 ih => exact hdc _ _ h1 ih _ h2 h3
          have h7 := hj2.1
          have h8 : j < listed.size := by omega
          simp only [Array.getD_eq_getD_getElem?, Array.getElem?_eq_getElem h8, Option.getD_some] at this h7
          rw [this] at h7; cases h7
      have hw := h1 i ((ready_pop3 T hsz hin).2 hi)
      unfold wpOpIn at hw ⊢
      rw [ops_pop3 hin] at hw
      simp only [ho] at hw ⊢
      rw [wanted_pop3 T ho] at hw
      have hpop : (listed.setIfInBounds i true).pop = listed.pop.setIfInBounds i true := by
        apply Array.ext_getElem?
        intro j
        simp only [Array.getElem?_pop, Array.getElem?_setIfInBounds, Array.size_setIfInBounds, Array.size_pop]
        split <;> split <;> simp_all <;> omega
      have hstep : ∀ a' w', wpAnyIn F n P .any ops.pop (TailQI F n P ops Q) fuel (listed.pop.setIfInBounds i true) a' w' → wpAnyIn F n P .any ops Q (fuel + 1) (listed.setIfInBounds i true) a' w' := by
        intro a' w' h'
        refine ih _ a' w' (by simpa using hsz) ?_ ?_ (by rw [hpop]; exact h')
        rotate_left
        · intro j o9 ho9 hl9 e he hb
          have mono : ∀ k, listed.getD k false = true → (listed.setIfInBounds i true).getD k false = true := by
            intro k hk
            simp only [Array.getD_eq_getD_getElem?, Array.getElem?_setIfInBounds] at hk ⊢
            split
            · split
              · rfl
              · rename_i h8 h9; subst h8; rw [Array.getElem?_eq_none (by omega)] at hk; cases hk
            · exact hk
          by_cases hji : j = i
          · subst hji
            rw [ho] at ho9
            cases ho9
            exact mono _ (g2 e he hb)
          · refine mono _ (hdc j o9 ho9 ?_ e he hb)
            simp only [Array.getD_eq_getD_getElem?, Array.getElem?_setIfInBounds] at hl9 ⊢
            rwa [if_neg (fun h => hji h.symm)] at hl9
        simp only [Array.getD_eq_getD_getElem?, Array.getElem?_setIfInBounds]
        rw [if_neg (by omega)]
        simpa only [Array.getD_eq_getD_getElem?] using hn
      split
      · rename_i hwt
        rw [if_pos hwt] at hw
        exact Oper.wpIn_mono hstep (uponIn_tail3 hw)
      · rename_i hwt
        rw [if_neg hwt] at hw
        exact ⟨hw.1, hstep _ _ hw.2⟩
theorem wpAnyIn_tail9 (hk : tailOk9 ops = true) {fuel : Nat} {a : Act} {w : World} (h : wpAnyIn F n P .any ops.pop (TailQI F n P ops Q) fuel (Array.replicate (ops.size - 1) false) a w) : wpAnyIn F n P .any ops Q (fuel + 1) (Array.replicate ops.size false) a w := by
  have T := tailOk_spec9 hk
  rw [← pop_replicate] at h
  exact wpAnyIn_of_init3 T _ (Array.replicate ops.size false) a w (by simp) (by
    have := T.pos
    rw [Array.getD_eq_getD_getElem?, Array.getElem?_replicate, if_pos (by omega)]; rfl) (fun j o _ hl9 => by
    rw [Array.getD_eq_getD_getElem?, Array.getElem?_replicate] at hl9
    split at hl9 <;> cases hl9) h
end
section
variable {P : Program} {ops : Array Oper} {Q : Exit → Act → World → Prop} {S : World → Prop}
theorem letsOut_tailI {F : Fence} {n : Nat} (h : ¬ LetsOut Q) : ¬ LetsOut (TailQI F n P ops Q) := fun h9 => h (by unfold LetsOut at *; exact h9)
/-- A region in a round: all but its last three operations in one order, these three behind, in the fence. -/
theorem wpIn_region_tail9 {l9 id : Nat} {a : Act} {w : World} (l : List (Bool × Nat)) (hnd : noDefers ops.pop.pop.pop = true) (hlo : ¬ LetsOut Q) (hm : P.follows .mixedOrders = true) (hk : tailOk9 ops = true) (hk' : tailOk9 ops.pop = true) (hk'' : tailOk9 ops.pop.pop = true) (hs : Region.noSelect ops.pop.pop.pop = true) (hl : l.length + 3 = ops.size) (hlt : (l.all fun x => decide (x.2 < ops.pop.pop.pop.size)) = true)
    (hk2 : seqOk ops.pop.pop.pop l (Array.replicate (ops.size - 3) false) = true) (hQ : ∀ c a w, ¬ Q (.panic c) a w) (hS : S w.drew)
    (h : S w.drew → wpSeqH P ops.pop.pop.pop (TailQI (Fence.wide.inRound l9) 0 P ops.pop.pop (TailQI (Fence.wide.inRound l9) 0 P ops.pop (TailQI (Fence.wide.inRound l9) 0 P ops Q))) S (pickOps ops l) a w.drew) : (Code.region id ops true).wpIn (Fence.wide.inRound l9) 0 P Q a w := by
  have hsz : ops.pop.pop.pop.size = ops.size - 3 := by simp only [Array.size_pop]; omega
  have hltA : ∀ m, ops.size - 3 ≤ m → (l.all fun x => decide (x.2 < m)) = true := fun m hm9 => by
    rw [List.all_eq_true] at hlt ⊢
    intro x hx
    have := hlt x hx
    simp only [decide_eq_true_eq] at this ⊢
    omega
  have e : pickOps ops.pop.pop.pop l = pickOps ops l := ((pickOps_pop (ops := ops.pop.pop) l hlt).trans (pickOps_pop (ops := ops.pop) l (hltA _ (by simp only [Array.size_pop]; omega)))).trans (pickOps_pop l (hltA _ (by simp only [Array.size_pop]; omega)))
  have h1 := wpAnyH_of_seq (P := P) (Q := TailQI (Fence.wide.inRound l9) 0 P ops.pop.pop (TailQI (Fence.wide.inRound l9) 0 P ops.pop (TailQI (Fence.wide.inRound l9) 0 P ops Q))) (S := S) hs (fun d v c a w h9 => (hQ c _ _ h9).elim) l _ _ _ hk2 hlt hS (by rw [e]; exact h hS)
  have h2 := wpAnyIn_of_wpAny (l := l9) hnd (letsOut_tailI (letsOut_tailI (letsOut_tailI hlo))) _ _ _ _ (wpAny_of_held _ _ _ _ h1)
  have h3 := wpAnyIn_tail9 hk'' (by rw [show ops.pop.pop.size - 1 = ops.size - 3 by simp only [Array.size_pop]; omega]; exact h2)
  rw [show ops.pop.pop.size = ops.size - 2 by simp only [Array.size_pop]; omega] at h3
  have h4 := wpAnyIn_tail9 hk' (by rw [show ops.pop.size - 1 = ops.size - 2 by simp only [Array.size_pop]; omega]; exact h3)
  rw [show ops.pop.size = ops.size - 1 by simp only [Array.size_pop]] at h4
  have h5 := wpAnyIn_tail9 hk h4
  rw [show l.length + 1 + 1 + 1 = ops.size by omega] at h5
  exact wpIn_region_any hm h5
/-- The last operation, made in the fence. -/
theorem tailI_end {F : Fence} {n : Nat} {a : Act} {w : World} {o : Oper} (ho : ops[ops.size - 1]? = some o) (hw : Region.wanted o (yielded ops a.tmps) = true) (h : Oper.wpIn F n P o a w (fun a w => Q .normal a w) Q) : TailQI F n P ops Q .normal a w := by
  show wpOpIn F n P ops Q (ops.size - 1) (fun a w => Q .normal a w) a w
  unfold wpOpIn
  rw [ho]
  simp only [hw, if_true]
  exact h
/-- The last operation, passed. -/
theorem tailI_pass {n : Nat} {l9 : Nat} {a : Act} {w : World} {o : Oper} (ho : ops[ops.size - 1]? = some o) (hw : Region.wanted o (yielded ops a.tmps) = false) (h : Q .normal (a.put o.dst undef) w) : TailQI (Fence.wide.inRound l9) n P ops Q .normal a w := by
  show wpOpIn (Fence.wide.inRound l9) n P ops Q (ops.size - 1) (fun a w => Q .normal a w) a w
  unfold wpOpIn
  rw [ho]
  simp only [hw]
  exact ⟨fun _ _ => trivial, h⟩
end
end Go.Proofs.YtlmjkbdodecbmaaGreatDoor
