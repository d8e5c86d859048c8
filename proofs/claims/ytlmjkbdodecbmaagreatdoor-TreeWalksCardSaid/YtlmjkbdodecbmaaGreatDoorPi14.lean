/-
  Pi14: MathTe MathTv StrC FldB FldC FldD FldE SeqU FldF (what is needed of them).
-/
import Derived.Test.YtlmjkbdodecbmaaGreatDoorPi06
import Derived.Test.YtlmjkbdodecbmaaGreatDoorPi11
import Derived.Test.YtlmjkbdodecbmaaGreatDoorPi13
import Derived.Deep.DeepCutAuto
import Derived.Laws.StructEq
import Derived.OwnWalk

namespace Go.Proofs.YtlmjkbdodecbmaaGreatDoor
open Go.RowKit
set_option linter.unusedVariables false
set_option linter.unusedSimpArgs false
theorem nodup_len {α : Type} [DecidableEq α] : ∀ {a b : List α}, a.Nodup → (∀ x ∈ a, x ∈ b) → a.length ≤ b.length := by
  intro a
  induction a with
  | nil => intro b _ _; exact Nat.zero_le _
  | cons x a ih =>
    intro b hn hs
    rw [List.nodup_cons] at hn
    have hx := hs x (by simp)
    have h1 := ih (b := b.erase x) hn.2 (fun y hy => (List.mem_erase_of_ne (fun e => hn.1 (by rw [← e]; exact hy))).2 (hs y (by simp [hy])))
    rw [List.length_erase_of_mem hx] at h1
    have : 0 < b.length := List.length_pos_of_mem hx
    rw [List.length_cons]; omega
theorem nodup_lt {a : List Nat} {N : Nat} (hn : a.Nodup) (h : ∀ x ∈ a, x < N) : a.length ≤ N := by
  have := nodup_len hn (b := List.range N) (fun x hx => List.mem_range.2 (h x hx))
  rwa [List.length_range] at this
/-- As many as there are: all. -/
theorem nodup_all {a : List Nat} {N : Nat} (hn : a.Nodup) (h : ∀ x ∈ a, x < N) (hl : a.length = N) (x : Nat) (hx : x < N) : x ∈ a := by
  refine Classical.byContradiction fun hxa => ?_
  have := nodup_len (a := x :: a) (b := List.range N) (List.nodup_cons.2 ⟨hxa, hn⟩) (fun y hy => by
    rcases List.mem_cons.1 hy with rfl | hy
    · exact List.mem_range.2 hx
    · exact List.mem_range.2 (h y hy))
  rw [List.length_range, List.length_cons] at this
  omega
/-- A walk: what is told, the one on top first. -/
def dfs (kf : Nat → List Nat) : Nat → List (Nat × Nat) → List (Nat × Nat)
  | 0, _ => []
  | _ + 1, [] => []
  | f + 1, x :: st => x :: dfs kf f ((kf x.1).map (fun k => (k, x.2 + 1)) ++ st)
/-- Each node but the first is the kid of one at most, once. -/
structure OnceF (kf : Nat → List Nat) (N : Nat) : Prop where
  val : ∀ x, ∀ k ∈ kf x, 1 ≤ k ∧ k < N
  nd : ∀ x, (kf x).Nodup
  dj : ∀ x y, x ≠ y → ∀ k ∈ kf x, k ∉ kf y
/-- What was told, and what stands on the heap. -/
structure WInv (kf : Nat → List Nat) (N : Nat) (vis st : List (Nat × Nat)) : Prop where
  nd : ((vis ++ st).map Prod.fst).Nodup
  lt : ∀ x ∈ vis ++ st, x.1 < N
  up : ∀ x ∈ vis ++ st, (x.1 = 0 ∧ x.2 = 1) ∨ ∃ y ∈ vis, x.2 = y.2 + 1 ∧ x.1 ∈ kf y.1
  dn : ∀ x ∈ vis, ∀ k ∈ kf x.1, (k, x.2 + 1) ∈ vis ++ st
theorem WInv.start {kf : Nat → List Nat} {N : Nat} (hN : 0 < N) : WInv kf N [] [(0, 1)] :=
  ⟨by simp, by simp; exact hN, by simp, by simp⟩
theorem WInv.len {kf : Nat → List Nat} {N : Nat} {vis st : List (Nat × Nat)} (h : WInv kf N vis st) : vis.length + st.length ≤ N := by
  have := nodup_lt h.nd (N := N) (fun x hx => by
    obtain ⟨y, hy, rfl⟩ := List.mem_map.1 hx
    exact h.lt y hy)
  simpa using this
theorem WInv.step {kf : Nat → List Nat} {N : Nat} (ho : OnceF kf N) {vis st : List (Nat × Nat)} {x : Nat × Nat} (h : WInv kf N vis (x :: st)) : WInv kf N (vis ++ [x]) ((kf x.1).map (fun k => (k, x.2 + 1)) ++ st) := by
  have hxv : ∀ y ∈ vis, y.1 ≠ x.1 := by
    intro y hy e
    have hnd := h.nd
    rw [List.map_append, List.nodup_append] at hnd
    exact hnd.2.2 y.1 (List.mem_map_of_mem hy) x.1 (by simp) e
  have hnew : ∀ k ∈ kf x.1, ∀ y ∈ vis ++ x :: st, y.1 ≠ k := by
    intro k hk y hy e
    rcases h.up y hy with ⟨h1, _⟩ | ⟨z, hz, _, h2⟩
    · have := ho.val x.1 k hk; omega
    · rw [e] at h2
      exact ho.dj z.1 x.1 (hxv z hz) k h2 hk
  refine ⟨?_, ?_, ?_, ?_⟩
  · have e : (vis ++ [x] ++ ((kf x.1).map (fun k => (k, x.2 + 1)) ++ st)).map Prod.fst = (vis.map Prod.fst ++ [x.1]) ++ (kf x.1 ++ st.map Prod.fst) := by
      simp [Function.comp_def]
    rw [e]
    have h0 := h.nd
    rw [List.map_append, List.map_cons] at h0
    have h1 : ((vis.map Prod.fst ++ [x.1]) ++ st.map Prod.fst).Nodup := by
      rw [List.append_assoc, List.singleton_append]; exact h0
    rw [List.nodup_append] at h1
    have hd : ∀ k ∈ kf x.1, k ∉ vis.map Prod.fst ++ [x.1] ∧ k ∉ st.map Prod.fst := by
      intro k hk
      constructor
      · intro hm
        rcases List.mem_append.1 hm with hm | hm
        · obtain ⟨y, hy, e⟩ := List.mem_map.1 hm
          exact hnew k hk y (by simp [hy]) e
        · rw [List.mem_singleton] at hm
          exact hnew k hk x (by simp) hm.symm
      · intro hm
        obtain ⟨y, hy, e⟩ := List.mem_map.1 hm
        exact hnew k hk y (by simp [hy]) e
    rw [List.nodup_append]
    refine ⟨h1.1, ?_, ?_⟩
    · rw [List.nodup_append]
      exact ⟨ho.nd _, h1.2.1, fun a ha b hb e => (hd a ha).2 (by rw [e]; exact hb)⟩
    · intro a ha b hb e
      rcases List.mem_append.1 hb with hb | hb
      · exact (hd b hb).1 (by rw [← e]; exact ha)
      · exact h1.2.2 a ha b hb e
  · intro y hy
    rcases List.mem_append.1 hy with hy | hy
    · rcases List.mem_append.1 hy with hy | hy
      · exact h.lt y (by simp [hy])
      · rw [List.mem_singleton] at hy; subst hy; exact h.lt y (by simp)
    · rcases List.mem_append.1 hy with hy | hy
      · obtain ⟨k, hk, rfl⟩ := List.mem_map.1 hy
        exact (ho.val _ k hk).2
      · exact h.lt y (by simp [hy])
  · intro y hy
    have old : y ∈ vis ++ x :: st → (y.1 = 0 ∧ y.2 = 1) ∨ ∃ z ∈ vis ++ [x], y.2 = z.2 + 1 ∧ y.1 ∈ kf z.1 := fun hy => by
      rcases h.up y hy with h1 | ⟨z, hz, h1⟩
      · exact .inl h1
      · exact .inr ⟨z, by simp [hz], h1⟩
    rcases List.mem_append.1 hy with hy | hy
    · rcases List.mem_append.1 hy with hy | hy
      · exact old (by simp [hy])
      · rw [List.mem_singleton] at hy; subst hy; exact old (by simp)
    · rcases List.mem_append.1 hy with hy | hy
      · obtain ⟨k, hk, rfl⟩ := List.mem_map.1 hy
        exact .inr ⟨x, by simp, rfl, hk⟩
      · exact old (by simp [hy])
  · intro y hy k hk
    rcases List.mem_append.1 hy with hy | hy
    · have := h.dn y hy k hk
      rcases List.mem_append.1 this with h1 | h1
      · simp [h1]
      · rcases List.mem_cons.1 h1 with h1 | h1
        · rw [h1]; simp
        · simp [h1]
    · rw [List.mem_singleton] at hy; subst hy
      refine List.mem_append.2 (.inr (List.mem_append.2 (.inl ?_)))
      exact List.mem_map.2 ⟨k, hk, rfl⟩
/-- A walk ends: no more rounds are needed than there are nodes. -/
theorem dfs_inv {kf : Nat → List Nat} {N : Nat} (ho : OnceF kf N) : ∀ (f : Nat) (vis st : List (Nat × Nat)), WInv kf N vis st → N < vis.length + f → WInv kf N (vis ++ dfs kf f st) [] := by
  intro f
  induction f with
  | zero => intro vis st h hf; have := h.len; omega
  | succ f ih =>
    intro vis st h hf
    cases st with
    | nil => rw [dfs]; simpa using h
    | cons x st =>
      rw [dfs]
      have := ih (vis ++ [x]) _ (h.step ho) (by simp; omega)
      simpa using this
/-- What a whole walk tells. -/
def dfsAll (kf : Nat → List Nat) (N : Nat) : List (Nat × Nat) := dfs kf (N + 1) [(0, 1)]
theorem dfsAll_inv {kf : Nat → List Nat} {N : Nat} (ho : OnceF kf N) (hN : 0 < N) : WInv kf N (dfsAll kf N) [] := by
  have := dfs_inv ho (N + 1) [] [(0, 1)] (WInv.start hN) (by simp)
  rw [List.nil_append] at this
  exact this
/-- Each that is told is told by any other order, too. -/
theorem winv_sub {kf kg : Nat → List Nat} {N : Nat} (hs : ∀ x, ∀ k ∈ kf x, k ∈ kg x) {V W : List (Nat × Nat)} (hV : WInv kf N V []) (hW : WInv kg N W []) (h0 : (0, 1) ∈ W) : ∀ (d x : Nat), (x, d) ∈ V → (x, d) ∈ W := by
  intro d
  induction d with
  | zero =>
    intro x hx
    rcases hV.up (x, 0) (by simpa using hx) with ⟨_, h2⟩ | ⟨y, hy, h2, _⟩
    · cases h2
    · exact absurd h2 (by simp)
  | succ d ih =>
    intro x hx
    rcases hV.up (x, d + 1) (by simpa using hx) with ⟨h1, h2⟩ | ⟨y, hy, h2, h3⟩
    · simp at h1 h2
      subst h1 h2
      exact h0
    · have hd : d = y.2 := by simpa using h2
      subst hd
      have := hW.dn y (ih y.1 hy) x (hs _ _ h3)
      simpa using this
theorem dfsAll_root {kf : Nat → List Nat} {N : Nat} : (0, 1) ∈ dfsAll kf N := by
  unfold dfsAll; rw [dfs]; simp
theorem fst_nd {kf : Nat → List Nat} {N : Nat} {V : List (Nat × Nat)} (hV : WInv kf N V []) : (V.map Prod.fst).Nodup := by simpa using hV.nd
/-- In whatever order kids are taken, as many nodes are reached, at the same depth. -/
theorem dfsAll_perm {kf kg : Nat → List Nat} {N : Nat} (hN : 0 < N) (hf : OnceF kf N) (hg : OnceF kg N) (h : ∀ x k, k ∈ kf x ↔ k ∈ kg x) : (dfsAll kf N).length = (dfsAll kg N).length ∧ ∀ x, x ∈ dfsAll kf N ↔ x ∈ dfsAll kg N := by
  have iV := dfsAll_inv hf hN
  have iW := dfsAll_inv hg hN
  have h1 : ∀ x, x ∈ dfsAll kf N → x ∈ dfsAll kg N := fun x hx => winv_sub (fun x k => (h x k).1) iV iW dfsAll_root x.2 x.1 hx
  have h2 : ∀ x, x ∈ dfsAll kg N → x ∈ dfsAll kf N := fun x hx => winv_sub (fun x k => (h x k).2) iW iV dfsAll_root x.2 x.1 hx
  refine ⟨Nat.le_antisymm ?_ ?_, fun x => ⟨h1 x, h2 x⟩⟩
  · have := nodup_len (fst_nd iV) (b := (dfsAll kg N).map Prod.fst) (fun x hx => by
      obtain ⟨y, hy, rfl⟩ := List.mem_map.1 hx
      exact List.mem_map_of_mem (h1 y hy))
    simpa using this
  · have := nodup_len (fst_nd iW) (b := (dfsAll kf N).map Prod.fst) (fun x hx => by
      obtain ⟨y, hy, rfl⟩ := List.mem_map.1 hx
      exact List.mem_map_of_mem (h2 y hy))
    simpa using this
/-- A node: its predicate, score, count, kids, default. -/
structure TN where
  p : PT
  sc : List UInt8
  ct : List UInt8
  kids : List Int
  df : Int
structure TR where
  nodes : List TN
  ms : Int
  nt : Int
instance : Inhabited TN := ⟨⟨default, [], [], [], 0⟩⟩
def upK (N : Nat) (i : Int) : List Int → List Int → Option (List Int)
  | [], up => some up
  | k :: ks, up => if k < 1 ∨ (N : Int) ≤ k ∨ 0 ≤ up[k.toNat]?.getD 0 then none else upK N i ks (up.set k.toNat i)
def upN (N : Nat) : Int → List TN → List Int → Option (List Int)
  | _, [], up => some up
  | i, n :: ns, up => (upK N i n.kids up).bind (upN N (i + 1) ns)
def TR.N (t : TR) : Nat := t.nodes.length
/-- Whose kid each node is; none: kids go astray. -/
def upT (t : TR) : Option (List Int) := upN t.N 0 t.nodes (List.replicate t.N (-1))
def kidsT (t : TR) (n : Nat) : List Nat := match t.nodes[n]? with | none => [] | some x => x.kids.map Int.toNat
def kidsB (t : TR) (n : Nat) : List Nat := (kidsT t n).reverse
/-- shape. -/
def shapeB (t : TR) : Bool := match upT t with | none => false | some _ => decide (0 < t.N) && decide ((dfsAll (kidsB t) t.N).length = t.N)
/-- All nodes, each with its depth. -/
def walkT (t : TR) : List (Nat × Nat) := if shapeB t = true then dfsAll (kidsT t) t.N else []
def pairsN : Int → List TN → List (Int × Int)
  | _, [] => []
  | i, n :: ns => n.kids.map (fun k => (k, i)) ++ pairsN (i + 1) ns
structure UpS (N : Nat) (ps : List (Int × Int)) (up : List Int) : Prop where
  len : up.length = N
  val : ∀ p ∈ ps, 1 ≤ p.1 ∧ p.1 < (N : Int) ∧ 0 ≤ p.2 ∧ up[p.1.toNat]? = some p.2
  nd : (ps.map Prod.fst).Nodup
  no : ∀ k, k < N → (∀ p ∈ ps, p.1.toNat ≠ k) → up[k]? = some (-1)
theorem upK_spec {N : Nat} {i : Int} (hi : 0 ≤ i) : ∀ (ks : List Int) (ps : List (Int × Int)) (up up' : List Int), UpS N ps up → upK N i ks up = some up' → UpS N (ps ++ ks.map (fun k => (k, i))) up' := by
  intro ks
  induction ks with
  | nil => intro ps up up' h e; rw [upK] at e; cases e; simpa using h
  | cons k ks ih =>
    intro ps up up' h e
    rw [upK] at e
    split at e
    · cases e
    · rename_i hc
      have h1 : 1 ≤ k := by omega
      have h2 : k < (N : Int) := by omega
      have hkl : k.toNat < up.length := by rw [h.len]; omega
      have h3 : up[k.toNat]?.getD 0 < 0 := by omega
      have hfree : ∀ p ∈ ps, p.1 ≠ k := by
        intro p hp e2
        have := (h.val p hp).2.2
        rw [e2] at this
        rw [this.2] at h3
        simp at h3
        omega
      have := ih (ps ++ [(k, i)]) (up.set k.toNat i) up' ⟨by rw [List.length_set]; exact h.len, ?_, ?_, ?_⟩ e
      · simpa using this
      · intro p hp
        rcases List.mem_append.1 hp with hp | hp
        · obtain ⟨a, b, c, d⟩ := h.val p hp
          refine ⟨a, b, c, ?_⟩
          rw [List.getElem?_set_ne (by have := hfree p hp; omega)]
          exact d
        · rw [List.mem_singleton] at hp
          subst hp
          exact ⟨h1, h2, hi, by rw [List.getElem?_set_self hkl]⟩
      · rw [List.map_append, List.nodup_append]
        refine ⟨h.nd, by simp, fun a ha b hb e3 => ?_⟩
        obtain ⟨p, hp, rfl⟩ := List.mem_map.1 ha
        simp at hb
        exact hfree p hp (by rw [e3, hb])
      · intro j hj hnone
        have hjk : k.toNat ≠ j := hnone (k, i) (by simp)
        rw [List.getElem?_set_ne hjk]
        exact h.no j hj (fun p hp => hnone p (by simp [hp]))
theorem upN_spec {N : Nat} : ∀ (ns : List TN) (i : Int) (ps : List (Int × Int)) (up up' : List Int), 0 ≤ i → UpS N ps up → upN N i ns up = some up' → UpS N (ps ++ pairsN i ns) up' := by
  intro ns
  induction ns with
  | nil => intro i ps up up' _ h e; rw [upN] at e; cases e; simpa [pairsN] using h
  | cons n ns ih =>
    intro i ps up up' hi h e
    rw [upN] at e
    cases hk : upK N i n.kids up with
    | none => rw [hk] at e; cases e
    | some u =>
      rw [hk] at e
      have := ih (i + 1) _ u up' (by omega) (upK_spec hi n.kids ps up u h hk) e
      rw [pairsN, ← List.append_assoc]
      exact this
theorem mem_pairsN : ∀ (ns : List TN) (i : Int) (p : Int × Int), p ∈ pairsN i ns ↔ ∃ (m : Nat) (n : TN), ns[m]? = some n ∧ p.2 = i + (m : Int) ∧ p.1 ∈ n.kids := by
  intro ns
  induction ns with
  | nil => intro i p; simp [pairsN]
  | cons n ns ih =>
    intro i p
    rw [pairsN, List.mem_append, ih]
    constructor
    · rintro (h | ⟨m, x, h1, h2, h3⟩)
      · obtain ⟨k, hk, rfl⟩ := List.mem_map.1 h
        exact ⟨0, n, rfl, by simp, hk⟩
      · exact ⟨m + 1, x, by simpa using h1, by rw [h2]; simp; omega, h3⟩
    · rintro ⟨m, x, h1, h2, h3⟩
      cases m with
      | zero =>
        simp at h1
        subst h1
        left
        refine List.mem_map.2 ⟨p.1, h3, ?_⟩
        rw [show i = p.2 by simpa using h2.symm]
      | succ m =>
        right
        exact ⟨m, x, by simpa using h1, by rw [h2]; simp; omega, h3⟩
theorem nodup_pairsN : ∀ (ns : List TN) (i : Int), ((pairsN i ns).map Prod.fst).Nodup → (∀ n ∈ ns, n.kids.Nodup) ∧ ∀ (x y : Nat) (n m : TN), ns[x]? = some n → ns[y]? = some m → x ≠ y → ∀ k ∈ n.kids, k ∉ m.kids := by
  intro ns
  induction ns with
  | nil => intro i _; exact ⟨by simp, fun x y n m h => by simp at h⟩
  | cons n ns ih =>
    intro i h
    rw [pairsN, List.map_append, List.nodup_append] at h
    obtain ⟨h1, h2, h3⟩ := h
    have e1 : (n.kids.map (fun k => (k, i))).map Prod.fst = n.kids := by simp [Function.comp_def]
    rw [e1] at h1 h3
    obtain ⟨i1, i2⟩ := ih (i + 1) h2
    have key : ∀ (y : Nat) (m : TN), ns[y]? = some m → ∀ k ∈ n.kids, k ∉ m.kids := fun y m hm k hk hk2 =>
      h3 k hk k (List.mem_map.2 ⟨(k, i + 1 + (y : Int)), (mem_pairsN ns (i + 1) _).2 ⟨y, m, hm, rfl, hk2⟩, rfl⟩) rfl
    refine ⟨fun x hx => ?_, fun x y a b ha hb hxy k hk => ?_⟩
    · rcases List.mem_cons.1 hx with rfl | hx
      · exact h1
      · exact i1 x hx
    · cases x with
      | zero =>
        cases y with
        | zero => omega
        | succ y =>
          simp at ha hb
          subst ha
          exact key y b hb k hk
      | succ x =>
        cases y with
        | zero =>
          simp at ha hb
          subst hb
          exact fun hk2 => key x a ha k hk2 hk
        | succ y =>
          simp at ha hb
          exact i2 x y a b ha hb (by omega) k hk
theorem upT_spec {t : TR} {up : List Int} (h : upT t = some up) : UpS t.N (pairsN 0 t.nodes) up := by
  have := upN_spec t.nodes 0 [] (List.replicate t.N (-1)) up (by omega) ⟨by simp, by simp, by simp, fun k hk _ => by rw [List.getElem?_replicate]; simp [hk]⟩ h
  simpa using this
/-- Kids that stand as they must. -/
structure OnceT (t : TR) (up : List Int) : Prop where
  val : ∀ (x : Nat) (n : TN), t.nodes[x]? = some n → ∀ k ∈ n.kids, 1 ≤ k ∧ k < (t.N : Int) ∧ up[k.toNat]? = some (x : Int)
  nd : ∀ (x : Nat) (n : TN), t.nodes[x]? = some n → n.kids.Nodup
  dj : ∀ (x y : Nat) (n m : TN), t.nodes[x]? = some n → t.nodes[y]? = some m → x ≠ y → ∀ k ∈ n.kids, k ∉ m.kids
  len : up.length = t.N
  root : 0 < t.N → up[0]? = some (-1)
theorem upT_once {t : TR} {up : List Int} (h : upT t = some up) : OnceT t up := by
  have hs := upT_spec h
  obtain ⟨h1, h2⟩ := nodup_pairsN t.nodes 0 hs.nd
  refine ⟨fun x n hn k hk => ?_, fun x n hn => h1 n (List.mem_of_getElem? hn), h2, hs.len, fun h0 => hs.no 0 h0 fun p hp => ?_⟩
  · obtain ⟨a, b, c, d⟩ := hs.val (k, (x : Int)) ((mem_pairsN _ _ _).2 ⟨x, n, hn, by simp, hk⟩)
    exact ⟨a, b, d⟩
  · have := (hs.val p hp).1
    omega
theorem mem_kidsT {t : TR} {x k : Nat} (hv : ∀ n, t.nodes[x]? = some n → ∀ j ∈ n.kids, (1 : Int) ≤ j) : k ∈ kidsT t x ↔ ∃ n, t.nodes[x]? = some n ∧ (k : Int) ∈ n.kids := by
  unfold kidsT
  cases hn : t.nodes[x]? with
  | none => simp
  | some n =>
    simp only [List.mem_map]
    constructor
    · rintro ⟨j, hj, rfl⟩
      have := hv n hn j hj
      exact ⟨n, rfl, by rwa [Int.toNat_of_nonneg (by omega)]⟩
    · rintro ⟨m, e, hm⟩
      cases e
      exact ⟨k, hm, by simp⟩
theorem OnceT.f {t : TR} {up : List Int} (h : OnceT t up) : OnceF (kidsT t) t.N := by
  have hv : ∀ (x : Nat) (n : TN), t.nodes[x]? = some n → ∀ j ∈ n.kids, (1 : Int) ≤ j := fun x n hn j hj => (h.val x n hn j hj).1
  refine ⟨fun x k hk => ?_, fun x => ?_, fun x y hxy k hk hk2 => ?_⟩
  · obtain ⟨n, hn, h1⟩ := (mem_kidsT (hv x)).1 hk
    have := h.val x n hn _ h1
    omega
  · unfold kidsT
    cases hn : t.nodes[x]? with
    | none => simp
    | some n =>
      have h1 := h.nd x n hn
      have h2 := hv x n hn
      show (n.kids.map Int.toNat).Nodup
      generalize n.kids = l at h1 h2
      induction l with
      | nil => simp
      | cons a l ih =>
        rw [List.nodup_cons] at h1
        rw [List.map_cons, List.nodup_cons]
        refine ⟨fun hm => ?_, ih h1.2 (fun j hj => h2 j (by simp [hj]))⟩
        obtain ⟨b, hb, e⟩ := List.mem_map.1 hm
        have a1 := h2 a (by simp)
        have b1 := h2 b (by simp [hb])
        have : a = b := by omega
        exact h1.1 (by rw [this]; exact hb)
  · obtain ⟨n, hn, h1⟩ := (mem_kidsT (hv x)).1 hk
    obtain ⟨m, hm, h2⟩ := (mem_kidsT (hv y)).1 hk2
    exact h.dj x y n m hn hm hxy _ h1 h2
theorem nodup_rev {α : Type} {l : List α} (h : l.Nodup) : l.reverse.Nodup := by
  induction l with
  | nil => simp
  | cons a l ih =>
    rw [List.nodup_cons] at h
    rw [List.reverse_cons, List.nodup_append]
    refine ⟨ih h.2, by simp, fun x hx y hy e => ?_⟩
    rw [List.mem_singleton] at hy
    rw [List.mem_reverse] at hx
    exact h.1 (by rw [← hy, ← e]; exact hx)
theorem OnceF.rev {kf : Nat → List Nat} {N : Nat} (h : OnceF kf N) : OnceF (fun x => (kf x).reverse) N :=
  ⟨fun x k hk => h.val x k (by simpa using hk), fun x => nodup_rev (h.nd x), fun x y hxy k hk hk2 => h.dj x y hxy k (by simpa using hk) (by simpa using hk2)⟩
/-- What shape says. -/
theorem shapeB_true {t : TR} (h : shapeB t = true) : ∃ up, upT t = some up ∧ OnceT t up ∧ 0 < t.N ∧ WInv (kidsT t) t.N (walkT t) [] ∧ (walkT t).length = t.N ∧ (0, 1) ∈ walkT t := by
  have hw : walkT t = dfsAll (kidsT t) t.N := by unfold walkT; rw [if_pos h]
  unfold shapeB at h
  cases hu : upT t with
  | none => rw [hu] at h; cases h
  | some up =>
    rw [hu] at h
    simp only [Bool.and_eq_true, decide_eq_true_eq] at h
    have ho := upT_once hu
    have hp := dfsAll_perm h.1 ho.f ho.f.rev (fun x k => by simp)
    refine ⟨up, rfl, ho, h.1, ?_, ?_, ?_⟩
    · rw [hw]; exact dfsAll_inv ho.f h.1
    · rw [hw, hp.1]; exact h.2
    · rw [hw]; exact dfsAll_root
/-- Every node is told. -/
theorem walkT_all {t : TR} (h : shapeB t = true) (x : Nat) (hx : x < t.N) : ∃ d, (x, d) ∈ walkT t := by
  obtain ⟨up, _, _, _, hi, hl, _⟩ := shapeB_true h
  have := nodup_all (fst_nd hi) (fun y hy => by
    obtain ⟨z, hz, rfl⟩ := List.mem_map.1 hy
    exact hi.lt z (by simpa using hz)) (by rw [List.length_map, hl]) x hx
  obtain ⟨z, hz, rfl⟩ := List.mem_map.1 this
  exact ⟨z.2, hz⟩
end Go.Proofs.YtlmjkbdodecbmaaGreatDoor

namespace Go.Proofs.YtlmjkbdodecbmaaGreatDoor
open Go.RowKit
set_option linter.unusedVariables false
set_option linter.unusedSimpArgs false
def kindF (fk : Int) : Int := if fk = 1 then 1 else if fk = 2 then 2 else 0
def valuesB (kd : Int) (vs : List V3) : Bool := vs.all fun v => vvalid v.k v.n v.c && (!decide (kd = 0) && decide (v.k = kd))
theorem valuesB_drop {kd : Int} {vs : List V3} {i : Nat} {v : V3} (h : vs[i]? = some v) : valuesB kd (vs.drop i) = ((vvalid v.k v.n v.c && (!decide (kd = 0) && decide (v.k = kd))) && valuesB kd (vs.drop (i + 1))) := by
  have hi : i < vs.length := (List.getElem?_eq_some_iff.1 h).1
  rw [List.drop_eq_getElem_cons hi, (List.getElem?_eq_some_iff.1 h).2]
  rfl
/-- How many values an operation takes. -/
def manyB (op : Int) (n : Nat) (fk : Int) : Bool := if op = 9 ∨ op = 10 then decide (n = 0) else if op = 11 ∨ op = 12 then decide (1 ≤ n) && decide (n ≤ 100) else if op = 5 ∨ op = 6 then decide (n = 1) else decide (n = 1) && decide (fk = 1)
def asksB (fs : List F5) (p : PT) : Bool := if p.fld < 0 ∨ (fs.length : Int) ≤ p.fld ∨ 0 < p.kids.length then false else match fs[p.fld.toNat]? with
  | none => false
  | some f => valuesB (kindF f.k) p.vals && manyB p.op p.vals.length f.k
def oneB (fs : List F5) (p : PT) : Bool := if 3 ≤ p.op ∧ p.op ≤ 12 then asksB fs p else if p.fld ≠ 0 ∨ 0 < p.vals.length then false else if p.op = 1 ∨ p.op = 2 then decide (p.kids.length = 0) else if 13 ≤ p.op ∧ p.op ≤ 16 then decide (2 ≤ p.kids.length) && decide (p.kids.length ≤ 50) else false
/-- May a predicate be? -/
def validP (fs : List F5) (p : PT) : Bool := (walkP 1 p).all fun x => decide (x.2 ≤ 40) && oneB fs x.1
def numB (s : List UInt8) : Bool := decide (s = []) || decide (qcode s = 0)
def cntB (s : List UInt8) : Bool := decide (s = []) || (decide (qcode s = 0) && !decide (qval s < 0))
/-- May a node be? -/
def nodeB (fs : List F5) (n : TN) : Bool := validP fs n.p && (numB n.sc && (cntB n.ct && (decide (n.df = -1) || decide (n.df ∈ n.kids))))
def deepT (t : TR) : Nat := (walkT t).foldl (fun m x => max m x.2) 0
/-- May a tree be? -/
def headT (t : TR) : Bool := decide (t.nodes.length ≤ 2000) && (decide (1 ≤ t.ms) && (decide (t.ms ≤ 6) && (decide (t.nt = 2) || decide (t.nt = 3))))
def validT (fs : List F5) (t : TR) : Bool := headT t && (t.nodes.all (nodeB fs) && (shapeB t && decide (deepT t ≤ 40)))
theorem nodesB_drop {fs : List F5} {ns : List TN} {i : Nat} {n : TN} (h : ns[i]? = some n) : (ns.drop i).all (nodeB fs) = (nodeB fs n && (ns.drop (i + 1)).all (nodeB fs)) := by
  have hi : i < ns.length := (List.getElem?_eq_some_iff.1 h).1
  rw [List.drop_eq_getElem_cons hi, (List.getElem?_eq_some_iff.1 h).2, List.all_cons]
end Go.Proofs.YtlmjkbdodecbmaaGreatDoor

namespace Go.Proofs.YtlmjkbdodecbmaaGreatDoor
open Go.RowKit
set_option linter.unusedVariables false
set_option linter.unusedSimpArgs false
theorem Strs.take {w : World} {ao : Option Addr} {c : Nat} {ls : List (List UInt8)} (h : Strs w (.slice ao ls.length c) ls) {k : Nat} (hk : k ≤ ls.length) : Strs w (.slice ao k c) (ls.take k) := by
  obtain ⟨ao', cap, e, h1, h2, h3⟩ := h
  cases e
  refine ⟨ao, c, by rw [List.length_take, Nat.min_eq_left hk], by rw [List.length_take]; omega, h2, ?_⟩
  rcases h3 with h3 | ⟨b, off, h4, h5, h6⟩
  · exact .inl (by rw [h3, List.take_nil])
  · refine .inr ⟨b, off, h4, h5, fun i hi => ?_⟩
    rw [List.length_take] at hi
    rw [List.getElem?_take_of_lt (by omega)]
    exact h6 i (by omega)
end Go.Proofs.YtlmjkbdodecbmaaGreatDoor

namespace Go.Proofs.YtlmjkbdodecbmaaGreatDoor
open Go.RowKit
set_option linter.unusedVariables false
set_option linter.unusedSimpArgs false
attribute [local go_sem] field_nat
theorem boxF (w : World) (nm : List UInt8) (fk : Int) (vo : Option Addr) (vl vc : Nat) (rk : Int) (rn rc : List UInt8) (inv : Int) : ∃ w0, w0 = w.alloc (.cells #[.string ⟨nm.toArray⟩, .int .i64 fk, .slice vo vl vc, .int .i64 rk, .string ⟨rn.toArray⟩, .string ⟨rc.toArray⟩, .int .i64 inv] 67) ∧ Below w.heap.size w w0 ∧ w0.heap.size = w.heap.size + 1 ∧ ∃ p, p = w.heap.size ∧ BoxL w0 p [.string ⟨nm.toArray⟩, .int .i64 fk, .slice vo vl vc, .int .i64 rk, .string ⟨rn.toArray⟩, .string ⟨rc.toArray⟩, .int .i64 inv] :=
  ⟨_, rfl, (Below.refl _ w).alloc (Nat.le_refl _) _, by simp, _, rfl, BoxL.new w [.string ⟨nm.toArray⟩, .int .i64 fk, .slice vo vl vc, .int .i64 rk, .string ⟨rn.toArray⟩, .string ⟨rc.toArray⟩, .int .i64 inv] _⟩
theorem boxV (w : World) (k : Int) (n c : List UInt8) : ∃ w0, w0 = w.alloc (.cells #[.int .i64 k, .string ⟨n.toArray⟩, .string ⟨c.toArray⟩] 65) ∧ Below w.heap.size w w0 ∧ w0.heap.size = w.heap.size + 1 ∧ ∃ p, p = w.heap.size ∧ Box3 w0 p (.int .i64 k) (.string ⟨n.toArray⟩) (.string ⟨c.toArray⟩) :=
  ⟨_, rfl, (Below.refl _ w).alloc (Nat.le_refl _) _, by simp, _, rfl, ⟨by go_simp, by go_simp, by go_simp, by go_simp, by go_simp, by go_simp⟩⟩
section
variable {fn : Func} {s : Nat} {act : Act} {w w9 : World} {b : Nat} {x y z u0 u1 u2 : Value}
end
end Go.Proofs.YtlmjkbdodecbmaaGreatDoor

namespace Go.Proofs.YtlmjkbdodecbmaaGreatDoor
open Go.RowKit
set_option linter.unusedVariables false
set_option linter.unusedSimpArgs false
attribute [local go_sem] field_nat
theorem vvalid_h (k : Int) (n c : List UInt8) (b : Bool) (w : World) (HB : Hid (vvalid k n c = b)) (hnl : Hid (n.length ≤ 1000000)) : Calls Tryz.prog 78 #[valV k n c] w fun e w' => e = .returned (.bool b) ∧ Below w.heap.size w w' :=
  vvalid_b k n c b w (Lib.hid HB.out.symm) hnl.out
end Go.Proofs.YtlmjkbdodecbmaaGreatDoor

namespace Go.Proofs.YtlmjkbdodecbmaaGreatDoor
open Go.RowKit
set_option linter.unusedVariables false
set_option linter.unusedSimpArgs false
attribute [local go_sem] field_nat
theorem cells4 (w : World) (x y z t : Nat) : Cells .i64 (w.alloc (.cells #[.int .i64 (x : Int), .int .i64 (y : Int), .int .i64 (z : Int), .int .i64 (t : Int)] 3)) (some ⟨w.heap.size, 0, none⟩) [x, y, z, t] := by
  refine .inr ⟨_, 0, rfl, by simp, fun i hi => ?_⟩
  match i, hi with
  | 0, _ => go_simp
  | 1, _ => go_simp
  | 2, _ => go_simp
  | 3, _ => go_simp
theorem room_z4 (n z : Int) (ao : Option Addr) (x y t u : Nat) (w : World) (hn : -1 ≤ n) (hn2 : n ≤ 1000000000) (hc : Cells .i64 w ao [x, y, t, u]) (hz : Hid (z = roomL n [x, y, t, u])) :
    Calls Tryz.prog 68 #[.int .i64 n, .slice ao 4 4] w fun e w' => e = .returned (.int .i64 z) ∧ Below w.heap.size w w' := room_z n z ao 4 [x, y, t, u] w hn hn2 hc (by simp) hz
theorem Strs.cellAt {w : World} {ao : Option Addr} {n c : Nat} {ls : List (List UInt8)} (h : Strs w (.slice ao n c) ls) {k : Nat} (hk : k < ls.length) : ∃ b off, ao = some ⟨b, off, none⟩ ∧ CellV w b (off + k) (.string ⟨(ls[k]?.getD []).toArray⟩) := by
  obtain ⟨ao', cap, e, h1, h2, h3⟩ := h
  cases e
  rcases h3 with h3 | ⟨b, off, h4, h5, h6⟩
  · rw [h3] at hk; simp at hk
  · exact ⟨b, off, h4, ⟨h6 k hk⟩⟩
end Go.Proofs.YtlmjkbdodecbmaaGreatDoor

namespace Go.Proofs.YtlmjkbdodecbmaaGreatDoor
open Go.RowKit
set_option linter.unusedVariables false
set_option linter.unusedSimpArgs false
attribute [local go_sem] field_nat
instance : DecidableEq V3 := fun a b => decidable_of_iff (a.k = b.k ∧ a.n = b.n ∧ a.c = b.c) ⟨fun h => by cases a; cases b; obtain ⟨h1, h2, h3⟩ := h; dsimp only at h1 h2 h3; subst h1 h2 h3; rfl, fun h => by subst h; exact ⟨rfl, rfl, rfl⟩⟩
theorem E_val : ElemK Tryz.prog 31 65 (.agg #[.int .i64 0, .string ⟨#[]⟩, .string ⟨#[]⟩]) 3 40 := elemK_of Tryz.underlying31 (by kernel_rfl) rfl (by decide)
/-- The cells of a row of values. -/
def vcells (us : List V3) : List Value := us.flatMap fun u => [.int .i64 u.k, .string ⟨u.n.toArray⟩, .string ⟨u.c.toArray⟩]
theorem vcells_len (us : List V3) : (vcells us).length = us.length * 3 := by
  induction us with
  | nil => rfl
  | cons u us ih => unfold vcells at ih ⊢; rw [List.flatMap_cons, List.length_append, ih, List.length_cons]; simp; omega
theorem vcells_get : ∀ (us : List V3) (i : Nat) (u : V3), us[i]? = some u → (vcells us)[i * 3]? = some (.int .i64 u.k) ∧ (vcells us)[i * 3 + 1]? = some (.string ⟨u.n.toArray⟩) ∧ (vcells us)[i * 3 + 2]? = some (.string ⟨u.c.toArray⟩) := by
  intro us
  induction us with
  | nil => intro i u h; simp at h
  | cons x us ih =>
    intro i u h
    have e : vcells (x :: us) = [.int .i64 x.k, .string ⟨x.n.toArray⟩, .string ⟨x.c.toArray⟩] ++ vcells us := by unfold vcells; rw [List.flatMap_cons]
    cases i with
    | zero => simp at h; subst h; rw [e]; exact ⟨rfl, rfl, rfl⟩
    | succ i =>
      simp at h
      obtain ⟨h1, h2, h3⟩ := ih i u h
      rw [e]
      refine ⟨?_, ?_, ?_⟩
      · rw [List.getElem?_append_right (by simp; omega)]; simp only [List.length_cons, List.length_nil]; rw [show (i + 1) * 3 - (0 + 1 + 1 + 1) = i * 3 by omega]; exact h1
      · rw [List.getElem?_append_right (by simp; omega)]; simp only [List.length_cons, List.length_nil]; rw [show (i + 1) * 3 + 1 - (0 + 1 + 1 + 1) = i * 3 + 1 by omega]; exact h2
      · rw [List.getElem?_append_right (by simp; omega)]; simp only [List.length_cons, List.length_nil]; rw [show (i + 1) * 3 + 2 - (0 + 1 + 1 + 1) = i * 3 + 2 by omega]; exact h3
theorem OwnsK.vals {base : Nat} {e : TypeId} {w : World} {v : Value} {n : Nat} {us : List V3} (h : OwnsK 3 base e w v n (vcells us)) : ∃ ao cap, v = .slice ao us.length cap ∧ n = us.length ∧ Vals w ao us ∧ us.length ≤ cap ∧ cap ≤ maxLen ∧ (ao = none → cap = 0) := by
  have hl := h.len
  rw [vcells_len] at hl
  have hn : n = us.length := by omega
  subst hn
  rcases h.shape with ⟨rfl, h0⟩ | ⟨g, cap, rfl, h1, h2, h3, h4, h5, _⟩
  · refine ⟨none, 0, by rw [h0], rfl, fun i u hi => ?_, by omega, Nat.zero_le _, fun _ => rfl⟩
    rw [List.eq_nil_of_length_eq_zero h0] at hi
    simp at hi
  · refine ⟨_, cap, rfl, rfl, fun i u hi => ?_, h3, h4, fun h => by cases h⟩
    have hil := (List.getElem?_eq_some_iff.1 hi).1
    obtain ⟨c0, c1, c2⟩ := vcells_get us i u hi
    refine ⟨g, 0, rfl, ⟨?_⟩, ⟨?_⟩, ⟨?_⟩⟩
    · rw [Nat.zero_add, h5 _ (by omega), c0]
    · rw [Nat.zero_add, h5 _ (by omega), c1]
    · rw [Nat.zero_add, h5 _ (by omega), c2]
theorem heap_set_ne {w : World} {b i : Nat} {u : Value} {g : Nat} (h : g ≠ b) : (w.setCell ⟨b, i, none⟩ u).heap[g]? = w.heap[g]? := by
  have hk := (Keep.refl (fun k => k = b) w).set b i u (.inl rfl)
  by_cases hg : g < w.heap.size
  · exact hk.same g hg h
  · have h1 : w.heap.size ≤ g := Nat.le_of_not_lt hg
    rw [Array.getElem?_eq_none (by simp [World.setCell]; exact h1), Array.getElem?_eq_none h1]
theorem OwnsK.set3 {K base : Nat} {e : TypeId} {w : World} {v : Value} {n p : Nat} {xs : List Value} {u0 u1 u2 : Value} (h : OwnsK K base e w v n xs) (hne : ∀ g, v.ownBlock = some g → g ≠ p) : OwnsK K base e (((w.setCell ⟨p, 0, none⟩ u0).setCell ⟨p, 1, none⟩ u1).setCell ⟨p, 2, none⟩ u2) v n xs :=
  h.block fun g hg => by rw [heap_set_ne (hne g hg), heap_set_ne (hne g hg), heap_set_ne (hne g hg)]
theorem FldAt.set3 {w : World} {b o p : Nat} {x : FV} {u0 u1 u2 : Value} (h : FldAt w b o x) (hne : b ≠ p) : FldAt (((w.setCell ⟨p, 0, none⟩ u0).setCell ⟨p, 1, none⟩ u1).setCell ⟨p, 2, none⟩ u2) b o x := by
  have hg : (((w.setCell ⟨p, 0, none⟩ u0).setCell ⟨p, 1, none⟩ u1).setCell ⟨p, 2, none⟩ u2).heap[b]? = w.heap[b]? := by rw [heap_set_ne hne, heap_set_ne hne, heap_set_ne hne]
  exact ⟨by simp [World.setCell]; exact h.lt, fun j v hj => (World.cell?_of_block (a := ⟨b, o + j, none⟩) hg).trans (h.c j v hj)⟩
end Go.Proofs.YtlmjkbdodecbmaaGreatDoor
