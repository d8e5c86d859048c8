/-
  Pj19: MathPd MathTe MathTv PrdA LogB RangeP RangeW PrdB PrdC LogC TreA TreB (what is needed of them).
-/
import Derived.Test.YtcpfanpcdkoiaaaGreatDoorPj01
import Derived.Test.YtcpfanpcdkoiaaaGreatDoorPj06
import Derived.Test.YtcpfanpcdkoiaaaGreatDoorPj07
import Derived.Test.YtcpfanpcdkoiaaaGreatDoorPj16
import Derived.Test.YtcpfanpcdkoiaaaGreatDoorPj17
import Derived.Test.YtcpfanpcdkoiaaaGreatDoorPj18
import Derived.OwnWalkIn
import Derived.Sort.LoopGhostIn
import Derived.Sort.CutIn
import Derived.WalkMore
set_option maxRecDepth 100000
set_option linter.unusedVariables false
set_option linter.unusedSimpArgs false

namespace Go.Proofs.YtcpfanpcdkoiaaaGreatDoor
open Go.RowKit


inductive PT where
 | mk (op fld : Int) (vals : List V3) (kids : List PT)
instance : Inhabited PT := ⟨.mk 0 0 [] []⟩
def PT.op : PT → Int | .mk o _ _ _ => o
def PT.fld : PT → Int | .mk _ f _ _ => f
def PT.vals : PT → List V3 | .mk _ _ v _ => v
def PT.kids : PT → List PT | .mk _ _ _ k => k
theorem PT.ind {P : PT → Prop} (h : ∀ op fld vs ks, (∀ k ∈ ks, P k) → P (.mk op fld vs ks)) (p : PT) : P p :=
 PT.rec (motive_1 := P) (motive_2 := fun ks => ∀ k ∈ ks, P k) (fun op fld vs ks ih => h op fld vs ks ih) (by simp) (fun k ks h1 h2 x hx => by
  rcases List.mem_cons.1 hx with rfl | hx
  ·exact h1
  ·exact h2 x hx) p
inductive SmP (K : Nat) : PT → Prop
 | mk {op fld : Int} {vs : List V3} {ks : List PT} (hv : vs.length ≤ K) (hk : ks.length ≤ K) (ht : ∀ v ∈ vs, v.n.length ≤ K ∧ v.c.length ≤ K) (hs : ∀ k ∈ ks, SmP K k) : SmP K (.mk op fld vs ks)
theorem SmP.out {K : Nat} {p : PT} (h : SmP K p) : p.vals.length ≤ K ∧ p.kids.length ≤ K ∧ (∀ v ∈ p.vals, v.n.length ≤ K ∧ v.c.length ≤ K) ∧ ∀ k ∈ p.kids, SmP K k := by
 cases h with
 | mk hv hk ht hs => exact ⟨hv, hk, ht, hs⟩
end Go.Proofs.YtcpfanpcdkoiaaaGreatDoor

namespace Go.Proofs.YtcpfanpcdkoiaaaGreatDoor
open Go.RowKit


theorem nodup_len {α : Type} [DecidableEq α] : ∀ {a b : List α}, a.Nodup → (∀ x ∈ a, x ∈ b) → a.length ≤ b.length := by
 intro a
 induction a with
 | nil => intro b _ _; exact Nat.zero_le _
 | cons x a ih =>
  intro b hn hs
  rw [List.nodup_cons] at hn
  have hx := hs x (by simp)
  have h1 := ih (b := b.erase x) hn.2 (fun y hy => (List.mem_erase_of_ne (fun e => hn.1 (by rw [← e]; exact hy))).2 (hs y (by simp [hy])))
  rw [List.length_erase_of_mem hx] at h1
  have : 0 < b.length := List.length_pos_of_mem hx
  rw [List.length_cons]; omega
theorem nodup_lt {a : List Nat} {N : Nat} (hn : a.Nodup) (h : ∀ x ∈ a, x < N) : a.length ≤ N := by
 have := nodup_len hn (b := List.range N) (fun x hx => List.mem_range.2 (h x hx))
 rwa [List.length_range] at this
theorem nodup_all {a : List Nat} {N : Nat} (hn : a.Nodup) (h : ∀ x ∈ a, x < N) (hl : a.length = N) (x : Nat) (hx : x < N) : x ∈ a := by
 refine Classical.byContradiction fun hxa => ?_
 have := nodup_len (a := x :: a) (b := List.range N) (List.nodup_cons.2 ⟨hxa, hn⟩) (fun y hy => by
  rcases List.mem_cons.1 hy with rfl | hy
  ·exact List.mem_range.2 hx
  ·exact List.mem_range.2 (h y hy))
 rw [List.length_range, List.length_cons] at this
 omega
def dfs (kf : Nat → List Nat) : Nat → List (Nat × Nat) → List (Nat × Nat)
 | 0, _ => []
 | _ + 1, [] => []
 | f + 1, x :: st => x :: dfs kf f ((kf x.1).map (fun k => (k, x.2 + 1)) ++ st)
structure OnceF (kf : Nat → List Nat) (N : Nat) : Prop where
 val : ∀ x, ∀ k ∈ kf x, 1 ≤ k ∧ k < N
 nd : ∀ x, (kf x).Nodup
 dj : ∀ x y, x ≠ y → ∀ k ∈ kf x, k ∉ kf y
structure WInv (kf : Nat → List Nat) (N : Nat) (vis st : List (Nat × Nat)) : Prop where
 nd : ((vis ++ st).map Prod.fst).Nodup
 lt : ∀ x ∈ vis ++ st, x.1 < N
 up : ∀ x ∈ vis ++ st, (x.1 = 0 ∧ x.2 = 1) ∨ ∃ y ∈ vis, x.2 = y.2 + 1 ∧ x.1 ∈ kf y.1
 dn : ∀ x ∈ vis, ∀ k ∈ kf x.1, (k, x.2 + 1) ∈ vis ++ st
theorem WInv.start {kf : Nat → List Nat} {N : Nat} (hN : 0 < N) : WInv kf N [] [(0, 1)] :=
 ⟨by simp, by simp; exact hN, by simp, by simp⟩
theorem WInv.len {kf : Nat → List Nat} {N : Nat} {vis st : List (Nat × Nat)} (h : WInv kf N vis st) : vis.length + st.length ≤ N := by
 have := nodup_lt h.nd (N := N) (fun x hx => by
  obtain ⟨y, hy, rfl⟩ := List.mem_map.1 hx
  exact h.lt y hy)
 simpa using this
theorem WInv.step {kf : Nat → List Nat} {N : Nat} (ho : OnceF kf N) {vis st : List (Nat × Nat)} {x : Nat × Nat} (h : WInv kf N vis (x :: st)) : WInv kf N (vis ++ [x]) ((kf x.1).map (fun k => (k, x.2 + 1)) ++ st) := by
 have hxv : ∀ y ∈ vis, y.1 ≠ x.1 := by
  intro y hy e
  have hnd := h.nd
  rw [List.map_append, List.nodup_append] at hnd
  exact hnd.2.2 y.1 (List.mem_map_of_mem hy) x.1 (by simp) e
 have hnew : ∀ k ∈ kf x.1, ∀ y ∈ vis ++ x :: st, y.1 ≠ k := by
  intro k hk y hy e
  rcases h.up y hy with ⟨h1, _⟩ | ⟨z, hz, _, h2⟩
  ·have := ho.val x.1 k hk; omega
  ·rw [e] at h2
   exact ho.dj z.1 x.1 (hxv z hz) k h2 hk
 refine ⟨?_, ?_, ?_, ?_⟩
 ·have e : (vis ++ [x] ++ ((kf x.1).map (fun k => (k, x.2 + 1)) ++ st)).map Prod.fst = (vis.map Prod.fst ++ [x.1]) ++ (kf x.1 ++ st.map Prod.fst) := by
   simp [Function.comp_def]
  rw [e]
  have h0 := h.nd
  rw [List.map_append, List.map_cons] at h0
  have h1 : ((vis.map Prod.fst ++ [x.1]) ++ st.map Prod.fst).Nodup := by
   rw [List.append_assoc, List.singleton_append]; exact h0
  rw [List.nodup_append] at h1
  have hd : ∀ k ∈ kf x.1, k ∉ vis.map Prod.fst ++ [x.1] ∧ k ∉ st.map Prod.fst := by
   intro k hk
   constructor
   ·intro hm
    rcases List.mem_append.1 hm with hm | hm
    ·obtain ⟨y, hy, e⟩ := List.mem_map.1 hm
     exact hnew k hk y (by simp [hy]) e
    ·rw [List.mem_singleton] at hm
     exact hnew k hk x (by simp) hm.symm
   ·intro hm
    obtain ⟨y, hy, e⟩ := List.mem_map.1 hm
    exact hnew k hk y (by simp [hy]) e
  rw [List.nodup_append]
  refine ⟨h1.1, ?_, ?_⟩
  ·rw [List.nodup_append]
   exact ⟨ho.nd _, h1.2.1, fun a ha b hb e => (hd a ha).2 (by rw [e]; exact hb)⟩
  ·intro a ha b hb e
   rcases List.mem_append.1 hb with hb | hb
   ·exact (hd b hb).1 (by rw [← e]; exact ha)
   ·exact h1.2.2 a ha b hb e
 ·intro y hy
  rcases List.mem_append.1 hy with hy | hy
  ·rcases List.mem_append.1 hy with hy | hy
   ·exact h.lt y (by simp [hy])
   ·rw [List.mem_singleton] at hy; subst hy; exact h.lt y (by simp)
  ·rcases List.mem_append.1 hy with hy | hy
   ·obtain ⟨k, hk, rfl⟩ := List.mem_map.1 hy
    exact (ho.val _ k hk).2
   ·exact h.lt y (by simp [hy])
 ·intro y hy
  have old : y ∈ vis ++ x :: st → (y.1 = 0 ∧ y.2 = 1) ∨ ∃ z ∈ vis ++ [x], y.2 = z.2 + 1 ∧ y.1 ∈ kf z.1 := fun hy => by
   rcases h.up y hy with h1 | ⟨z, hz, h1⟩
   ·exact .inl h1
   ·exact .inr ⟨z, by simp [hz], h1⟩
  rcases List.mem_append.1 hy with hy | hy
  ·rcases List.mem_append.1 hy with hy | hy
   ·exact old (by simp [hy])
   ·rw [List.mem_singleton] at hy; subst hy; exact old (by simp)
  ·rcases List.mem_append.1 hy with hy | hy
   ·obtain ⟨k, hk, rfl⟩ := List.mem_map.1 hy
    exact .inr ⟨x, by simp, rfl, hk⟩
   ·exact old (by simp [hy])
 ·intro y hy k hk
  rcases List.mem_append.1 hy with hy | hy
  ·have := h.dn y hy k hk
   rcases List.mem_append.1 this with h1 | h1
   ·simp [h1]
   ·rcases List.mem_cons.1 h1 with h1 | h1
    ·rw [h1]; simp
    ·simp [h1]
  ·rw [List.mem_singleton] at hy; subst hy
   refine List.mem_append.2 (.inr (List.mem_append.2 (.inl ?_)))
   exact List.mem_map.2 ⟨k, hk, rfl⟩
theorem dfs_inv {kf : Nat → List Nat} {N : Nat} (ho : OnceF kf N) : ∀ (f : Nat) (vis st : List (Nat × Nat)), WInv kf N vis st → N < vis.length + f → WInv kf N (vis ++ dfs kf f st) [] := by
 intro f
 induction f with
 | zero => intro vis st h hf; have := h.len; omega
 | succ f ih =>
  intro vis st h hf
  cases st with
  | nil => rw [dfs]; simpa using h
  | cons x st =>
   rw [dfs]
   have := ih (vis ++ [x]) _ (h.step ho) (by simp; omega)
   simpa using this
def dfsAll (kf : Nat → List Nat) (N : Nat) : List (Nat × Nat) := dfs kf (N + 1) [(0, 1)]
theorem dfsAll_inv {kf : Nat → List Nat} {N : Nat} (ho : OnceF kf N) (hN : 0 < N) : WInv kf N (dfsAll kf N) [] := by
 have := dfs_inv ho (N + 1) [] [(0, 1)] (WInv.start hN) (by simp)
 rw [List.nil_append] at this
 exact this
theorem winv_sub {kf kg : Nat → List Nat} {N : Nat} (hs : ∀ x, ∀ k ∈ kf x, k ∈ kg x) {V W : List (Nat × Nat)} (hV : WInv kf N V []) (hW : WInv kg N W []) (h0 : (0, 1) ∈ W) : ∀ (d x : Nat), (x, d) ∈ V → (x, d) ∈ W := by
 intro d
 induction d with
 | zero =>
  intro x hx
  rcases hV.up (x, 0) (by simpa using hx) with ⟨_, h2⟩ | ⟨y, hy, h2, _⟩
  ·cases h2
  ·exact absurd h2 (by simp)
 | succ d ih =>
  intro x hx
  rcases hV.up (x, d + 1) (by simpa using hx) with ⟨h1, h2⟩ | ⟨y, hy, h2, h3⟩
  ·simp at h1 h2
   subst h1 h2
   exact h0
  ·have hd : d = y.2 := by simpa using h2
   subst hd
   have := hW.dn y (ih y.1 hy) x (hs _ _ h3)
   simpa using this
theorem dfsAll_root {kf : Nat → List Nat} {N : Nat} : (0, 1) ∈ dfsAll kf N := by
 unfold dfsAll; rw [dfs]; simp
theorem fst_nd {kf : Nat → List Nat} {N : Nat} {V : List (Nat × Nat)} (hV : WInv kf N V []) : (V.map Prod.fst).Nodup := by simpa using hV.nd
theorem dfsAll_perm {kf kg : Nat → List Nat} {N : Nat} (hN : 0 < N) (hf : OnceF kf N) (hg : OnceF kg N) (h : ∀ x k, k ∈ kf x ↔ k ∈ kg x) : (dfsAll kf N).length = (dfsAll kg N).length ∧ ∀ x, x ∈ dfsAll kf N ↔ x ∈ dfsAll kg N := by
 have iV := dfsAll_inv hf hN
 have iW := dfsAll_inv hg hN
 have h1 : ∀ x, x ∈ dfsAll kf N → x ∈ dfsAll kg N := fun x hx => winv_sub (fun x k => (h x k).1) iV iW dfsAll_root x.2 x.1 hx
 have h2 : ∀ x, x ∈ dfsAll kg N → x ∈ dfsAll kf N := fun x hx => winv_sub (fun x k => (h x k).2) iW iV dfsAll_root x.2 x.1 hx
 refine ⟨Nat.le_antisymm ?_ ?_, fun x => ⟨h1 x, h2 x⟩⟩
 ·have := nodup_len (fst_nd iV) (b := (dfsAll kg N).map Prod.fst) (fun x hx => by
   obtain ⟨y, hy, rfl⟩ := List.mem_map.1 hx
   exact List.mem_map_of_mem (h1 y hy))
  simpa using this
 ·have := nodup_len (fst_nd iW) (b := (dfsAll kf N).map Prod.fst) (fun x hx => by
   obtain ⟨y, hy, rfl⟩ := List.mem_map.1 hx
   exact List.mem_map_of_mem (h2 y hy))
  simpa using this
structure TN where
 p : PT
 sc : List UInt8
 ct : List UInt8
 kids : List Int
 df : Int
structure TR where
 nodes : List TN
 ms : Int
 nt : Int
instance : Inhabited TN := ⟨⟨default, [], [], [], 0⟩⟩
def upK (N : Nat) (i : Int) : List Int → List Int → Option (List Int)
 | [], up => some up
 | k :: ks, up => if k < 1 ∨ (N : Int) ≤ k ∨ 0 ≤ up[k.toNat]?.getD 0 then none else upK N i ks (up.set k.toNat i)
def upN (N : Nat) : Int → List TN → List Int → Option (List Int)
 | _, [], up => some up
 | i, n :: ns, up => (upK N i n.kids up).bind (upN N (i + 1) ns)
def TR.N (t : TR) : Nat := t.nodes.length
def upT (t : TR) : Option (List Int) := upN t.N 0 t.nodes (List.replicate t.N (-1))
def kidsT (t : TR) (n : Nat) : List Nat := match t.nodes[n]? with | none => [] | some x => x.kids.map Int.toNat
def kidsB (t : TR) (n : Nat) : List Nat := (kidsT t n).reverse
def shapeB (t : TR) : Bool := match upT t with | none => false | some _ => decide (0 < t.N) && decide ((dfsAll (kidsB t) t.N).length = t.N)
def walkT (t : TR) : List (Nat × Nat) := if shapeB t = true then dfsAll (kidsT t) t.N else []
def pairsN : Int → List TN → List (Int × Int)
 | _, [] => []
 | i, n :: ns => n.kids.map (fun k => (k, i)) ++ pairsN (i + 1) ns
structure UpS (N : Nat) (ps : List (Int × Int)) (up : List Int) : Prop where
 len : up.length = N
 val : ∀ p ∈ ps, 1 ≤ p.1 ∧ p.1 < (N : Int) ∧ 0 ≤ p.2 ∧ up[p.1.toNat]? = some p.2
 nd : (ps.map Prod.fst).Nodup
 no : ∀ k, k < N → (∀ p ∈ ps, p.1.toNat ≠ k) → up[k]? = some (-1)
theorem upK_spec {N : Nat} {i : Int} (hi : 0 ≤ i) : ∀ (ks : List Int) (ps : List (Int × Int)) (up up' : List Int), UpS N ps up → upK N i ks up = some up' → UpS N (ps ++ ks.map (fun k => (k, i))) up' := by
 intro ks
 induction ks with
 | nil => intro ps up up' h e; rw [upK] at e; cases e; simpa using h
 | cons k ks ih =>
  intro ps up up' h e
  rw [upK] at e
  split at e
  ·cases e
  ·rename_i hc
   have h1 : 1 ≤ k := by omega
   have h2 : k < (N : Int) := by omega
   have hkl : k.toNat < up.length := by rw [h.len]; omega
   have h3 : up[k.toNat]?.getD 0 < 0 := by omega
   have hfree : ∀ p ∈ ps, p.1 ≠ k := by
    intro p hp e2
    have := (h.val p hp).2.2
    rw [e2] at this
    rw [this.2] at h3
    simp at h3
    omega
   have := ih (ps ++ [(k, i)]) (up.set k.toNat i) up' ⟨by rw [List.length_set]; exact h.len, ?_, ?_, ?_⟩ e
   ·simpa using this
   ·intro p hp
    rcases List.mem_append.1 hp with hp | hp
    ·obtain ⟨a, b, c, d⟩ := h.val p hp
     refine ⟨a, b, c, ?_⟩
     rw [List.getElem?_set_ne (by have := hfree p hp; omega)]
     exact d
    ·rw [List.mem_singleton] at hp
     subst hp
     exact ⟨h1, h2, hi, by rw [List.getElem?_set_self hkl]⟩
   ·rw [List.map_append, List.nodup_append]
    refine ⟨h.nd, by simp, fun a ha b hb e3 => ?_⟩
    obtain ⟨p, hp, rfl⟩ := List.mem_map.1 ha
    simp at hb
    exact hfree p hp (by rw [e3, hb])
   ·intro j hj hnone
    have hjk : k.toNat ≠ j := hnone (k, i) (by simp)
    rw [List.getElem?_set_ne hjk]
    exact h.no j hj (fun p hp => hnone p (by simp [hp]))
theorem upN_spec {N : Nat} : ∀ (ns : List TN) (i : Int) (ps : List (Int × Int)) (up up' : List Int), 0 ≤ i → UpS N ps up → upN N i ns up = some up' → UpS N (ps ++ pairsN i ns) up' := by
 intro ns
 induction ns with
 | nil => intro i ps up up' _ h e; rw [upN] at e; cases e; simpa [pairsN] using h
 | cons n ns ih =>
  intro i ps up up' hi h e
  rw [upN] at e
  cases hk : upK N i n.kids up with
  | none => rw [hk] at e; cases e
  | some u =>
   rw [hk] at e
   have := ih (i + 1) _ u up' (by omega) (upK_spec hi n.kids ps up u h hk) e
   rw [pairsN, ← List.append_assoc]
   exact this
theorem mem_pairsN : ∀ (ns : List TN) (i : Int) (p : Int × Int), p ∈ pairsN i ns ↔ ∃ (m : Nat) (n : TN), ns[m]? = some n ∧ p.2 = i + (m : Int) ∧ p.1 ∈ n.kids := by
 intro ns
 induction ns with
 | nil => intro i p; simp [pairsN]
 | cons n ns ih =>
  intro i p
  rw [pairsN, List.mem_append, ih]
  constructor
  ·rintro (h | ⟨m, x, h1, h2, h3⟩)
   ·obtain ⟨k, hk, rfl⟩ := List.mem_map.1 h
    exact ⟨0, n, rfl, by simp, hk⟩
   ·exact ⟨m + 1, x, by simpa using h1, by rw [h2]; simp; omega, h3⟩
  ·rintro ⟨m, x, h1, h2, h3⟩
   cases m with
   | zero =>
    simp at h1
    subst h1
    left
    refine List.mem_map.2 ⟨p.1, h3, ?_⟩
    rw [show i = p.2 by simpa using h2.symm]
   | succ m =>
    right
    exact ⟨m, x, by simpa using h1, by rw [h2]; simp; omega, h3⟩
theorem nodup_pairsN : ∀ (ns : List TN) (i : Int), ((pairsN i ns).map Prod.fst).Nodup → (∀ n ∈ ns, n.kids.Nodup) ∧ ∀ (x y : Nat) (n m : TN), ns[x]? = some n → ns[y]? = some m → x ≠ y → ∀ k ∈ n.kids, k ∉ m.kids := by
 intro ns
 induction ns with
 | nil => intro i _; exact ⟨by simp, fun x y n m h => by simp at h⟩
 | cons n ns ih =>
  intro i h
  rw [pairsN, List.map_append, List.nodup_append] at h
  obtain ⟨h1, h2, h3⟩ := h
  have e1 : (n.kids.map (fun k => (k, i))).map Prod.fst = n.kids := by simp [Function.comp_def]
  rw [e1] at h1 h3
  obtain ⟨i1, i2⟩ := ih (i + 1) h2
  have key : ∀ (y : Nat) (m : TN), ns[y]? = some m → ∀ k ∈ n.kids, k ∉ m.kids := fun y m hm k hk hk2 =>
   h3 k hk k (List.mem_map.2 ⟨(k, i + 1 + (y : Int)), (mem_pairsN ns (i + 1) _).2 ⟨y, m, hm, rfl, hk2⟩, rfl⟩) rfl
  refine ⟨fun x hx => ?_, fun x y a b ha hb hxy k hk => ?_⟩
  ·rcases List.mem_cons.1 hx with rfl | hx
   ·exact h1
   ·exact i1 x hx
  ·cases x with
   | zero =>
    cases y with
    | zero => omega
    | succ y =>
     simp at ha hb
     subst ha
     exact key y b hb k hk
   | succ x =>
    cases y with
    | zero =>
     simp at ha hb
     subst hb
     exact fun hk2 => key x a ha k hk2 hk
    | succ y =>
     simp at ha hb
     exact i2 x y a b ha hb (by omega) k hk
theorem upT_spec {t : TR} {up : List Int} (h : upT t = some up) : UpS t.N (pairsN 0 t.nodes) up := by
 have := upN_spec t.nodes 0 [] (List.replicate t.N (-1)) up (by omega) ⟨by simp, by simp, by simp, fun k hk _ => by rw [List.getElem?_replicate]; simp [hk]⟩ h
 simpa using this
structure OnceT (t : TR) (up : List Int) : Prop where
 val : ∀ (x : Nat) (n : TN), t.nodes[x]? = some n → ∀ k ∈ n.kids, 1 ≤ k ∧ k < (t.N : Int) ∧ up[k.toNat]? = some (x : Int)
 nd : ∀ (x : Nat) (n : TN), t.nodes[x]? = some n → n.kids.Nodup
 dj : ∀ (x y : Nat) (n m : TN), t.nodes[x]? = some n → t.nodes[y]? = some m → x ≠ y → ∀ k ∈ n.kids, k ∉ m.kids
 len : up.length = t.N
 root : 0 < t.N → up[0]? = some (-1)
theorem upT_once {t : TR} {up : List Int} (h : upT t = some up) : OnceT t up := by
 have hs := upT_spec h
 obtain ⟨h1, h2⟩ := nodup_pairsN t.nodes 0 hs.nd
 refine ⟨fun x n hn k hk => ?_, fun x n hn => h1 n (List.mem_of_getElem? hn), h2, hs.len, fun h0 => hs.no 0 h0 fun p hp => ?_⟩
 ·obtain ⟨a, b, c, d⟩ := hs.val (k, (x : Int)) ((mem_pairsN _ _ _).2 ⟨x, n, hn, by simp, hk⟩)
  exact ⟨a, b, d⟩
 ·have := (hs.val p hp).1
  omega
theorem mem_kidsT {t : TR} {x k : Nat} (hv : ∀ n, t.nodes[x]? = some n → ∀ j ∈ n.kids, (1 : Int) ≤ j) : k ∈ kidsT t x ↔ ∃ n, t.nodes[x]? = some n ∧ (k : Int) ∈ n.kids := by
 unfold kidsT
 cases hn : t.nodes[x]? with
 | none => simp
 | some n =>
  simp only [List.mem_map]
  constructor
  ·rintro ⟨j, hj, rfl⟩
   have := hv n hn j hj
   exact ⟨n, rfl, by rwa [Int.toNat_of_nonneg (by omega)]⟩
  ·rintro ⟨m, e, hm⟩
   cases e
   exact ⟨k, hm, by simp⟩
theorem OnceT.f {t : TR} {up : List Int} (h : OnceT t up) : OnceF (kidsT t) t.N := by
 have hv : ∀ (x : Nat) (n : TN), t.nodes[x]? = some n → ∀ j ∈ n.kids, (1 : Int) ≤ j := fun x n hn j hj => (h.val x n hn j hj).1
 refine ⟨fun x k hk => ?_, fun x => ?_, fun x y hxy k hk hk2 => ?_⟩
 ·obtain ⟨n, hn, h1⟩ := (mem_kidsT (hv x)).1 hk
  have := h.val x n hn _ h1
  omega
 ·unfold kidsT
  cases hn : t.nodes[x]? with
  | none => simp
  | some n =>
   have h1 := h.nd x n hn
   have h2 := hv x n hn
   show (n.kids.map Int.toNat).Nodup
   generalize n.kids = l at h1 h2
   induction l with
   | nil => simp
   | cons a l ih =>
    rw [List.nodup_cons] at h1
    rw [List.map_cons, List.nodup_cons]
    refine ⟨fun hm => ?_, ih h1.2 (fun j hj => h2 j (by simp [hj]))⟩
    obtain ⟨b, hb, e⟩ := List.mem_map.1 hm
    have a1 := h2 a (by simp)
    have b1 := h2 b (by simp [hb])
    have : a = b := by omega
    exact h1.1 (by rw [this]; exact hb)
 ·obtain ⟨n, hn, h1⟩ := (mem_kidsT (hv x)).1 hk
  obtain ⟨m, hm, h2⟩ := (mem_kidsT (hv y)).1 hk2
  exact h.dj x y n m hn hm hxy _ h1 h2
theorem nodup_rev {α : Type} {l : List α} (h : l.Nodup) : l.reverse.Nodup := by
 induction l with
 | nil => simp
 | cons a l ih =>
  rw [List.nodup_cons] at h
  rw [List.reverse_cons, List.nodup_append]
  refine ⟨ih h.2, by simp, fun x hx y hy e => ?_⟩
  rw [List.mem_singleton] at hy
  rw [List.mem_reverse] at hx
  exact h.1 (by rw [← hy, ← e]; exact hx)
theorem OnceF.rev {kf : Nat → List Nat} {N : Nat} (h : OnceF kf N) : OnceF (fun x => (kf x).reverse) N :=
 ⟨fun x k hk => h.val x k (by simpa using hk), fun x => nodup_rev (h.nd x), fun x y hxy k hk hk2 => h.dj x y hxy k (by simpa using hk) (by simpa using hk2)⟩
theorem shapeB_true {t : TR} (h : shapeB t = true) : ∃ up, upT t = some up ∧ OnceT t up ∧ 0 < t.N ∧ WInv (kidsT t) t.N (walkT t) [] ∧ (walkT t).length = t.N ∧ (0, 1) ∈ walkT t := by
 have hw : walkT t = dfsAll (kidsT t) t.N := by unfold walkT; rw [if_pos h]
 unfold shapeB at h
 cases hu : upT t with
 | none => rw [hu] at h; cases h
 | some up =>
  rw [hu] at h
  simp only [Bool.and_eq_true, decide_eq_true_eq] at h
  have ho := upT_once hu
  have hp := dfsAll_perm h.1 ho.f ho.f.rev (fun x k => by simp)
  refine ⟨up, rfl, ho, h.1, ?_, ?_, ?_⟩
  ·rw [hw]; exact dfsAll_inv ho.f h.1
  ·rw [hw, hp.1]; exact h.2
  ·rw [hw]; exact dfsAll_root
theorem walkT_all {t : TR} (h : shapeB t = true) (x : Nat) (hx : x < t.N) : ∃ d, (x, d) ∈ walkT t := by
 obtain ⟨up, _, _, _, hi, hl, _⟩ := shapeB_true h
 have := nodup_all (fst_nd hi) (fun y hy => by
  obtain ⟨z, hz, rfl⟩ := List.mem_map.1 hy
  exact hi.lt z (by simpa using hz)) (by rw [List.length_map, hl]) x hx
 obtain ⟨z, hz, rfl⟩ := List.mem_map.1 this
 exact ⟨z.2, hz⟩
end Go.Proofs.YtcpfanpcdkoiaaaGreatDoor

namespace Go.Proofs.YtcpfanpcdkoiaaaGreatDoor
open Go.RowKit


attribute [local go_sem] field_nat
def Low (B : Nat) (w w' : World) : Prop := ∀ k, k < B → w'.heap[k]? = w.heap[k]?
theorem Low.refl (B : Nat) (w : World) : Low B w w := fun _ _ => rfl
theorem Low.trans {B : Nat} {a b c : World} (h : Low B a b) (h' : Low B b c) : Low B a c := fun k hk => (h' k hk).trans (h k hk)
theorem Low.of_below {B D : Nat} {w w' : World} (h : Below D w w') (hB : B ≤ D) : Low B w w' := fun k hk => h.block k (by omega)
theorem Low.mono {B B' : Nat} {w w' : World} (h : Low B w w') (hB : B' ≤ B) : Low B' w w' := fun k hk => h k (by omega)
theorem Low.cell {B : Nat} {w w' : World} (h : Low B w w') {b i : Nat} (hb : b < B) : w'.cell? ⟨b, i, none⟩ = w.cell? ⟨b, i, none⟩ := World.cell?_of_block (a := ⟨b, i, none⟩) (h b hb)
structure ValsB (B : Nat) (w : World) (vo : Option Addr) (vc : Nat) (vs : List V3) : Prop where
 v : Vals w vo vs
 cap : vs.length ≤ vc ∧ vc ≤ maxLen
 len : ∀ v ∈ vs, v.n.length ≤ 9223372036854775807 ∧ v.c.length ≤ 9223372036854775807
 lo : vs ≠ [] → ∃ b off, vo = some ⟨b, off, none⟩ ∧ b < B
 no : vo = none → vc = 0
theorem ValsB.low {B : Nat} {w w' : World} {vo : Option Addr} {vc : Nat} {vs : List V3} (h : ValsB B w vo vc vs) (hl : Low B w w') : ValsB B w' vo vc vs := by
 refine ⟨fun i v hi => ?_, h.cap, h.len, h.lo, h.no⟩
 obtain ⟨b, off, e, c0, c1, c2⟩ := h.v i v hi
 obtain ⟨b2, off2, e2, hb⟩ := h.lo (fun e => by rw [e] at hi; simp at hi)
 rw [e] at e2
 cases e2
 exact ⟨b, off, e, ⟨(hl.cell hb).trans c0.cell⟩, ⟨(hl.cell hb).trans c1.cell⟩, ⟨(hl.cell hb).trans c2.cell⟩⟩
theorem ValsB.mono {B B' : Nat} {w : World} {vo : Option Addr} {vc : Nat} {vs : List V3} (h : ValsB B w vo vc vs) (hB : B ≤ B') : ValsB B' w vo vc vs :=
 ⟨h.v, h.cap, h.len, fun hn => by obtain ⟨b, off, e, hb⟩ := h.lo hn; exact ⟨b, off, e, by omega⟩, h.no⟩
abbrev pcs (op fld : Int) (vo : Option Addr) (vl vc : Nat) (ko : Option Addr) (kl kc : Nat) : List Value := [.int .i64 op, .int .i64 fld, .slice vo vl vc, .slice ko kl kc]
inductive PIs (B : Nat) (w : World) : PT → List Value → Prop
 | mk {op fld : Int} {vs : List V3} {ks : List PT} {vo : Option Addr} {vc : Nat} {ko : Option Addr} {kc : Nat} (cf : Nat → List Value) (hv : ValsB B w vo vc vs) (hkc : ks.length ≤ kc ∧ kc ≤ maxLen) (hno : ko = none → kc = 0)
   (ha : ks = [] ∨ ∃ b off, ko = some ⟨b, off, none⟩ ∧ b < B ∧ ∀ i, i < ks.length → ∀ j c, (cf i)[j]? = some c → w.cell? ⟨b, off + i * 4 + j, none⟩ = some c)
   (hk : ∀ i k, ks[i]? = some k → PIs B w k (cf i)) : PIs B w (.mk op fld vs ks) (pcs op fld vo vs.length vc ko ks.length kc)
theorem PIs.low {B : Nat} {w w' : World} (hl : Low B w w') {p : PT} {cs : List Value} (h : PIs B w p cs) : PIs B w' p cs := by
 induction h with
 | mk cf hv hkc hno ha hk ih =>
  refine .mk cf (hv.low hl) hkc hno ?_ ih
  rcases ha with ha | ⟨b, off, h1, h2, h3⟩
  ·exact .inl ha
  ·exact .inr ⟨b, off, h1, h2, fun i hi j c hj => (hl.cell h2).trans (h3 i hi j c hj)⟩
theorem PIs.mono {B B' : Nat} {w : World} (hB : B ≤ B') {p : PT} {cs : List Value} (h : PIs B w p cs) : PIs B' w p cs := by
 induction h with
 | mk cf hv hkc hno ha hk ih =>
  refine .mk cf (hv.mono hB) hkc hno ?_ ih
  rcases ha with ha | ⟨b, off, h1, h2, h3⟩
  ·exact .inl ha
  ·exact .inr ⟨b, off, h1, by omega, h3⟩
structure At4 (w : World) (b o : Nat) (x0 x1 x2 x3 : Value) : Prop where
 c0 : w.cell? ⟨b, o, none⟩ = some x0
 c1 : w.cell? ⟨b, o + 1, none⟩ = some x1
 c2 : w.cell? ⟨b, o + 2, none⟩ = some x2
 c3 : w.cell? ⟨b, o + 3, none⟩ = some x3
theorem At4.drew {w : World} {b o : Nat} {x0 x1 x2 x3 : Value} (h : At4 w b o x0 x1 x2 x3) : At4 w.drew b o x0 x1 x2 x3 := ⟨h.c0, h.c1, h.c2, h.c3⟩
theorem At4.kept {w w' : World} {b o : Nat} {x0 x1 x2 x3 : Value} (h : At4 w b o x0 x1 x2 x3) (hb : Below w.heap.size w w') : At4 w' b o x0 x1 x2 x3 := by
 have hlt : b < w.heap.size := World.block_lt_of_cell? w ⟨b, o, none⟩ h.c0
 exact ⟨(hb.cell (p := ⟨b, o, none⟩) hlt).trans h.c0, (hb.cell (p := ⟨b, o + 1, none⟩) hlt).trans h.c1, (hb.cell (p := ⟨b, o + 2, none⟩) hlt).trans h.c2, (hb.cell (p := ⟨b, o + 3, none⟩) hlt).trans h.c3⟩
theorem At4.low {B : Nat} {w w' : World} {b o : Nat} {x0 x1 x2 x3 : Value} (h : At4 w b o x0 x1 x2 x3) (hl : Low B w w') (hb : b < B) : At4 w' b o x0 x1 x2 x3 :=
 ⟨(hl.cell hb).trans h.c0, (hl.cell hb).trans h.c1, (hl.cell hb).trans h.c2, (hl.cell hb).trans h.c3⟩
def PtIs (B : Nat) (w : World) (p : PT) (vo : Option Addr) (vc : Nat) (ko : Option Addr) (kc : Nat) : Prop := PIs B w p (pcs p.op p.fld vo p.vals.length vc ko p.kids.length kc)
theorem PIs.form {B : Nat} {w : World} {p : PT} {cs : List Value} (h : PIs B w p cs) : ∃ vo vc ko kc, cs = pcs p.op p.fld vo p.vals.length vc ko p.kids.length kc ∧ PtIs B w p vo vc ko kc := by
 have h0 := h
 cases h with
 | mk cf hv hkc hno ha hk => exact ⟨_, _, _, _, rfl, h0⟩
theorem PtIs.low {B : Nat} {w w' : World} {p : PT} {vo : Option Addr} {vc : Nat} {ko : Option Addr} {kc : Nat} (h : PtIs B w p vo vc ko kc) (hl : Low B w w') : PtIs B w' p vo vc ko kc := PIs.low hl h
theorem PtIs.mono {B B' : Nat} {w : World} {p : PT} {vo : Option Addr} {vc : Nat} {ko : Option Addr} {kc : Nat} (h : PtIs B w p vo vc ko kc) (hB : B ≤ B') : PtIs B' w p vo vc ko kc := PIs.mono hB h
theorem PtIs.vals {B : Nat} {w : World} {p : PT} {vo : Option Addr} {vc : Nat} {ko : Option Addr} {kc : Nat} (h : PtIs B w p vo vc ko kc) : ValsB B w vo vc p.vals := by
 unfold PtIs pcs at h
 cases p with
 | mk op fld vs ks =>
  cases h with
  | mk cf hv hkc hno ha hk => exact hv
end Go.Proofs.YtcpfanpcdkoiaaaGreatDoor

namespace Go.Proofs.YtcpfanpcdkoiaaaGreatDoor
open Go.RowKit


def IterA {α : Type} (P : Program) (gf : Nat) (lb : Array Value) (Enc : World → Array Value → α → Prop) (xs : List α) (B : Nat) (Kp : World → World → Prop) (w : World) : Prop :=
 ∀ (l : Nat) (J Jx : List α → (Nat → Prop) → World → Prop) (S0 : Nat → Prop) (W1 : World), Below w.heap.size w W1 → (∀ k, S0 k → B ≤ k ∧ k < W1.heap.size) →
  (∀ pre S W W', J pre S W → Below W.heap.size W W' → J pre S W') → (∀ pre S W W', Jx pre S W → Below W.heap.size W W' → Jx pre S W') →
  (∀ pre x v S W, J pre S W → Enc W v x → pre ++ [x] <+: xs → YieldAt Fence.wide 0 P l v W fun e W' =>
   (e = .returned (.bool true) ∧ ∃ S', J (pre ++ [x]) S' W' ∧ Foot S S' W W' ∧ Top S' W' ∧ Kp W W') ∨ (e = .returned (.bool false) ∧ ∃ S', Jx (pre ++ [x]) S' W' ∧ Foot S S' W W')) →
  J [] S0 W1 →
  CallsIn Fence.wide 0 P gf (IterArgs l lb) W1 fun e W' => (∃ v, e = .returned v) ∧ ((∃ S', J xs S' W' ∧ Foot S0 S' W1 W') ∨ (∃ pre S', pre <+: xs ∧ Jx pre S' W' ∧ Foot S0 S' W1 W'))
theorem IterA.mono {α : Type} {P : Program} {gf : Nat} {lb : Array Value} {Enc : World → Array Value → α → Prop} {xs : List α} {B : Nat} {Kp : World → World → Prop} {w w' : World} (h : IterA P gf lb Enc xs B Kp w) (hb : Below w.heap.size w w') :
  IterA P gf lb Enc xs B Kp w' := fun l J Jx S0 W1 hW1 => h l J Jx S0 W1 (hb.trans (hW1.mono hb.size))
theorem Ext.blockP {B : Nat} {A C : World} (h : Ext B A C) {p : Addr} {v : Value} (hp : A.cell? p = some v) : C.heap[p.block]? = A.heap[p.block]? := by
 unfold World.cell? at hp
 split at hp
 ·rename_i hb
  rw [hb]; exact h.cells _ _ hb rfl
 ·cases hp
theorem Ext.cellP {B : Nat} {A C : World} (h : Ext B A C) {p : Addr} {v : Value} (hp : A.cell? p = some v) : C.cell? p = some v :=
 (World.cell?_of_block (h.blockP hp)).trans hp
def KeepC (bx : Nat) (A C : World) : Prop := ∀ v, A.cell? ⟨bx, 0, none⟩ = some v → C.cell? ⟨bx, 0, none⟩ = some v
theorem KeepC.trans {bx : Nat} {A C D : World} (h : KeepC bx A C) (h' : KeepC bx C D) : KeepC bx A D := fun v hv => h' v (h v hv)
theorem KeepC.ext {bx B : Nat} {A C : World} (h : Ext B A C) : KeepC bx A C := fun v hv => h.cellP hv
end Go.Proofs.YtcpfanpcdkoiaaaGreatDoor

namespace Go.Proofs.YtcpfanpcdkoiaaaGreatDoor
open Go.RowKit


structure Oth (D : Nat) (S : Nat → Prop) (W W' : World) : Prop where
 os : W'.os = W.os
 tape : W'.tape = W.tape
 output : W'.output = W.output
 size : W.heap.size ≤ W'.heap.size
 same : ∀ k, k < W.heap.size → (k < D ∨ S k) → W'.heap[k]? = W.heap[k]?
theorem Oth.refl (D : Nat) (S : Nat → Prop) (W : World) : Oth D S W W := ⟨rfl, rfl, rfl, Nat.le_refl _, fun _ _ _ => rfl⟩
theorem Oth.of_below {D : Nat} {S : Nat → Prop} {W W' : World} (h : Below W.heap.size W W') : Oth D S W W' := ⟨h.os, h.tape, h.output, h.size, fun k hk _ => h.block k hk⟩
theorem Oth.trans {D : Nat} {S : Nat → Prop} {A B C : World} (h : Oth D S A B) (h' : Oth D S B C) : Oth D S A C :=
 ⟨h'.os.trans h.os, h'.tape.trans h.tape, h'.output.trans h.output, Nat.le_trans h.size h'.size, fun k hk hs => (h'.same k (Nat.lt_of_lt_of_le hk h.size) hs).trans (h.same k hk hs)⟩
theorem Oth.mono {D D' : Nat} {S S' : Nat → Prop} {W W' : World} (h : Oth D S W W') (hD : D' ≤ D) (hS : ∀ k, S' k → S k) : Oth D' S' W W' :=
 ⟨h.os, h.tape, h.output, h.size, fun k hk hs => h.same k hk (hs.imp (fun h => Nat.lt_of_lt_of_le h hD) (hS k))⟩
theorem Oth.put {D l : Nat} {S : Nat → Prop} {W : World} (o : Obj) (hl : D ≤ l) (hs : ¬ S l) : Oth D S W (W.putObj l o) :=
 ⟨rfl, rfl, rfl, by simp, fun k hk h => World.putObj_heap_other (fun e => by subst e; rcases h with h | h; omega; exact hs h)⟩
theorem Oth.set {D b i : Nat} {S : Nat → Prop} {W W' : World} (u : Value) (h : Oth D S W W') (hb : D ≤ b) (hs : ¬ S b) : Oth D S W (W'.setCell ⟨b, i, none⟩ u) := by
 have hk := (Keep.refl (fun k => k = b) W').set b i u (.inl rfl)
 refine h.trans ⟨hk.os, hk.tape, hk.output, hk.size, fun k hk9 h9 => hk.same k hk9 (fun e => ?_)⟩
 have e2 : k = b := e
 subst e2
 rcases h9 with h9 | h9
 ·omega
 ·exact hs h9
theorem Oth.grown {D : Nat} {S : Nat → Prop} {W W' : World} {g : Option Nat} (h : W.grownBy W' g) (hg : ∀ k, g = some k → D ≤ k ∧ ¬ S k) : Oth D S W W' :=
 ⟨h.os, h.tape, h.output, h.size, fun k hk h9 => h.block k hk (fun e => by
  have := hg k e.symm
  rcases h9 with h9 | h9
  ·omega
  ·exact this.2 h9)⟩
def IterW {α : Type} (P : Program) (gf : Nat) (lb : Array Value) (Enc : World → Array Value → α → Prop) (xs : List α) (R : Nat → Prop) (w : World) : Prop :=
 ∀ (l : Nat) (J Jx : List α → (Nat → Prop) → World → Prop) (S0 : Nat → Prop) (W1 : World), Below w.heap.size w W1 → (∀ k, S0 k → ¬ R k ∧ k < W1.heap.size) →
  (∀ pre S W W', J pre S W → Oth W1.heap.size S W W' → J pre S W') → (∀ pre S W W', Jx pre S W → Oth W1.heap.size S W W' → Jx pre S W') →
  (∀ pre x v S W, J pre S W → Enc W v x → pre ++ [x] <+: xs → YieldAt Fence.wide 0 P l v W fun e W' =>
   (e = .returned (.bool true) ∧ ∃ S', J (pre ++ [x]) S' W' ∧ Foot S S' W W' ∧ Top S' W') ∨ (e = .returned (.bool false) ∧ ∃ S', Jx (pre ++ [x]) S' W' ∧ Foot S S' W W')) →
  J [] S0 W1 →
  CallsIn Fence.wide 0 P gf (IterArgs l lb) W1 fun e W' => (∃ v, e = .returned v) ∧ ((∃ S', J xs S' W' ∧ Foot S0 S' W1 W') ∨ (∃ pre S', pre <+: xs ∧ Jx pre S' W' ∧ Foot S0 S' W1 W'))
theorem IterW.mono {α : Type} {P : Program} {gf : Nat} {lb : Array Value} {Enc : World → Array Value → α → Prop} {xs : List α} {R : Nat → Prop} {w w' : World} (h : IterW P gf lb Enc xs R w) (hb : Below w.heap.size w w') :
  IterW P gf lb Enc xs R w' := fun l J Jx S0 W1 hW1 => h l J Jx S0 W1 (hb.trans (hW1.mono hb.size))
end Go.Proofs.YtcpfanpcdkoiaaaGreatDoor

namespace Go.Proofs.YtcpfanpcdkoiaaaGreatDoor
open Go.RowKit Go.Shelf


attribute [local go_sem] Oper.semAt_some field_nat
def KeepQ (P : Nat → Prop) (A C : World) : Prop := ∀ k, P k → k < A.heap.size → C.heap[k]? = A.heap[k]?
theorem KeepQ.trans {P : Nat → Prop} {A C D : World} (h : KeepQ P A C) (h' : KeepQ P C D) : KeepQ P A D := fun k hk hlt => by
 have e := h k hk hlt
 have hlt2 : k < C.heap.size := by
  rcases Nat.lt_or_ge k C.heap.size with h9 | h9
  ·exact h9
  ·rw [Array.getElem?_eq_none h9, Array.getElem?_eq_getElem hlt] at e; cases e
 exact (h' k hk hlt2).trans e
theorem KeepQ.ext {P : Nat → Prop} {B : Nat} {A C : World} (hP : ∀ k, P k → k < B) (h : Ext B A C) : KeepQ P A C := fun k hk hlt => h.low k (hP k hk) hlt
def Marks (D0 : Nat) (S : Nat → Prop) (W : World) (ds : List Deferred) : Prop := ∃ l : List Nat, ds = l.map (fun D => { target := .collected D, args := #[] }) ∧ l.Nodup ∧ ∀ D ∈ l, D0 ≤ D ∧ ¬ S D ∧ W.heap[D]? = some (.deferred (some []))
theorem Marks.nil (D0 : Nat) (S : Nat → Prop) (W : World) : Marks D0 S W [] := ⟨[], rfl, by simp, by simp⟩
theorem Marks.cons {D0 D : Nat} {S : Nat → Prop} {W : World} {ds : List Deferred} (h : Marks D0 S W ds) (hD : D0 ≤ D) (hS : ¬ S D) (hd : W.heap[D]? = some (.deferred (some []))) (hn : ∀ l : List Nat, ds = l.map (fun D => { target := .collected D, args := #[] }) → D ∉ l) : Marks D0 S W ({ target := .collected D, args := #[] } :: ds) := by
 obtain ⟨l, rfl, h1, h2⟩ := h
 refine ⟨D :: l, rfl, List.nodup_cons.2 ⟨hn l rfl, h1⟩, fun k hk => ?_⟩
 rcases List.mem_cons.1 hk with rfl | hk
 ·exact ⟨hD, hS, hd⟩
 ·exact h2 k hk
theorem Marks.keep {D0 : Nat} {S S' : Nat → Prop} {W W' : World} {ds : List Deferred} (h : Marks D0 S W ds) (hs : ∀ k, k < W.heap.size → S' k → S k) (hk : ∀ k, W.heap[k]? = some (.deferred (some [])) → D0 ≤ k → ¬ S k → W'.heap[k]? = W.heap[k]?) : Marks D0 S' W' ds := by
 obtain ⟨l, rfl, h1, h2⟩ := h
 refine ⟨l, rfl, h1, fun D hD => ?_⟩
 obtain ⟨a, b, c⟩ := h2 D hD
 exact ⟨a, fun h => b (hs D (Array.getElem?_eq_some_iff.1 c).1 h), (hk D c a b).trans c⟩
theorem Marks.out {D0 : Nat} {S : Nat → Prop} {W : World} {ds : List Deferred} (h : Marks D0 S W ds) {D : Nat} (hD : W.heap.size ≤ D) : ∀ l : List Nat, ds = l.map (fun D => { target := .collected D, args := #[] }) → D ∉ l := by
 obtain ⟨l, rfl, h1, h2⟩ := h
 intro l' e hm
 have e2 : l = l' := by
  have := congrArg (List.map (fun d : Deferred => match d.target with | .collected D => D | _ => 0)) e
  simpa [List.map_map, Function.comp_def] using this
 subst e2
 have := (Array.getElem?_eq_some_iff.1 (h2 D hm).2.2).1
 omega
end Go.Proofs.YtcpfanpcdkoiaaaGreatDoor

namespace Go.Proofs.YtcpfanpcdkoiaaaGreatDoor
open Go.RowKit Go.Shelf


attribute [local go_sem] Oper.semAt_some field_nat
abbrev plc (x : PT × Nat) (vo : Option Addr) (vc : Nat) (ko : Option Addr) (kc : Nat) : List Value := [.int .i64 x.1.op, .int .i64 x.1.fld, .slice vo x.1.vals.length vc, .slice ko x.1.kids.length kc, .int .i64 (x.2 : Int)]
def StkC (B : Nat) (w : World) : List (PT × Nat) → List Value → Prop
 | [], xs => xs = []
 | x :: st, xs => ∃ (vo : Option Addr) (vc : Nat) (ko : Option Addr) (kc : Nat) (r : List Value), PtIs B w x.1 vo vc ko kc ∧ StkC B w st r ∧ xs = plc x vo vc ko kc ++ r
theorem StkC.low {B : Nat} {w w' : World} (hl : Low B w w') : ∀ {st : List (PT × Nat)} {xs : List Value}, StkC B w st xs → StkC B w' st xs := by
 intro st
 induction st with
 | nil => intro xs h; exact h
 | cons x st ih =>
  rintro xs ⟨vo, vc, ko, kc, r, h1, h2, h3⟩
  exact ⟨vo, vc, ko, kc, r, h1.low hl, ih h2, h3⟩
theorem StkC.len {B : Nat} {w : World} : ∀ {st : List (PT × Nat)} {xs : List Value}, StkC B w st xs → xs.length = st.length * 5 := by
 intro st
 induction st with
 | nil => intro xs h; rw [show xs = [] from h]; rfl
 | cons x st ih =>
  rintro xs ⟨vo, vc, ko, kc, r, h1, h2, rfl⟩
  rw [List.length_append, ih h2, List.length_cons]
  simp; omega
theorem StkC.snoc {B : Nat} {w : World} {x : PT × Nat} {vo : Option Addr} {vc : Nat} {ko : Option Addr} {kc : Nat} (hx : PtIs B w x.1 vo vc ko kc) : ∀ {st : List (PT × Nat)} {xs : List Value}, StkC B w st xs → StkC B w (st ++ [x]) (xs ++ plc x vo vc ko kc) := by
 intro st
 induction st with
 | nil => intro xs h; rw [show xs = [] from h]; exact ⟨vo, vc, ko, kc, [], hx, rfl, by simp⟩
 | cons y st ih =>
  rintro xs ⟨uo, uc, lo, lc, r, h1, h2, rfl⟩
  exact ⟨uo, uc, lo, lc, r ++ plc x vo vc ko kc, h1, ih h2, by rw [List.append_assoc]⟩
theorem StkC.pop {B : Nat} {w : World} {x : PT × Nat} : ∀ {st : List (PT × Nat)} {xs : List Value}, StkC B w (st ++ [x]) xs → ∃ (r : List Value) (vo : Option Addr) (vc : Nat) (ko : Option Addr) (kc : Nat), xs = r ++ plc x vo vc ko kc ∧ StkC B w st r ∧ PtIs B w x.1 vo vc ko kc := by
 intro st
 induction st with
 | nil =>
  rintro xs ⟨vo, vc, ko, kc, r, h1, h2, rfl⟩
  rw [show r = [] from h2]
  exact ⟨[], vo, vc, ko, kc, by simp, rfl, h1⟩
 | cons y st ih =>
  rintro xs ⟨uo, uc, lo, lc, r, h1, h2, rfl⟩
  obtain ⟨r', vo, vc, ko, kc, rfl, h3, h4⟩ := ih h2
  exact ⟨plc y uo uc lo lc ++ r', vo, vc, ko, kc, by rw [List.append_assoc], ⟨uo, uc, lo, lc, r', h1, h3, rfl⟩, h4⟩
theorem OwnsK.pop {K base : Nat} {e : TypeId} {w : World} {g n cap : Nat} {xs r : List Value} (h : OwnsK K base e w (.slice (some ⟨g, 0, none⟩) (n + 1) cap) (n + 1) xs) (hr : r.length = n * K) (hx : r <+: xs) : OwnsK K base e w (.slice (some ⟨g, 0, none⟩) n cap) n r := by
 obtain ⟨h1, h2⟩ := h
 refine ⟨hr, .inr ?_⟩
 rcases h2 with ⟨h2, _⟩ | ⟨g', cap', cur, e1, h3, h4, h5, h6, h7, h8⟩
 ·cases h2
 ·cases e1
  refine ⟨g, cap, cur, rfl, h3, h4, by omega, h6, h7, ?_⟩
  obtain ⟨t, rfl⟩ := hx
  have h9 := congrArg (List.take (n * K)) h8
  rw [List.take_take, Nat.min_eq_left (Nat.mul_le_mul_right _ (by omega)), List.take_left' hr] at h9
  exact h9
theorem OwnsK.cellAt {K base : Nat} {e : TypeId} {w : World} {g n cap : Nat} {xs : List Value} (h : OwnsK K base e w (.slice (some ⟨g, 0, none⟩) n cap) n xs) {j : Nat} {c : Value} (hj : xs[j]? = some c) : w.cell? ⟨g, j, none⟩ = some c := by
 rcases h.shape with ⟨h1, _⟩ | ⟨g', cap', e1, _, _, _, _, h5, _⟩
 ·cases h1
 ·cases e1
  have hl := h.len
  have := (List.getElem?_eq_some_iff.1 hj).1
  rw [h5 j (by omega), hj]
theorem Oth.low {D B : Nat} {S : Nat → Prop} {W W' : World} (h : Oth D S W W') (hB : B ≤ D) (hW : B ≤ W.heap.size) : Low B W W' := fun k hk => h.same k (by omega) (.inl (by omega))
end Go.Proofs.YtcpfanpcdkoiaaaGreatDoor

namespace Go.Proofs.YtcpfanpcdkoiaaaGreatDoor
open Go.RowKit Go.Shelf


attribute [local go_sem] Oper.semAt_some field_nat
def VdI (p3 p5 : Nat) (ao : Option Addr) (n cap : Nat) (w : World) (b : Bool) (S : Nat → Prop) (W : World) : Prop := (S = fun k => k = p5) ∧ BoxL W p5 [.bool b] ∧ BoxL W p3 [.slice ao n cap] ∧ Below w.heap.size w W
theorem VdI.mk {p3 p5 : Nat} {ao : Option Addr} {n cap : Nat} {w : World} {b : Bool} {S : Nat → Prop} {W : World} (h0 : S = fun k => k = p5) (h1 : BoxL W p5 [.bool b]) (h2 : BoxL W p3 [.slice ao n cap]) (h3 : Below w.heap.size w W) : VdI p3 p5 ao n cap w b S W := ⟨h0, h1, h2, h3⟩
end Go.Proofs.YtcpfanpcdkoiaaaGreatDoor

namespace Go.Proofs.YtcpfanpcdkoiaaaGreatDoor
open Go.RowKit


attribute [local go_sem] field_nat
structure IntsB (B : Nat) (w : World) (io : Option Addr) (ic : Nat) (ns : List Int) : Prop where
 cap : ns.length ≤ ic ∧ ic ≤ maxLen
 no : io = none → ic = 0
 at_ : ∀ (i : Nat) (n : Int), ns[i]? = some n → ∃ b off, io = some ⟨b, off, none⟩ ∧ b < B ∧ w.cell? ⟨b, off + i, none⟩ = some (.int .i64 n)
theorem IntsB.low {B : Nat} {w w' : World} {io : Option Addr} {ic : Nat} {ns : List Int} (h : IntsB B w io ic ns) (hl : Low B w w') : IntsB B w' io ic ns :=
 ⟨h.cap, h.no, fun i n hi => by obtain ⟨b, off, e, hb, hc⟩ := h.at_ i n hi; exact ⟨b, off, e, hb, (hl.cell hb).trans hc⟩⟩
theorem IntsB.mono {B B' : Nat} {w : World} {io : Option Addr} {ic : Nat} {ns : List Int} (h : IntsB B w io ic ns) (hB : B ≤ B') : IntsB B' w io ic ns :=
 ⟨h.cap, h.no, fun i n hi => by obtain ⟨b, off, e, hb, hc⟩ := h.at_ i n hi; exact ⟨b, off, e, by omega, hc⟩⟩
structure At8 (w : World) (b o : Nat) (x0 x1 x2 x3 x4 x5 x6 x7 : Value) : Prop where
 c0 : w.cell? ⟨b, o, none⟩ = some x0
 c1 : w.cell? ⟨b, o + 1, none⟩ = some x1
 c2 : w.cell? ⟨b, o + 2, none⟩ = some x2
 c3 : w.cell? ⟨b, o + 3, none⟩ = some x3
 c4 : w.cell? ⟨b, o + 4, none⟩ = some x4
 c5 : w.cell? ⟨b, o + 5, none⟩ = some x5
 c6 : w.cell? ⟨b, o + 6, none⟩ = some x6
 c7 : w.cell? ⟨b, o + 7, none⟩ = some x7
theorem At8.drew {w : World} {b o : Nat} {x0 x1 x2 x3 x4 x5 x6 x7 : Value} (h : At8 w b o x0 x1 x2 x3 x4 x5 x6 x7) : At8 w.drew b o x0 x1 x2 x3 x4 x5 x6 x7 := ⟨h.c0, h.c1, h.c2, h.c3, h.c4, h.c5, h.c6, h.c7⟩
theorem At8.block {w w' : World} {b o : Nat} {x0 x1 x2 x3 x4 x5 x6 x7 : Value} (h : At8 w b o x0 x1 x2 x3 x4 x5 x6 x7) (hb : w'.heap[b]? = w.heap[b]?) : At8 w' b o x0 x1 x2 x3 x4 x5 x6 x7 := by
 have e : ∀ i, w'.cell? ⟨b, i, none⟩ = w.cell? ⟨b, i, none⟩ := fun i => World.cell?_of_block (a := ⟨b, i, none⟩) hb
 exact ⟨(e _).trans h.c0, (e _).trans h.c1, (e _).trans h.c2, (e _).trans h.c3, (e _).trans h.c4, (e _).trans h.c5, (e _).trans h.c6, (e _).trans h.c7⟩
theorem At8.lt {w : World} {b o : Nat} {x0 x1 x2 x3 x4 x5 x6 x7 : Value} (h : At8 w b o x0 x1 x2 x3 x4 x5 x6 x7) : b < w.heap.size := World.block_lt_of_cell? w ⟨b, o, none⟩ h.c0
theorem At8.kept {w w' : World} {b o : Nat} {x0 x1 x2 x3 x4 x5 x6 x7 : Value} (h : At8 w b o x0 x1 x2 x3 x4 x5 x6 x7) (hb : Below w.heap.size w w') : At8 w' b o x0 x1 x2 x3 x4 x5 x6 x7 := h.block (hb.block b h.lt)
structure NdL where
 vo : Option Addr
 vc : Nat
 ko : Option Addr
 kc : Nat
 io : Option Addr
 ic : Nat
structure NdIs (B : Nat) (w : World) (n : TN) (l : NdL) : Prop where
 p : PtIs B w n.p l.vo l.vc l.ko l.kc
 k : IntsB B w l.io l.ic n.kids
 sc : n.sc.length ≤ 9223372036854775807
 ct : n.ct.length ≤ 9223372036854775807
theorem NdIs.low {B : Nat} {w w' : World} {n : TN} {l : NdL} (h : NdIs B w n l) (hl : Low B w w') : NdIs B w' n l := ⟨h.p.low hl, h.k.low hl, h.sc, h.ct⟩
theorem NdIs.mono {B B' : Nat} {w : World} {n : TN} {l : NdL} (h : NdIs B w n l) (hB : B ≤ B') : NdIs B' w n l := ⟨h.p.mono hB, h.k.mono hB, h.sc, h.ct⟩
abbrev ndAt (w : World) (b o : Nat) (n : TN) (l : NdL) : Prop := At8 w b o (.int .i64 n.p.op) (.int .i64 n.p.fld) (.slice l.vo n.p.vals.length l.vc) (.slice l.ko n.p.kids.length l.kc) (.string ⟨n.sc.toArray⟩) (.string ⟨n.ct.toArray⟩) (.slice l.io n.kids.length l.ic) (.int .i64 n.df)
structure TrIs (B : Nat) (w : World) (t : TR) (no : Option Addr) (nc : Nat) : Prop where
 cap : t.nodes.length ≤ nc ∧ nc ≤ maxLen
 nn : no = none → nc = 0
 at_ : ∀ (i : Nat) (n : TN), t.nodes[i]? = some n → ∃ b off l, no = some ⟨b, off, none⟩ ∧ b < B ∧ NdIs B w n l ∧ ndAt w b (off + i * 8) n l
theorem TrIs.low {B : Nat} {w w' : World} {t : TR} {no : Option Addr} {nc : Nat} (h : TrIs B w t no nc) (hl : Low B w w') : TrIs B w' t no nc :=
 ⟨h.cap, h.nn, fun i n hi => by
  obtain ⟨b, off, l, e, hb, h1, h2⟩ := h.at_ i n hi
  exact ⟨b, off, l, e, hb, h1.low hl, h2.block (hl b hb)⟩⟩
theorem TrIs.mono {B B' : Nat} {w : World} {t : TR} {no : Option Addr} {nc : Nat} (h : TrIs B w t no nc) (hB : B ≤ B') : TrIs B' w t no nc :=
 ⟨h.cap, h.nn, fun i n hi => by
  obtain ⟨b, off, l, e, hb, h1, h2⟩ := h.at_ i n hi
  exact ⟨b, off, l, e, by omega, h1.mono hB, h2⟩⟩
end Go.Proofs.YtcpfanpcdkoiaaaGreatDoor
