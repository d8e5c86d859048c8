/-
  Pk08: MathFr HeapK (what is needed of them).
-/
import Derived.Test.YtcpfanpcdkoiaaaGreatPk01
import Derived.Test.YtcpfanpcdkoiaaaGreatPk07
set_option maxRecDepth 100000
set_option linter.unusedVariables false
set_option linter.unusedSimpArgs false

namespace Go.Proofs.YtcpfanpcdkoiaaaGreat


def parT (t x : Int) (m : EN) : Nat := if m.tree = t ∧ m.mode ≠ 7 then (if m.tru = x then 1 else 0) + (if m.fls = x then 1 else 0) else 0
def parR (ns : List EN) (t x : Int) : Nat := (ns.map (parT t x)).sum
def reachE (ns : List EN) : Nat → Nat → Nat × Nat
 | 0, _ => (1, 1)
 | l + 1, p => if ns[p]!.mode = 7 then (1, 1) else
  let a := reachE ns l ((findE ns ns[p]!.tree ns[p]!.tru).getD 0)
  let b := reachE ns l ((findE ns ns[p]!.tree ns[p]!.fls).getD 0)
  (a.1 + b.1 + 1, max a.2 b.2 + 1)
def rootsR (ns : List EN) (t : Int) : List Nat := (List.range ns.length).filter (fun k => decide (ns[k]!.tree = t) && decide (parR ns t ns[k]!.node = 0))
def cntTr (ns : List EN) (t : Int) : Nat := (List.range ns.length).countP (fun k => decide (ns[k]!.tree = t))
def treeR (ns : List EN) (t : Int) : Bool :=
 decide ((rootsR ns t).length = 1) && (decide ((reachE ns 40 ((rootsR ns t).getLast?.getD 0)).1 = cntTr ns t) && decide ((reachE ns 40 ((rootsR ns t).getLast?.getD 0)).2 ≤ 40))
def parsR (ns : List EN) : Bool := (List.range ns.length).all (fun i => decide (parR ns ns[i]!.tree ns[i]!.node ≤ 1))
def forestR (ns : List EN) : Bool := parsR ns && (treesE ns).all (treeR ns)
/-! Numbers that are their own; kids that are there. -/
structure NumOk (ns : List EN) : Prop where
 own : ∀ k, k < ns.length → findE ns ns[k]!.tree ns[k]!.node = some k
 tru : ∀ k, k < ns.length → ns[k]!.mode ≠ 7 → ∃ a, findE ns ns[k]!.tree ns[k]!.tru = some a
 fls : ∀ k, k < ns.length → ns[k]!.mode ≠ 7 → ∃ a, findE ns ns[k]!.tree ns[k]!.fls = some a
 two : ∀ k, k < ns.length → ns[k]!.mode ≠ 7 → ns[k]!.tru ≠ ns[k]!.fls
theorem num_ok {ns : List EN} (hn : numsE ns = true) (hk : kidE ns = true) : NumOk ns := by
 have hk2 : ∀ k, k < ns.length → ns[k]!.mode ≠ 7 → ((findE ns ns[k]!.tree ns[k]!.tru).isSome = true ∧ (findE ns ns[k]!.tree ns[k]!.fls).isSome = true ∧ ns[k]!.tru ≠ ns[k]!.fls) := by
  intro k hk1 hm
  unfold kidE everyE at hk
  have hmem : ns[k]! ∈ ns := by rw [getElem!_pos ns k hk1]; exact List.getElem_mem hk1
  have h := hk
  rw [Bool.not_eq_true', List.any_eq_false] at h
  have h2 := h _ hmem
  rw [decide_eq_true hm] at h2
  simp only [Bool.or_true, Bool.true_and, Bool.not_eq_true', Bool.not_eq_false, Bool.and_eq_true, decide_eq_true_eq] at h2
  exact h2
 refine ⟨fun k h => ?_, fun k h hm => Option.isSome_iff_exists.1 (hk2 k h hm).1, fun k h hm => Option.isSome_iff_exists.1 (hk2 k h hm).2.1, fun k h hm => (hk2 k h hm).2.2⟩
 have h1 := List.all_eq_true.1 hn k (List.mem_range.2 h)
 simp only [Bool.and_eq_true, decide_eq_true_eq] at h1
 have h2 := h1.2.2
 cases hq : findE ns ns[k]!.tree ns[k]!.node with
 | some j => rw [hq] at h2; simp at h2; rw [h2]
 | none =>
  exfalso
  have h3 : ns.findIdx? (fun n => decide (n.tree = ns[k]!.tree) && decide (n.node = ns[k]!.node)) = none := hq
  have h4 := List.findIdx?_eq_none_iff.1 h3 ns[k]! (by rw [getElem!_pos ns k h]; exact List.getElem_mem h)
  simp at h4
theorem kids_leaf {ns : List EN} {y : EN} (h : y.mode = 7) : kidsE ns y = [] := by unfold kidsE; rw [if_pos h]
theorem kids_two {ns : List EN} {y : EN} {a b : Nat} (h : y.mode ≠ 7) (ha : findE ns y.tree y.tru = some a) (hb : findE ns y.tree y.fls = some b) : kidsE ns y = [a, b] := by
 unfold kidsE; rw [if_neg h, ha, hb]; rfl
theorem NumOk.kids {ns : List EN} (h : NumOk ns) {k : Nat} (hk : k < ns.length) (hm : ns[k]!.mode ≠ 7) :
  ∃ a b, findE ns ns[k]!.tree ns[k]!.tru = some a ∧ findE ns ns[k]!.tree ns[k]!.fls = some b ∧ kidsE ns ns[k]! = [a, b] ∧ a ≠ b ∧ a < ns.length ∧ b < ns.length ∧ ns[a]!.tree = ns[k]!.tree ∧ ns[a]!.node = ns[k]!.tru ∧ ns[b]!.tree = ns[k]!.tree ∧ ns[b]!.node = ns[k]!.fls := by
 obtain ⟨a, ha⟩ := h.tru k hk hm
 obtain ⟨b, hb⟩ := h.fls k hk hm
 have la := findE_lt ha
 have lb := findE_lt hb
 have ta := findE_at ha la
 have tb := findE_at hb lb
 rw [← getElem!_pos ns a la] at ta
 rw [← getElem!_pos ns b lb] at tb
 refine ⟨a, b, ha, hb, kids_two hm ha hb, ?_, la, lb, ta.1, ta.2, tb.1, tb.2⟩
 intro e
 rw [e] at ta
 exact h.two k hk hm (ta.2.symm.trans tb.2)
theorem NumOk.kid_tree {ns : List EN} (h : NumOk ns) {k a : Nat} (hk : k < ns.length) (ha : a ∈ kidsE ns ns[k]!) : a < ns.length ∧ ns[a]!.tree = ns[k]!.tree ∧ ns[k]!.mode ≠ 7 := by
 by_cases hm : ns[k]!.mode = 7
 ·rw [kids_leaf hm] at ha; cases ha
 ·obtain ⟨a', b', _, _, hkk, _, la, lb, ta, _, tb, _⟩ := h.kids hk hm
  rw [hkk] at ha
  rcases List.mem_cons.1 ha with rfl | ha
  ·exact ⟨la, ta, hm⟩
  ·obtain rfl := List.mem_singleton.1 ha
   exact ⟨lb, tb, hm⟩
theorem NumOk.par {ns : List EN} (h : NumOk ns) {k j : Nat} (hk : k < ns.length) (hj : j < ns.length) : parT ns[j]!.tree ns[j]!.node ns[k]! = if j ∈ kidsE ns ns[k]! then 1 else 0 := by
 unfold parT
 by_cases hm : ns[k]!.mode = 7
 ·rw [if_neg (fun h => h.2 hm), kids_leaf hm, if_neg (by simp)]
 ·obtain ⟨a, b, ha, hb, hkk, hab, la, lb, ta, na, tb, nb⟩ := h.kids hk hm
  by_cases ht : ns[k]!.tree = ns[j]!.tree
  ·rw [if_pos ⟨ht, hm⟩, hkk]
   have hja : ns[k]!.tru = ns[j]!.node ↔ j = a := by
    constructor
    ·intro e
     have := h.own j hj
     rw [← ht, ← e, ha] at this
     exact (Option.some.inj this).symm
    ·rintro rfl; exact na.symm
   have hjb : ns[k]!.fls = ns[j]!.node ↔ j = b := by
    constructor
    ·intro e
     have := h.own j hj
     rw [← ht, ← e, hb] at this
     exact (Option.some.inj this).symm
    ·rintro rfl; exact nb.symm
   simp only [hja, hjb, List.mem_cons, List.not_mem_nil, or_false]
   by_cases e1 : j = a
   ·have e2 : j ≠ b := fun e => hab (e1.symm.trans e)
    simp [e1, e2, hab]
   ·by_cases e2 : j = b <;> simp [e1, e2, Ne.symm hab]
  ·rw [if_neg (fun h => ht h.1), hkk, if_neg]
   intro hmem
   rcases List.mem_cons.1 hmem with rfl | hmem
   ·exact ht ta.symm
   ·obtain rfl := List.mem_singleton.1 hmem
    exact ht tb.symm
theorem sum_count (p : Nat → Bool) (f : Nat → Nat) : ∀ (l : List Nat), (∀ k ∈ l, f k = if p k then 1 else 0) → (l.map f).sum = l.countP p
 | [], _ => rfl
 | k :: r, h => by
  rw [List.map_cons, List.sum_cons, List.countP_cons, sum_count p f r (fun x hx => h x (List.mem_cons_of_mem _ hx)), h k (by simp), Nat.add_comm]
theorem map_range {α β : Type} [Inhabited α] (f : α → β) (l : List α) : l.map f = (List.range l.length).map (fun k => f l[k]!) := by
 apply List.ext_getElem
 ·simp
 ·intro i h1 h2
  simp only [List.length_map] at h1
  rw [List.getElem_map, List.getElem_map, List.getElem_range, getElem!_pos l i h1]
theorem NumOk.parR {ns : List EN} (h : NumOk ns) {j : Nat} (hj : j < ns.length) : Go.Proofs.YtcpfanpcdkoiaaaGreat.parR ns ns[j]!.tree ns[j]!.node = (List.range ns.length).countP (fun k => decide (j ∈ kidsE ns ns[k]!)) := by
 unfold Go.Proofs.YtcpfanpcdkoiaaaGreat.parR
 rw [map_range]
 refine sum_count _ _ _ fun k hk => ?_
 rw [h.par (List.mem_range.1 hk) hj]
 simp
theorem count_two {p : Nat → Bool} : ∀ {l : List Nat} {x y : Nat}, x ∈ l → y ∈ l → x ≠ y → p x = true → p y = true → 2 ≤ l.countP p := by
 intro l
 induction l with
 | nil => intro x y hx; cases hx
 | cons z r ih =>
  intro x y hx hy hne px py
  rw [List.countP_cons]
  rcases List.mem_cons.1 hx with e1 | hx2
  ·rcases List.mem_cons.1 hy with e2 | hy2
   ·exact absurd (e1.trans e2.symm) hne
   ·have := List.countP_pos_iff.2 ⟨y, hy2, py⟩
    rw [← e1, if_pos px]; omega
  ·rcases List.mem_cons.1 hy with e2 | hy2
   ·have := List.countP_pos_iff.2 ⟨x, hx2, px⟩
    rw [← e2, if_pos py]; omega
   ·have := ih hx2 hy2 hne px py; omega
theorem count_one {p : Nat → Bool} : ∀ {l : List Nat}, l.Nodup → (∀ x ∈ l, ∀ y ∈ l, p x = true → p y = true → x = y) → l.countP p ≤ 1 := by
 intro l
 induction l with
 | nil => intro _ _; exact Nat.zero_le _
 | cons z r ih =>
  intro hn h
  rw [List.nodup_cons] at hn
  rw [List.countP_cons]
  by_cases pz : p z = true
  ·rw [if_pos pz]
   have : r.countP p = 0 := by
    rw [List.countP_eq_zero]
    intro x hx px
    have := h z (by simp) x (by simp [hx]) pz px
    exact hn.1 (this ▸ hx)
   omega
  ·rw [if_neg pz]
   have := ih hn.2 (fun x hx y hy => h x (by simp [hx]) y (by simp [hy]))
   omega
/-! The list of those above. -/
structure UpOk (ns : List EN) (up : List Int) : Prop where
 len : up.length = ns.length
 kid : ∀ k, k < ns.length → ∀ a ∈ kidsE ns ns[k]!, up[a]? = some (k : Int)
 back : ∀ j, j < ns.length → up[j]? = some (-1) ∨ ∃ k, k < ns.length ∧ up[j]? = some (k : Int) ∧ j ∈ kidsE ns ns[k]!
theorem upK_all (k : Nat) : ∀ (l : List Nat) (up : List Int), (∀ a ∈ l, a < up.length) → l.Nodup →
  (∃ up', upK k l up = some up' ∧ up'.length = up.length ∧ (∀ a ∈ l, up'[a]? = some (k : Int)) ∧ (∀ j, j ∉ l → up'[j]? = up[j]?) ∧ (∀ a ∈ l, up[a]? = some (-1))) ∨ (upK k l up = none ∧ ∃ a ∈ l, up[a]? ≠ some (-1))
 | [], up, _, _ => .inl ⟨up, rfl, rfl, fun _ h => (by cases h), fun _ _ => rfl, fun _ h => (by cases h)⟩
 | a :: r, up, hl, hn => by
  rw [List.nodup_cons] at hn
  have ha := hl a (by simp)
  by_cases h0 : up[a]? = some (-1)
  ·have e : upK k (a :: r) up = upK k r (up.set a (k : Int)) := by rw [upK, if_neg]; rw [h0]; simp
   rcases upK_all k r (up.set a (k : Int)) (fun x hx => by rw [List.length_set]; exact hl x (by simp [hx])) hn.2 with ⟨u, h1, h2, h3, h4, h5⟩ | ⟨h1, x, hx, h2⟩
   ·left
    refine ⟨u, e.trans h1, by rw [h2, List.length_set], fun x hx => ?_, fun j hj => ?_, fun x hx => ?_⟩
    ·rcases List.mem_cons.1 hx with rfl | hx
     ·rw [h4 x hn.1, List.getElem?_set_self ha]
     ·exact h3 x hx
    ·rw [h4 j (fun h => hj (by simp [h])), List.getElem?_set_ne (fun e => hj (by simp [e]))]
    ·rcases List.mem_cons.1 hx with rfl | hx
     ·exact h0
     ·have := h5 x hx
      rwa [List.getElem?_set_ne (show a ≠ x from fun e => hn.1 (by rw [e]; exact hx))] at this
   ·right
    refine ⟨e.trans h1, x, by simp [hx], ?_⟩
    rwa [List.getElem?_set_ne (show a ≠ x from fun e => hn.1 (by rw [e]; exact hx))] at h2
  ·right
   refine ⟨?_, a, by simp, h0⟩
   rw [upK, if_pos]
   rw [List.getElem?_eq_getElem ha] at h0 ⊢
   simpa using h0
theorem NumOk.nodup {ns : List EN} (h : NumOk ns) {k : Nat} (hk : k < ns.length) : (kidsE ns ns[k]!).Nodup := by
 by_cases hm : ns[k]!.mode = 7
 ·rw [kids_leaf hm]; exact List.nodup_nil
 ·obtain ⟨a, b, _, _, hkk, hab, _⟩ := h.kids hk hm
  rw [hkk]; simp [hab]
theorem upL_all {ns : List EN} (h : NumOk ns) : ∀ (l done : List Nat) (up : List Int), (∀ k ∈ l, k < ns.length) → (done ++ l).Nodup → up.length = ns.length →
  (∀ k ∈ done, ∀ a ∈ kidsE ns ns[k]!, up[a]? = some (k : Int)) → (∀ j, j < ns.length → up[j]? = some (-1) ∨ ∃ k ∈ done, up[j]? = some (k : Int) ∧ j ∈ kidsE ns ns[k]!) →
  (∃ up', upL ns l up = some up' ∧ up'.length = ns.length ∧ (∀ k ∈ done ++ l, ∀ a ∈ kidsE ns ns[k]!, up'[a]? = some (k : Int)) ∧ (∀ j, j < ns.length → up'[j]? = some (-1) ∨ ∃ k ∈ done ++ l, up'[j]? = some (k : Int) ∧ j ∈ kidsE ns ns[k]!)) ∨
  (upL ns l up = none ∧ ∃ j k k', k ∈ done ++ l ∧ k' ∈ done ++ l ∧ k ≠ k' ∧ j ∈ kidsE ns ns[k]! ∧ j ∈ kidsE ns ns[k']! ∧ j < ns.length)
 | [], done, up, _, _, hlen, h1, h2 => .inl ⟨up, rfl, hlen, by simpa using h1, by simpa using h2⟩
 | k :: r, done, up, hl, hn, hlen, h1, h2 => by
  have hk := hl k (by simp)
  have hkn : k ∉ done := by
   have := List.nodup_append.1 hn
   intro hd
   exact this.2.2 k hd k (by simp) rfl
  have hkl : ∀ a ∈ kidsE ns ns[k]!, a < up.length := fun a ha => by rw [hlen]; exact (h.kid_tree hk ha).1
  rcases upK_all k (kidsE ns ns[k]!) up hkl (h.nodup hk) with ⟨u, e1, e2, e3, e4, e5⟩ | ⟨e1, a, ha, e2⟩
  ·have hu : ∀ k' ∈ done ++ [k], ∀ a ∈ kidsE ns ns[k']!, u[a]? = some (k' : Int) := by
    intro k' hk' a ha
    rcases List.mem_append.1 hk' with hd | hd
    ·have h9 := h1 k' hd a ha
     by_cases hak : a ∈ kidsE ns ns[k]!
     ·have := e5 a hak
      rw [h9] at this
      have := Option.some.inj this
      omega
     ·rw [e4 a hak]; exact h9
    ·obtain rfl := List.mem_singleton.1 hd
     exact e3 a ha
   have hb : ∀ j, j < ns.length → u[j]? = some (-1) ∨ ∃ k' ∈ done ++ [k], u[j]? = some (k' : Int) ∧ j ∈ kidsE ns ns[k']! := by
    intro j hj
    by_cases hjk : j ∈ kidsE ns ns[k]!
    ·exact .inr ⟨k, by simp, e3 j hjk, hjk⟩
    ·rw [e4 j hjk]
     rcases h2 j hj with h9 | ⟨k', hd, h9, h10⟩
     ·exact .inl h9
     ·exact .inr ⟨k', by simp [hd], h9, h10⟩
   have hrec := upL_all h r (done ++ [k]) u (fun x hx => hl x (by simp [hx])) (by simpa using hn) (e2.trans hlen) hu hb
   have hE : upL ns (k :: r) up = upL ns r u := by rw [upL, e1]; rfl
   rw [hE]
   simpa using hrec
  ·right
   refine ⟨by rw [upL, e1]; rfl, ?_⟩
   have hal := (h.kid_tree hk ha).1
   rcases h2 a hal with h9 | ⟨k', hd, _, h10⟩
   ·exact absurd h9 e2
   ·exact ⟨a, k, k', by simp, by simp [hd], fun e => hkn (e ▸ hd), ha, h10, hal⟩
theorem up_all {ns : List EN} (h : NumOk ns) : (∃ up, upE ns = some up ∧ UpOk ns up) ∨ (upE ns = none ∧ ∃ j k k', k < ns.length ∧ k' < ns.length ∧ k ≠ k' ∧ j ∈ kidsE ns ns[k]! ∧ j ∈ kidsE ns ns[k']! ∧ j < ns.length) := by
 have := upL_all h (List.range ns.length) [] (List.replicate ns.length (-1)) (fun k hk => List.mem_range.1 hk) (by simpa using List.nodup_range) (by simp) (fun k hk => (by cases hk)) (fun j hj => .inl (by simp [hj]))
 rcases this with ⟨up, h1, h2, h3, h4⟩ | ⟨h1, j, k, k', h2, h3, h4⟩
 ·left
  refine ⟨up, h1, h2, fun k hk => h3 k (by simpa using hk), fun j hj => ?_⟩
  rcases h4 j hj with h5 | ⟨k, hk, h5⟩
  ·exact .inl h5
  ·exact .inr ⟨k, by simpa using hk, h5⟩
 ·right
  exact ⟨h1, j, k, k', by simpa using h2, by simpa using h3, h4⟩
theorem pars_up {ns : List EN} (h : NumOk ns) : parsR ns = (upE ns).isSome := by
 rcases up_all h with ⟨up, h1, h2⟩ | ⟨h1, j, k, k', hk, hk', hne, hj, hj', hjl⟩
 ·rw [h1]
  unfold parsR
  rw [Option.isSome_some, List.all_eq_true]
  intro j hj
  rw [List.mem_range] at hj
  rw [decide_eq_true_eq, h.parR hj]
  refine count_one List.nodup_range fun x hx y hy px py => ?_
  rw [List.mem_range] at hx hy
  have e1 := h2.kid x hx j (by simpa using px)
  have e2 := h2.kid y hy j (by simpa using py)
  rw [e1] at e2
  have := Option.some.inj e2
  omega
 ·rw [h1]
  unfold parsR
  rw [Option.isSome_none, List.all_eq_false]
  refine ⟨j, List.mem_range.2 hjl, ?_⟩
  rw [decide_eq_true_eq, h.parR hjl]
  have := count_two (p := fun k => decide (j ∈ kidsE ns ns[k]!)) (List.mem_range.2 hk) (List.mem_range.2 hk') hne (by simpa using hj) (by simpa using hj')
  omega
theorem UpOk.none_iff {ns : List EN} {up : List Int} (h : NumOk ns) (hu : UpOk ns up) {j : Nat} (hj : j < ns.length) : parR ns ns[j]!.tree ns[j]!.node = 0 ↔ up[j]?.getD 0 = -1 := by
 rw [h.parR hj, List.countP_eq_zero]
 rcases hu.back j hj with h1 | ⟨k, hk, h1, h2⟩
 ·rw [h1]
  simp only [Option.getD_some, true_iff]
  rename_i _
  constructor
  ·intro _; trivial
  ·intro _ k hk hj2
   have := hu.kid k (List.mem_range.1 hk) j (by simpa using hj2)
   rw [h1] at this
   have := Option.some.inj this
   omega
 ·rw [h1]
  constructor
  ·intro h3
   exact absurd (by simpa using h2) (h3 k (List.mem_range.2 hk))
  ·intro h3
   simp only [Option.getD_some] at h3
   omega
theorem UpOk.roots {ns : List EN} {up : List Int} (h : NumOk ns) (hu : UpOk ns up) (t : Int) : rootsR ns t = (List.range ns.length).filter (fun k => decide (ns[k]!.tree = t) && decide (up[k]?.getD 0 = -1)) := by
 unfold rootsR
 refine List.filter_congr fun k hk => ?_
 rw [List.mem_range] at hk
 by_cases ht : ns[k]!.tree = t
 ·subst ht
  have := UpOk.none_iff h hu hk
  rw [decide_eq_decide.2 this]
 ·rw [decide_eq_false ht, Bool.false_and, Bool.false_and]
/-! The way up. -/
def upS (up : List Int) (x : Int) : Int := if x = -1 then -1 else up[x.toNat]?.getD (-1)
def cS (up : List Int) : Nat → Int → Int
 | 0, x => x
 | j + 1, x => cS up j (upS up x)
theorem cS_none (up : List Int) : ∀ j, cS up j (-1) = -1
 | 0 => rfl
 | j + 1 => by rw [cS]; show cS up j (upS up (-1)) = -1; rw [show upS up (-1) = -1 from rfl]; exact cS_none up j
theorem cS_add (up : List Int) : ∀ (i j : Nat) (x : Int), cS up (i + j) x = cS up j (cS up i x)
 | 0, j, x => by rw [Nat.zero_add]; rfl
 | i + 1, j, x => by rw [show i + 1 + j = (i + j) + 1 by omega, cS, cS, cS_add up i j]
theorem cS_mono {up : List Int} {i j : Nat} {x : Int} (h : cS up i x = -1) (hij : i ≤ j) : cS up j x = -1 := by
 obtain ⟨d, rfl⟩ : ∃ d, j = i + d := ⟨j - i, by omega⟩
 rw [cS_add, h, cS_none]
theorem ok_cS (up : List Int) : ∀ (f : Nat) (x : Int), okE up f x = decide (cS up f x = -1)
 | 0, x => rfl
 | f + 1, x => by
  rw [okE, cS, ok_cS up f]
  by_cases hx : x = -1
  ·subst hx
   rw [show upS up (-1) = -1 from rfl, cS_none]; simp
  ·rw [show upS up x = up[x.toNat]?.getD (-1) by unfold upS; rw [if_neg hx]]
   simp [hx]
theorem UpOk.upS_kid {ns : List EN} {up : List Int} (hu : UpOk ns up) {k a : Nat} (hk : k < ns.length) (ha : a ∈ kidsE ns ns[k]!) : upS up (a : Int) = (k : Int) := by
 unfold upS
 rw [if_neg (by omega), Int.toNat_natCast, hu.kid k hk a ha]; rfl
theorem UpOk.upS_back {ns : List EN} {up : List Int} (hu : UpOk ns up) {j k : Nat} (hj : j < ns.length) (h : upS up (j : Int) = (k : Int)) : k < ns.length ∧ j ∈ kidsE ns ns[k]! := by
 unfold upS at h
 rw [if_neg (by omega), Int.toNat_natCast] at h
 rcases hu.back j hj with h1 | ⟨k', hk', h1, h2⟩
 ·rw [h1] at h; simp at h
 ·rw [h1] at h
  simp at h
  have : k' = k := by omega
  exact ⟨this ▸ hk', this ▸ h2⟩
theorem UpOk.upS_cases {ns : List EN} {up : List Int} (hu : UpOk ns up) {j : Nat} (hj : j < ns.length) : upS up (j : Int) = -1 ∨ ∃ k, k < ns.length ∧ upS up (j : Int) = (k : Int) := by
 unfold upS
 rw [if_neg (by omega), Int.toNat_natCast]
 rcases hu.back j hj with h1 | ⟨k', hk', h1, h2⟩
 ·rw [h1]; exact .inl rfl
 ·rw [h1]; exact .inr ⟨k', hk', rfl⟩
theorem UpOk.cS_cases {ns : List EN} {up : List Int} (h : NumOk ns) (hu : UpOk ns up) : ∀ (i j : Nat), j < ns.length → cS up i (j : Int) = -1 ∨ ∃ k, k < ns.length ∧ cS up i (j : Int) = (k : Int) ∧ ns[k]!.tree = ns[j]!.tree
 | 0, j, hj => .inr ⟨j, hj, rfl, rfl⟩
 | i + 1, j, hj => by
  rw [cS]
  rcases hu.upS_cases hj with h1 | ⟨k, hk, h1⟩
  ·rw [h1, cS_none]; exact .inl rfl
  ·rw [h1]
   have hb := hu.upS_back hj h1
   have ht := (h.kid_tree hb.1 hb.2).2.1
   rcases UpOk.cS_cases h hu i k hk with h2 | ⟨m, hm, h2, h3⟩
   ·exact .inl h2
   ·exact .inr ⟨m, hm, h2, by rw [h3, ← ht]⟩
/-! Nodes from which a place is come to. -/
def hitB (up : List Int) (l p k : Nat) : Bool := (List.range (l + 1)).any (fun j => decide (cS up j (k : Int) = (p : Int)))
theorem hit_iff {up : List Int} {l p k : Nat} : hitB up l p k = true ↔ ∃ j, j ≤ l ∧ cS up j (k : Int) = (p : Int) := by
 unfold hitB
 rw [List.any_eq_true]
 constructor
 ·rintro ⟨j, hj, h⟩
  rw [List.mem_range] at hj
  exact ⟨j, by omega, by simpa using h⟩
 ·rintro ⟨j, hj, h⟩
  exact ⟨j, List.mem_range.2 (by omega), by simpa using h⟩
theorem count_or {p q : Nat → Bool} : ∀ (l : List Nat), (∀ k ∈ l, ¬ (p k = true ∧ q k = true)) → l.countP (fun k => p k || q k) = l.countP p + l.countP q
 | [], _ => rfl
 | k :: r, h => by
  rw [List.countP_cons, List.countP_cons, List.countP_cons, count_or r (fun x hx => h x (by simp [hx]))]
  have := h k (by simp)
  cases hp : p k <;> cases hq : q k <;> simp_all <;> omega
theorem count_self (N p : Nat) (hp : p < N) : (List.range N).countP (fun k => decide (k = p)) = 1 := by
 have h1 := count_one (p := fun k => decide (k = p)) (l := List.range N) List.nodup_range (fun x _ y _ hx hy => by simp at hx hy; omega)
 have h3 : 0 < (List.range N).countP (fun k => decide (k = p)) := List.countP_pos_iff.2 ⟨p, List.mem_range.2 hp, decide_eq_true rfl⟩
 omega
theorem cS_back {up : List Int} {p : Int} {m d : Nat} (hm : cS up m p = -1) (hp : p ≠ -1) (hd : 0 < d) (h : cS up d p = p) : False := by
 have hn : ∀ n, cS up (n * d) p = p := by
  intro n
  induction n with
  | zero => rw [Nat.zero_mul]; rfl
  | succ n ih => rw [Nat.succ_mul, cS_add, ih, h]
 have := cS_mono hm (show m ≤ m * d from Nat.le_mul_of_pos_right m hd)
 rw [hn m] at this
 exact hp this
theorem reach_count {ns : List EN} {up : List Int} (h : NumOk ns) (hu : UpOk ns up) : ∀ (l p m : Nat), p < ns.length → cS up m (p : Int) = -1 → (reachE ns l p).1 = (List.range ns.length).countP (hitB up l p)
  | 0, p, m, hp, hm => by
    rw [reachE]
    have : (List.range ns.length).countP (hitB up 0 p) = (List.range ns.length).countP (fun k => decide (k = p)) := by
      refine List.countP_congr fun k hk => ?_
      rw [hit_iff, decide_eq_true_eq]
      constructor
      · rintro ⟨j, hj, h1⟩
        obtain rfl : j = 0 := by omega
        have : (k : Int) = (p : Int) := h1
        omega
      · rintro rfl; exact ⟨0, Nat.le_refl _, rfl⟩
    rw [this, count_self _ _ hp]
  | l + 1, p, m, hp, hm => by
    rw [reachE]
    by_cases hL : ns[p]!.mode = 7
    · rw [if_pos hL]
      have : (List.range ns.length).countP (hitB up (l + 1) p) = (List.range ns.length).countP (fun k => decide (k = p)) := by
        refine List.countP_congr fun k hk => ?_
        rw [List.mem_range] at hk
        rw [hit_iff, decide_eq_true_eq]
        constructor
        · rintro ⟨j, hj, h1⟩
          cases j with
          | zero => have : (k : Int) = (p : Int) := h1
                    omega
          | succ j =>
            exfalso
            rw [show j + 1 = j + 1 from rfl, cS_add] at h1
            rcases UpOk.cS_cases h hu j k hk with h2 | ⟨q, hq, h2, _⟩
            · rw [h2] at h1
              have : (-1 : Int) = (p : Int) := h1
              omega
            · rw [h2] at h1
              have h3 : upS up (q : Int) = (p : Int) := h1
              have := (hu.upS_back hq h3).2
              rw [kids_leaf hL] at this
              cases this
        · rintro rfl; exact ⟨0, Nat.zero_le _, rfl⟩
      rw [this, count_self _ _ hp]
    · rw [if_neg hL]
      obtain ⟨a, b, ha, hb, hkk, hab, la, lb, ta, na, tb, nb⟩ := h.kids hp hL
      have ua := hu.upS_kid hp (a := a) (by rw [hkk]; simp)
      have ub := hu.upS_kid hp (a := b) (by rw [hkk]; simp)
      have ma : cS up (m + 1) (a : Int) = -1 := by rw [cS, ua]; exact hm
      have mb : cS up (m + 1) (b : Int) = -1 := by rw [cS, ub]; exact hm
      have ra := reach_count h hu l a (m + 1) la ma
      have rb := reach_count h hu l b (m + 1) lb mb
      rw [ha, hb]
      simp only [Option.getD_some]
      rw [ra, rb]
      have hpz : (p : Int) ≠ -1 := by omega
      have hcong : (List.range ns.length).countP (hitB up (l + 1) p) = (List.range ns.length).countP (fun k => (hitB up l a k || hitB up l b k) || decide (k = p)) := by
        refine List.countP_congr fun k hk => ?_
        rw [List.mem_range] at hk
        rw [hit_iff, Bool.or_eq_true, Bool.or_eq_true, hit_iff, hit_iff, decide_eq_true_eq]
        constructor
        · rintro ⟨j, hj, h1⟩
          cases j with
          | zero => right
                    have : (k : Int) = (p : Int) := h1
                    omega
          | succ j =>
            left
            rw [cS_add] at h1
            rcases UpOk.cS_cases h hu j k hk with h2 | ⟨q, hq, h2, _⟩
            · rw [h2] at h1
              have : (-1 : Int) = (p : Int) := h1
              omega
            · rw [h2] at h1
              have h3 : upS up (q : Int) = (p : Int) := h1
              have h4 := (hu.upS_back hq h3).2
              rw [hkk] at h4
              rcases List.mem_cons.1 h4 with rfl | h4
              · exact .inl ⟨j, by omega, h2⟩
              · obtain rfl := List.mem_singleton.1 h4
                exact .inr ⟨j, by omega, h2⟩
        · rintro ((⟨j, hj, h1⟩ | ⟨j, hj, h1⟩) | rfl)
          · exact ⟨j + 1, by omega, by rw [cS_add, h1]; exact ua⟩
          · exact ⟨j + 1, by omega, by rw [cS_add, h1]; exact ub⟩
          · exact ⟨0, Nat.zero_le _, rfl⟩
      have key : ∀ (x y : Nat) (i j k : Nat), upS up (x : Int) = (p : Int) → upS up (y : Int) = (p : Int) → cS up i (k : Int) = (x : Int) → cS up j (k : Int) = (y : Int) → i < j → False := by
        intro x y i j k hx hy h1 h2 hij
        obtain ⟨d, rfl⟩ : ∃ d, j = i + (1 + d) := ⟨j - i - 1, by omega⟩
        rw [cS_add, h1, cS_add] at h2
        have h3 : cS up 1 (x : Int) = (p : Int) := hx
        rw [h3] at h2
        refine cS_back (d := d + 1) hm hpz (by omega) ?_
        rw [cS_add, h2]
        exact hy
      rw [hcong, count_or, count_or, count_self _ _ hp]
      · intro k _ ⟨h1, h2⟩
        obtain ⟨i, hi, h1⟩ := hit_iff.1 h1
        obtain ⟨j, hj, h2⟩ := hit_iff.1 h2
        rcases Nat.lt_trichotomy i j with hij | hij | hij
        · exact key a b i j k ua ub h1 h2 hij
        · rw [hij, h2] at h1
          have : b = a := by omega
          exact hab this.symm
        · exact key b a j i k ub ua h2 h1 hij
      · intro k _ ⟨h1, h2⟩
        have h2 : k = p := by simpa using h2
        subst h2
        rw [Bool.or_eq_true, hit_iff, hit_iff] at h1
        rcases h1 with ⟨j, hj, h1⟩ | ⟨j, hj, h1⟩
        · exact cS_back (d := j + 1) hm hpz (by omega) (by rw [cS_add, h1]; exact ua)
        · exact cS_back (d := j + 1) hm hpz (by omega) (by rw [cS_add, h1]; exact ub)
theorem reach_le (ns : List EN) : ∀ (l p : Nat), (reachE ns l p).2 ≤ l + 1
 | 0, p => Nat.le_refl _
 | l + 1, p => by
  rw [reachE]
  split
  ·simp
  ·have := reach_le ns l ((findE ns ns[p]!.tree ns[p]!.tru).getD 0)
   have := reach_le ns l ((findE ns ns[p]!.tree ns[p]!.fls).getD 0)
   simp only
   omega
theorem reach_deep {ns : List EN} {up : List Int} (h : NumOk ns) (hu : UpOk ns up) : ∀ (l p : Nat), p < ns.length → ((reachE ns l p).2 = l + 1 ↔ ∃ k, k < ns.length ∧ cS up l (k : Int) = (p : Int))
 | 0, p, hp => by
  rw [reachE]
  exact ⟨fun _ => ⟨p, hp, rfl⟩, fun _ => rfl⟩
 | l + 1, p, hp => by
  rw [reachE]
  have step : ∀ k, k < ns.length → (cS up (l + 1) (k : Int) = (p : Int) → ∃ q, q < ns.length ∧ cS up l (k : Int) = (q : Int) ∧ q ∈ kidsE ns ns[p]!) := by
   intro k hk h1
   rw [cS_add] at h1
   rcases UpOk.cS_cases h hu l k hk with h2 | ⟨q, hq, h2, _⟩
   ·rw [h2] at h1
    have : (-1 : Int) = (p : Int) := h1
    omega
   ·rw [h2] at h1
    have h3 : upS up (q : Int) = (p : Int) := h1
    exact ⟨q, hq, h2, (hu.upS_back hq h3).2⟩
  by_cases hL : ns[p]!.mode = 7
  ·rw [if_pos hL]
   constructor
   ·intro h1
    have : 1 = l + 1 + 1 := h1
    omega
   ·rintro ⟨k, hk, h1⟩
    obtain ⟨q, _, _, h2⟩ := step k hk h1
    rw [kids_leaf hL] at h2
    cases h2
  ·rw [if_neg hL]
   obtain ⟨a, b, ha, hb, hkk, hab, la, lb, ta, na, tb, nb⟩ := h.kids hp hL
   have ua := hu.upS_kid hp (a := a) (by rw [hkk]; simp)
   have ub := hu.upS_kid hp (a := b) (by rw [hkk]; simp)
   have ra := reach_deep h hu l a la
   have rb := reach_deep h hu l b lb
   have qa := reach_le ns l a
   have qb := reach_le ns l b
   rw [ha, hb]
   simp only [Option.getD_some]
   constructor
   ·intro h1
    have h2 : (reachE ns l a).2 = l + 1 ∨ (reachE ns l b).2 = l + 1 := by omega
    rcases h2 with h2 | h2
    ·obtain ⟨k, hk, h3⟩ := ra.1 h2
     exact ⟨k, hk, by rw [cS_add, h3]; exact ua⟩
    ·obtain ⟨k, hk, h3⟩ := rb.1 h2
     exact ⟨k, hk, by rw [cS_add, h3]; exact ub⟩
   ·rintro ⟨k, hk, h1⟩
    obtain ⟨q, _, h2, h3⟩ := step k hk h1
    rw [hkk] at h3
    rcases List.mem_cons.1 h3 with rfl | h3
    ·have := ra.2 ⟨k, hk, h2⟩; omega
    ·obtain rfl := List.mem_singleton.1 h3
     have := rb.2 ⟨k, hk, h2⟩; omega
theorem count_sub {p q : Nat → Bool} : ∀ (l : List Nat), (∀ k ∈ l, p k = true → q k = true) → l.countP p ≤ l.countP q ∧ (l.countP p = l.countP q → ∀ k ∈ l, q k = true → p k = true)
 | [], _ => ⟨Nat.le_refl _, fun _ k h => (by cases h)⟩
 | x :: r, h => by
  obtain ⟨h1, h2⟩ := count_sub r (fun k hk => h k (by simp [hk]))
  rw [List.countP_cons, List.countP_cons]
  have hx := h x (by simp)
  refine ⟨?_, fun e k hk hq => ?_⟩
  ·cases hp : p x <;> cases hq : q x <;> simp_all <;> omega
  ·rcases List.mem_cons.1 hk with rfl | hk
   ·cases hp : p k with
    | true => rfl
    | false => rw [hp, hq] at e; simp at e; omega
   ·refine h2 ?_ k hk hq
    cases hp : p x <;> cases hq2 : q x <;> simp_all <;> omega
theorem tree_ok {ns : List EN} {up : List Int} (h : NumOk ns) (hu : UpOk ns up) {t : Int} (hr : (rootsR ns t).length = 1) :
    ((reachE ns 40 ((rootsR ns t).getLast?.getD 0)).1 = cntTr ns t ∧ (reachE ns 40 ((rootsR ns t).getLast?.getD 0)).2 ≤ 40) ↔ ∀ k, k < ns.length → ns[k]!.tree = t → cS up 40 (k : Int) = -1 := by
  obtain ⟨r, hrr⟩ := List.length_eq_one_iff.1 hr
  have hmem : r ∈ rootsR ns t := by rw [hrr]; simp
  rw [hrr]
  simp only [List.getLast?_singleton, Option.getD_some]
  have hroot := UpOk.roots h hu t
  have h1 := hmem
  rw [hroot, List.mem_filter, List.mem_range] at h1
  obtain ⟨hrl, h1⟩ := h1
  simp only [Bool.and_eq_true, decide_eq_true_eq] at h1
  have hup : upS up (r : Int) = -1 := by
    unfold upS
    rw [if_neg (by omega), Int.toNat_natCast]
    have h9 : r < up.length := by rw [hu.len]; exact hrl
    rw [List.getElem?_eq_getElem h9] at h1 ⊢
    exact h1.2
  have hc1 : cS up 1 (r : Int) = -1 := hup
  have hcount := reach_count h hu 40 r 1 hrl hc1
  have hdeep := reach_deep h hu 40 r hrl
  have hdl := reach_le ns 40 r
  have hsub := count_sub (p := hitB up 40 r) (q := fun k => decide (ns[k]!.tree = t)) (List.range ns.length) (by
    intro k hk hh
    rw [List.mem_range] at hk
    obtain ⟨j, hj, h2⟩ := hit_iff.1 hh
    rcases UpOk.cS_cases h hu j k hk with h3 | ⟨q, hq, h3, h4⟩
    · rw [h3] at h2; omega
    · have : q = r := by omega
      subst this
      rw [decide_eq_true_eq, ← h4]; exact h1.1)
  constructor
  · rintro ⟨e1, e2⟩ k hk ht
    have e3 := hsub.2 (by rw [← hcount]; exact e1) k (List.mem_range.2 hk) (by simpa using ht)
    obtain ⟨j, hj, h2⟩ := hit_iff.1 e3
    have hj40 : j ≠ 40 := by
      rintro rfl
      have := hdeep.2 ⟨k, hk, h2⟩
      omega
    have h5 : cS up (j + 1) (k : Int) = -1 := by rw [cS_add, h2]; exact hc1
    exact cS_mono h5 (by omega)
  · intro hall
    have hback : ∀ k, k < ns.length → ns[k]!.tree = t → hitB up 40 r k = true := by
      intro k hk ht
      rw [hit_iff]
      have : ∀ (n : Nat), cS up n (k : Int) = -1 → ∃ j, j < n ∧ cS up j (k : Int) = (r : Int) := by
        intro n
        induction n with
        | zero => intro hz; have : (k : Int) = -1 := hz
                  omega
        | succ n ih =>
          intro hz
          rcases UpOk.cS_cases h hu n k hk with h3 | ⟨q, hq, h3, h4⟩
          · obtain ⟨j, hj, h5⟩ := ih h3
            exact ⟨j, by omega, h5⟩
          · rw [cS_add, h3] at hz
            have hz2 : upS up (q : Int) = -1 := hz
            have hqr : q ∈ rootsR ns t := by
              rw [hroot, List.mem_filter, List.mem_range]
              refine ⟨hq, ?_⟩
              simp only [Bool.and_eq_true, decide_eq_true_eq]
              refine ⟨by rw [h4]; exact ht, ?_⟩
              unfold upS at hz2
              rw [if_neg (by omega), Int.toNat_natCast] at hz2
              have h9 : q < up.length := by rw [hu.len]; exact hq
              rw [List.getElem?_eq_getElem h9] at hz2 ⊢
              exact hz2
            rw [hrr] at hqr
            obtain rfl := List.mem_singleton.1 hqr
            exact ⟨n, by omega, h3⟩
      obtain ⟨j, hj, h5⟩ := this 40 (hall k hk ht)
      exact ⟨j, by omega, h5⟩
    refine ⟨?_, ?_⟩
    · rw [hcount]
      refine List.countP_congr fun k hk => ?_
      rw [List.mem_range] at hk
      constructor
      · intro hh
        obtain ⟨j, hj, h2⟩ := hit_iff.1 hh
        rcases UpOk.cS_cases h hu j k hk with h3 | ⟨q, hq, h3, h4⟩
        · rw [h3] at h2; omega
        · have : q = r := by omega
          subst this
          rw [decide_eq_true_eq, ← h4]; exact h1.1
      · intro hh
        exact hback k hk (by simpa using hh)
    · refine Nat.le_of_lt_succ (Nat.lt_of_le_of_ne hdl fun e => ?_)
      obtain ⟨k, hk, h2⟩ := hdeep.1 e
      rcases UpOk.cS_cases h hu 40 k hk with h3 | ⟨q, hq, h3, h4⟩
      · rw [h3] at h2; omega
      · have : q = r := by omega
        subst this
        have := hall k hk (by rw [← h4]; exact h1.1)
        rw [this] at h3
        omega
theorem count_part {f : Nat → Int} {p : Nat → Bool} (L : List Nat) : ∀ (T : List Int), T.Nodup → L.countP (fun k => decide (f k ∈ T) && p k) = (T.map (fun t => L.countP (fun k => decide (f k = t) && p k))).sum
 | [], _ => by
  rw [List.map_nil, List.sum_nil, List.countP_eq_zero]
  simp
 | t :: r, hn => by
  rw [List.nodup_cons] at hn
  rw [List.map_cons, List.sum_cons, ← count_part L r hn.2, ← count_or L (fun k _ ⟨h1, h2⟩ => by
   simp only [Bool.and_eq_true, decide_eq_true_eq] at h1 h2
   exact hn.1 (h1.1 ▸ h2.1))]
  refine List.countP_congr fun k hk => ?_
  simp only [Bool.and_eq_true, Bool.or_eq_true, decide_eq_true_eq, List.mem_cons]
  constructor
  ·rintro ⟨h1 | h1, h2⟩
   ·exact .inl ⟨h1, h2⟩
   ·exact .inr ⟨h1, h2⟩
  ·rintro (⟨h1, h2⟩ | ⟨h1, h2⟩)
   ·exact ⟨.inl h1, h2⟩
   ·exact ⟨.inr h1, h2⟩
theorem sum_ones : ∀ (l : List Int) (f : Int → Nat), (∀ t ∈ l, f t = 1) → (l.map f).sum = l.length
 | [], _, _ => rfl
 | t :: r, f, h => by
  rw [List.map_cons, List.sum_cons, List.length_cons, h t (by simp), sum_ones r f (fun x hx => h x (by simp [hx])), Nat.add_comm]
theorem tree_mem {ns : List EN} {k : Nat} (hk : k < ns.length) : ns[k]!.tree ∈ treesE ns := by
 unfold treesE
 rw [setT_mem]
 exact List.mem_map.2 ⟨ns[k]!, by rw [getElem!_pos ns k hk]; exact List.getElem_mem hk, rfl⟩
theorem trees_nodup (ns : List EN) : (treesE ns).Nodup := by
 unfold treesE
 exact (setT_sorted _).imp (fun h => by intro e; omega)
theorem forest_two {ns : List EN} (hn : numsE ns = true) (hk : kidE ns = true) : forestR ns = forestE ns := by
 have h := num_ok hn hk
 unfold forestR forestE
 rw [pars_up h]
 rcases up_all h with ⟨up, h1, hu⟩ | ⟨h1, _⟩
 ·rw [h1]
  simp only [Option.isSome_some, Bool.true_and]
  have hroots : ∀ t, (rootsR ns t).length = rootsE ns up t := fun t => by rw [UpOk.roots h hu t]; rfl
  rw [Bool.eq_iff_iff, Bool.and_eq_true, Bool.and_eq_true, List.all_eq_true, List.all_eq_true, decide_eq_true_eq]
  unfold singleE
  rw [List.all_eq_true]
  have hgo : ∀ k, k < ns.length → (okE up 39 (up[k]?.getD 0) = true ↔ cS up 40 (k : Int) = -1) := by
   intro k hk
   rw [ok_cS, decide_eq_true_eq]
   show _ ↔ cS up 39 (upS up (k : Int)) = -1
   have : upS up (k : Int) = up[k]?.getD 0 := by
    unfold upS
    rw [if_neg (by omega), Int.toNat_natCast]
    have h9 : k < up.length := by rw [hu.len]; exact hk
    rw [List.getElem?_eq_getElem h9]; rfl
   rw [this]
  constructor
  ·intro hT
   have hS : ∀ t ∈ treesE ns, rootsE ns up t = 1 := by
    intro t ht
    have := hT t ht
    unfold treeR at this
    simp only [Bool.and_eq_true, decide_eq_true_eq] at this
    rw [← hroots]; exact this.1
   refine ⟨fun k hk => ?_, ?_, fun t ht => by rw [decide_eq_true_eq]; exact hS t ht⟩
   ·rw [List.mem_range] at hk
    rw [hgo k hk]
    have := hT _ (tree_mem hk)
    unfold treeR at this
    simp only [Bool.and_eq_true, decide_eq_true_eq] at this
    exact (tree_ok h hu this.1).1 this.2 k hk rfl
   ·rw [← sum_ones (treesE ns) (rootsE ns up) hS]
    have e1 : (up.filter (fun x => decide (x = -1))).length = (List.range ns.length).countP (fun k => decide (ns[k]!.tree ∈ treesE ns) && decide (up[k]?.getD 0 = -1)) := by
     rw [← List.countP_eq_length_filter, ← hu.len]
     have : up = (List.range up.length).map (fun k => up[k]?.getD 0) := by
      apply List.ext_getElem
      ·simp
      ·intro i h1 h2
       simp [List.getElem?_eq_getElem h1]
     conv => lhs; rw [this]
     rw [List.countP_map]
     refine List.countP_congr fun k hk => ?_
     rw [List.mem_range, hu.len] at hk
     rw [Function.comp, decide_eq_true (tree_mem hk), Bool.true_and]
    rw [e1, count_part _ _ (trees_nodup ns)]
    congr 1
    refine List.map_congr_left fun t _ => ?_
    unfold rootsE
    rw [List.countP_eq_length_filter]
  ·rintro ⟨h2, _, h3⟩ t ht
   have hr : (rootsR ns t).length = 1 := by rw [hroots]; simpa using h3 t ht
   unfold treeR
   simp only [Bool.and_eq_true, decide_eq_true_eq]
   refine ⟨hr, (tree_ok h hu hr).2 fun k hk _ => ?_⟩
   exact (hgo k hk).1 (h2 k (List.mem_range.2 hk))
 ·rw [h1]; rfl
end Go.Proofs.YtcpfanpcdkoiaaaGreat

namespace Go.Proofs.YtcpfanpcdkoiaaaGreat
open Go.RowKit


def OwnsK (K base : Nat) (e : TypeId) (w : World) (v : Value) (n : Nat) (xs : List Value) : Prop := w.ownsRow base e K v n xs
theorem OwnsK.nil (K base : Nat) (e : TypeId) (w : World) : OwnsK K base e w (.slice none 0 0) 0 [] := World.ownsRow_nil _ _ _ _
theorem OwnsK.len {K base : Nat} {e : TypeId} {w : World} {v : Value} {n : Nat} {xs : List Value} (h : OwnsK K base e w v n xs) : xs.length = n * K := h.1
theorem OwnsK.shape {K base : Nat} {e : TypeId} {w : World} {v : Value} {n : Nat} {xs : List Value} (h : OwnsK K base e w v n xs) :
  (v = .slice none 0 0 ∧ n = 0) ∨ ∃ g cap, v = .slice (some ⟨g, 0, none⟩) n cap ∧ base ≤ g ∧ g < w.heap.size ∧ n ≤ cap ∧ cap ≤ maxLen ∧
   (∀ j, j < n * K → w.cell? ⟨g, j, none⟩ = xs[j]?) ∧ (∀ j, w.frozen? ⟨g, j, none⟩ = false) := by
 have h0 := h
 obtain ⟨h1, ⟨rfl, hn⟩ | ⟨g, cap, cur, rfl, h2, h3, h4, h5, h6, h7⟩⟩ := h
 ·exact .inl ⟨rfl, hn⟩
 ·exact .inr ⟨g, cap, rfl, h2, (Array.getElem?_eq_some_iff.1 h3).1, h4, h5, fun j hj => World.ownsRow.cellAt h0 j (by omega), fun j => World.ownsRow.frozenAt h0 j⟩
theorem OwnsK.kept {K base : Nat} {e : TypeId} {w w' : World} {v : Value} {n : Nat} {xs : List Value} (h : OwnsK K base e w v n xs) (hb : Below w.heap.size w w') : OwnsK K base e w' v n xs :=
 World.ownsRow.kept (row := none) h ⟨hb.os, hb.tape, hb.output, hb.size, fun k hk _ => hb.block k hk⟩ (by cases hv : v.ownBlock <;> simp)
theorem OwnsK.alloc {K base : Nat} {e : TypeId} {w : World} {v : Value} {n : Nat} {xs : List Value} (h : OwnsK K base e w v n xs) (o : Obj) : OwnsK K base e (w.alloc o) v n xs := World.ownsRow.alloc h o
theorem OwnsK.mono {K base base' : Nat} {e : TypeId} {w : World} {v : Value} {n : Nat} {xs : List Value} (h : OwnsK K base e w v n xs) (hb : base' ≤ base) : OwnsK K base' e w v n xs := by
 obtain ⟨h1, h2 | ⟨g, cap, cur, h2, h3, h4⟩⟩ := h
 ·exact ⟨h1, .inl h2⟩
 ·exact ⟨h1, .inr ⟨g, cap, cur, h2, by omega, h4⟩⟩
structure ElemK (P : Program) (t e : TypeId) (z : Value) (K bytes : Nat) : Prop where
 und : P.underlying t = some (.slice e)
 info : ∃ i, P.info? e = some i ∧ i.zero = some z ∧ i.size = K ∧ i.bytes = bytes
 many : z.cells.size = K
 pos : 0 < K
theorem elemK_of {P : Program} {t e : TypeId} {z : Value} {K bytes : Nat} (h1 : P.underlying t = some (.slice e)) (h2 : (P.info? e).map (fun i => (i.zero, i.size, i.bytes)) = some (some z, K, bytes)) (h3 : z.cells.size = K) (h4 : 0 < K) : ElemK P t e z K bytes :=
 ⟨h1, info_parts h2, h3, h4⟩
end Go.Proofs.YtcpfanpcdkoiaaaGreat
