/-
  Pi10: SeqF RatA RatB (what is needed of them).
-/
import Derived.Test.YtlmjkbdodecbmaaGreatDoorPi06
import Derived.Test.YtlmjkbdodecbmaaGreatDoorPi09
import Derived.OwnWalkIn

namespace Go.Proofs.YtlmjkbdodecbmaaGreatDoor
open Go.RowKit
set_option linter.unusedVariables false
/-- A block that may be made at any time: the operation's number, its slot, what stands in the block at first. -/
structure Fl where
  i : Nat
  d : Nat
  z : Obj
/-- Two states that differ in these slots alone. -/
structure Same (D : List Nat) (a a' : Act) : Prop where
  defers : a'.defers = a.defers
  size : a'.tmps.size = a.tmps.size
  slot : ∀ s, s ∉ D → a'.tmps[s]? = a.tmps[s]?
theorem Same.refl (D : List Nat) (a : Act) : Same D a a := ⟨rfl, rfl, fun _ _ => rfl⟩
theorem Same.put {D : List Nat} {a a' : Act} (h : Same D a a') (d : Option Tmp) (v : Value) : Same D (a.put d v) (a'.put d v) := by
  cases d with
  | none => exact h
  | some d =>
    refine ⟨h.defers, by simp [Act.put, h.size], fun s hs => ?_⟩
    simp only [Act.put, Array.getElem?_setIfInBounds, h.size]
    split
    · rfl
    · exact h.slot s hs
theorem Same.putIn {D : List Nat} {a a' : Act} (h : Same D a a') {d : Nat} (hd : d ∈ D) (v : Value) : Same D a (a'.put (some d) v) := by
  refine ⟨h.defers, by simp [Act.put, h.size], fun s hs => ?_⟩
  simp only [Act.put, Array.getElem?_setIfInBounds]
  rw [if_neg (fun e => by subst e; exact hs hd)]
  exact h.slot s hs
theorem Act.ext' {a b : Act} (h : a.tmps = b.tmps) (hd : a.defers = b.defers) : a = b := by
  cases a; cases b; cases h; cases hd; rfl
theorem Same.one {d : Nat} {a a' : Act} (h : Same [d] a a') : a' = a.put (some d) (a'.tmps.getD d undef) := by
  refine Act.ext' (Array.ext_getElem? fun i => ?_) h.defers
  simp only [Act.put, Array.getElem?_setIfInBounds]
  split
  · rename_i e
    subst e
    rw [← h.size]
    split
    · rename_i h1; simp [h1]
    · rename_i h1; simp [h1]
  · rename_i e
    exact h.slot i (by simpa using fun e2 => e e2.symm)
theorem Same.two {d e : Nat} {a a' : Act} (h : Same [d, e] a a') : a' = (a.put (some d) (a'.tmps.getD d undef)).put (some e) (a'.tmps.getD e undef) := by
  refine Act.ext' (Array.ext_getElem? fun i => ?_) h.defers
  simp only [Act.put, Array.getElem?_setIfInBounds, Array.size_setIfInBounds]
  split
  · rename_i e
    subst e
    rw [← h.size]
    split
    · rename_i h1; simp [h1]
    · rename_i h1; simp [h1]
  · split
    · rename_i e
      subst e
      rw [← h.size]
      split
      · rename_i h1; simp [h1]
      · rename_i h1; simp [h1]
    · rename_i e2 e1
      exact h.slot i (by simp only [List.mem_cons, List.not_mem_nil, or_false, not_or]; exact ⟨fun e3 => e1 e3.symm, fun e3 => e2 e3.symm⟩)
/-- The block lies there. -/
def At (base : Nat) (a : Act) (w : World) (f : Fl) : Prop := ∃ g, a.tmps.getD f.d undef = .pointer (some ⟨g, 0, none⟩) ∧ base ≤ g ∧ w.heap[g]? = some f.z
section
variable {P : Program} {ops : Array Oper} {Q : Exit → Act → World → Prop} {S : World → Prop}
/-- The walk in one order, blocks coming up in between. -/
def wpSeqF (P : Program) (ops : Array Oper) (Q : Exit → Act → World → Prop) (S : World → Prop) (base : Nat) (fs : List Fl) (l2 : List (Bool × Nat)) : List (Bool × Oper) → Act → World → Prop
  | [], a, w => ∀ a' w', Same (fs.map (·.d)) a a' → Below w.heap.size w w' → S w' → (∀ f ∈ fs, At base a' w' f) → (∀ f ∈ fs, ∀ f' ∈ fs, f.i ≠ f'.i → a'.tmps.getD f.d undef ≠ a'.tmps.getD f'.d undef) → wpSeqH P ops Q S (pickOps ops l2) a' w'
  | (true, o) :: rest, a, w => ∃ v, (∀ a', Same (fs.map (·.d)) a a' → YieldsIf P ops S o v a') ∧ wpSeqF P ops Q S base fs l2 rest (a.put o.dst v) w
  | (false, o) :: rest, a, w => ∀ a' w', Same (fs.map (·.d)) a a' → Below w.heap.size w w' → S w' → ∀ K : Act → World → Prop, Shut (∀ v w'', S w'' → Below w'.heap.size w' w'' → wpSeqF P ops Q S base fs l2 rest (a'.put o.dst v) w'' → K (a'.put o.dst v) w'') →
      Region.wanted o (yielded ops a'.tmps) = true ∧ Oper.wp P o a' w' K Q
theorem Same.trans {D : List Nat} {a b c : Act} (h : Same D a b) (h' : Same D b c) : Same D a c :=
  ⟨h'.defers.trans h.defers, h'.size.trans h.size, fun s hs => (h'.slot s hs).trans (h.slot s hs)⟩
theorem Same.symm {D : List Nat} {a b : Act} (h : Same D a b) : Same D b a :=
  ⟨h.defers.symm, h.size.symm, fun s hs => (h.slot s hs).symm⟩
theorem wpSeqF.same {base : Nat} {fs : List Fl} {l2 : List (Bool × Nat)} : ∀ (l : List (Bool × Oper)) {a b : Act} {w w' : World}, Same (fs.map (·.d)) a b → Below w.heap.size w w' → wpSeqF P ops Q S base fs l2 l a w → wpSeqF P ops Q S base fs l2 l b w'
  | [], a, b, w, w', hs, hb, h => fun a' w'' h1 h2 h3 h4 h5 => h a' w'' (hs.trans h1) (hb.trans (h2.mono hb.size)) h3 h4 h5
  | (true, o) :: rest, a, b, w, w', hs, hb, h => by
    obtain ⟨v, hy, h⟩ := h
    exact ⟨v, fun a' h1 => hy a' (hs.trans h1), wpSeqF.same rest (hs.put _ _) hb h⟩
  | (false, o) :: rest, a, b, w, w', hs, hb, h => fun a' w'' h1 h2 h3 => h a' w'' (hs.trans h1) (hb.trans (h2.mono hb.size)) h3
/-- Is the order one that the region allows, wherever the blocks come up? -/
def okF (ops : Array Oper) (l2 : List (Bool × Nat)) : Nat → List (Bool × Nat) → List Nat → Array Bool → Bool
  | 0, _, _, _ => false
  | n + 1, (true, i) :: r, us, listed => Region.free .any ops listed i && (Region.ready .any ops listed).contains i && okF ops l2 n r us (listed.setIfInBounds i true)
  | n + 1, (false, i) :: r, us, listed => ((Region.ready .any ops listed).all fun j => j == i || us.contains j) && !(Region.ready .any ops listed).isEmpty && (!(Region.ready .any ops listed).contains i || okF ops l2 n r us (listed.setIfInBounds i true)) &&
      us.all fun j => okF ops l2 n ((false, i) :: r) (us.erase j) (listed.setIfInBounds j true)
  | n + 1, [], [], listed => seqOk ops l2 listed
  | n + 1, [], us, listed => ((Region.ready .any ops listed).all fun j => us.contains j) && !(Region.ready .any ops listed).isEmpty && us.all fun j => okF ops l2 n [] (us.erase j) (listed.setIfInBounds j true)
/-- What each block's operation is. -/
def FlOk (P : Program) (ops : Array Oper) (Q : Exit → Act → World → Prop) (f : Fl) : Prop := ∃ o, ops[f.i]? = some o ∧ o.dst = some f.d ∧ (∀ t, Region.wanted o t = true) ∧
  ∀ (a : Act) (w : World) (K : Act → World → Prop), K (a.put (some f.d) (.pointer (some ⟨w.heap.size, 0, none⟩))) (w.alloc f.z) → Oper.wp P o a w K Q
theorem wpAnyH_of_seqF (hs : Region.noSelect ops = true) (hQ : ∀ d v c a w, Q (.panic c) (a.put d v) w → Q (.panic c) a w) (base : Nat) (fs : List Fl) (l2 : List (Bool × Nat))
    (hl2 : (l2.all fun x => decide (x.2 < ops.size)) = true) (hF : ∀ f ∈ fs, FlOk P ops Q f) (hSa : ∀ w o, S w → S (w.alloc o)) :
    ∀ (n : Nat) (l : List (Bool × Nat)) (us : List Nat) (listed : Array Bool) (a a' : Act) (w w' : World), okF ops l2 n l us listed = true → (l.all fun x => decide (x.2 < ops.size)) = true →
      (∀ j ∈ us, ∃ f ∈ fs, f.i = j) → us.Nodup → Same (fs.map (·.d)) a a' → Below w.heap.size w w' → base ≤ w.heap.size → S w' →
      (∀ f ∈ fs, f.i ∉ us → At base a' w' f) → (∀ f ∈ fs, ∀ f' ∈ fs, f.i ≠ f'.i → f.i ∉ us → f'.i ∉ us → a'.tmps.getD f.d undef ≠ a'.tmps.getD f'.d undef) →
      (∀ f ∈ fs, ∀ f' ∈ fs, f.i = f'.i → f = f') → (∀ f ∈ fs, ∀ f' ∈ fs, f.i ≠ f'.i → f.d ≠ f'.d) → (∀ x ∈ pickOps ops l, ∀ d, x.2.dst = some d → d ∉ fs.map (·.d)) → (∀ f ∈ fs, f.d < a.tmps.size) →
      wpSeqF P ops Q S base fs l2 (pickOps ops l) a w → wpAnyH P .any ops Q S (l.length + us.length + l2.length) listed a' w'
  | 0, _, _, _, _, _, _, _, hk => by simp [okF] at hk
  | n + 1, l, us, listed, a, a', w, w', hk => by
    intro hlt hus hnd hsa hb hbase hS hAt hne hii hdd hdst hsz h
    have float : ∀ j ∈ us, j ∈ Region.ready .any ops listed → okF ops l2 n l (us.erase j) (listed.setIfInBounds j true) = true →
        wpOp P ops Q j (fun a2 w2 => S w2 ∧ wpAnyH P .any ops Q S (l.length + (us.erase j).length + l2.length) (listed.setIfInBounds j true) a2 w2) a' w' := by
      intro j hj hr hk2
      obtain ⟨f, hf, rfl⟩ := hus j hj
      obtain ⟨o, ho, hd, hw, hstep⟩ := hF f hf
      unfold wpOp
      rw [ho]
      simp only [hw, if_true]
      refine .inl (hstep _ _ _ ⟨hSa _ _ hS, ?_⟩)
      have hfd : f.d ∈ fs.map (·.d) := List.mem_map_of_mem hf
      have hall : Below w'.heap.size w' (w'.alloc f.z) := (Below.refl _ _).alloc (Nat.le_refl _) _
      have hszf : f.d < a'.tmps.size := by rw [hsa.size]; exact hsz f hf
      have hget : (a'.put (some f.d) (.pointer (some ⟨w'.heap.size, 0, none⟩))).tmps.getD f.d undef = .pointer (some ⟨w'.heap.size, 0, none⟩) := by
        simp [Act.put, Array.getD, hszf]
      have hget2 : ∀ e, e ≠ f.d → (a'.put (some f.d) (.pointer (some ⟨w'.heap.size, 0, none⟩))).tmps.getD e undef = a'.tmps.getD e undef := by
        intro e he
        simp only [Array.getD_eq_getD_getElem?, Act.put, Array.getElem?_setIfInBounds]
        rw [if_neg (fun h2 => he h2.symm)]
      have hold : ∀ f' ∈ fs, f'.i ≠ f.i → f'.i ∉ us → At base (a'.put (some f.d) (.pointer (some ⟨w'.heap.size, 0, none⟩))) (w'.alloc f.z) f' := by
        intro f' hf' hne2 hnu
        obtain ⟨g, h1, h2, h3⟩ := hAt f' hf' hnu
        refine ⟨g, by rw [hget2 _ (hdd f' hf' f hf hne2), h1], h2, ?_⟩
        have hg : g < w'.heap.size := by
          rcases Nat.lt_or_ge g w'.heap.size with h4 | h4
          · exact h4
          · rw [Array.getElem?_eq_none h4] at h3; cases h3
        rw [← h3]
        exact hall.block g hg
      have hmem : ∀ x, x ∉ us.erase f.i → x = f.i ∨ x ∉ us := by
        intro x hx
        by_cases hxf : x = f.i
        · exact .inl hxf
        · exact .inr (fun h2 => hx ((List.mem_erase_of_ne hxf).2 h2))
      have hnew : At base (a'.put (some f.d) (.pointer (some ⟨w'.heap.size, 0, none⟩))) (w'.alloc f.z) f :=
        ⟨w'.heap.size, hget, Nat.le_trans hbase hb.size, by show (w'.heap.push f.z)[w'.heap.size]? = _; simp⟩
      have hptr : ∀ f' ∈ fs, f'.i ≠ f.i → f'.i ∉ us → a'.tmps.getD f'.d undef ≠ .pointer (some ⟨w'.heap.size, 0, none⟩) := by
        intro f' hf' hne2 hnu h4
        obtain ⟨g, h1, h2, h3⟩ := hAt f' hf' hnu
        rw [h1] at h4
        injection h4 with h4
        injection h4 with h4
        injection h4 with h4
        subst h4
        rw [Array.getElem?_eq_none (Nat.le_refl _)] at h3
        cases h3
      refine wpAnyH_of_seqF hs hQ base fs l2 hl2 hF hSa n l (us.erase f.i) _ a _ w _ hk2 hlt (fun j hj => hus j (List.mem_of_mem_erase hj)) (hnd.erase _) (hsa.putIn hfd _) (hb.trans (hall.mono hb.size)) hbase (hSa _ _ hS) ?_ ?_ hii hdd hdst hsz h
      · intro f' hf' hnu
        by_cases hi : f'.i = f.i
        · rw [hii f' hf' f hf hi]; exact hnew
        · rcases hmem _ hnu with h4 | h4
          · exact (hi h4).elim
          · exact hold f' hf' hi h4
      · intro f1 hf1 f2 hf2 h12 hn1 hn2
        by_cases hi1 : f1.i = f.i
        · have hi2 : f2.i ≠ f.i := fun h4 => h12 (hi1.trans h4.symm)
          have e1 := hii f1 hf1 f hf hi1
          rw [e1, hget, hget2 _ (hdd f2 hf2 f hf hi2)]
          rcases hmem _ hn2 with h4 | h4
          · exact (hi2 h4).elim
          · exact fun h5 => hptr f2 hf2 hi2 h4 h5.symm
        · rcases hmem _ hn1 with h3 | h3
          · exact (hi1 h3).elim
          by_cases hi2 : f2.i = f.i
          · have e2 := hii f2 hf2 f hf hi2
            rw [e2, hget, hget2 _ (hdd f1 hf1 f hf hi1)]
            exact hptr f1 hf1 hi1 h3
          · rcases hmem _ hn2 with h4 | h4
            · exact (hi2 h4).elim
            rw [hget2 _ (hdd f1 hf1 f hf hi1), hget2 _ (hdd f2 hf2 f hf hi2)]
            exact hne f1 hf1 f2 hf2 h12 h3 h4
    have keepAt : ∀ (d : Option Tmp) (v : Value) (w'' : World), (∀ e, d = some e → e ∉ fs.map (·.d)) → Below w'.heap.size w' w'' → (∀ f ∈ fs, f.i ∉ us → At base (a'.put d v) w'' f) ∧ (∀ f ∈ fs, (a'.put d v).tmps.getD f.d undef = a'.tmps.getD f.d undef) := by
      intro d v w'' hd hw
      have h1 : ∀ f ∈ fs, (a'.put d v).tmps.getD f.d undef = a'.tmps.getD f.d undef := by
        intro f hf
        cases d with
        | none => rfl
        | some e =>
          simp only [Array.getD_eq_getD_getElem?, Act.put, Array.getElem?_setIfInBounds]
          rw [if_neg (fun h2 => hd e rfl (by rw [h2]; exact List.mem_map_of_mem hf))]
      refine ⟨fun f hf hnu => ?_, h1⟩
      obtain ⟨g, g1, g2, g3⟩ := hAt f hf hnu
      have hg : g < w'.heap.size := by
        rcases Nat.lt_or_ge g w'.heap.size with h4 | h4
        · exact h4
        · rw [Array.getElem?_eq_none h4] at g3; cases g3
      exact ⟨g, by rw [h1 f hf, g1], g2, by rw [hw.block g hg, g3]⟩
    have hpk : ∀ (b : Bool) (i : Nat) (r : List (Bool × Nat)) (o : Oper), ops[i]? = some o → pickOps ops ((b, i) :: r) = (b, o) :: pickOps ops r := by
      intro b i r o ho; simp only [pickOps, ho]
    match l with
    | (true, i) :: r =>
      simp only [List.all_cons, Bool.and_eq_true, decide_eq_true_eq] at hlt
      have ho : ops[i]? = some ops[i] := Array.getElem?_eq_getElem hlt.1
      rw [hpk _ _ _ _ ho] at h hdst
      simp only [okF, Bool.and_eq_true] at hk
      obtain ⟨v, hy, h⟩ := h
      have hfu : ((true, i) :: r).length + us.length + l2.length = r.length + us.length + l2.length + 1 := by simp only [List.length_cons]; omega
      rw [hfu]
      have hd : ∀ e, ops[i].dst = some e → e ∉ fs.map (·.d) := hdst _ (List.mem_cons_self ..)
      obtain ⟨k1, k2⟩ := keepAt ops[i].dst v w' hd (Below.refl _ _)
      refine wpAnyH_take ho hs hk.1.1 hk.1.2 (fun c a w => hQ _ _ c a w) (hy a' hsa) hS (wpAnyH_of_seqF hs hQ base fs l2 hl2 hF hSa n r us _ (a.put ops[i].dst v) _ w w' hk.2 hlt.2 hus hnd (hsa.put _ _) hb hbase hS k1 ?_ hii hdd (fun x hx => hdst x (List.mem_cons_of_mem _ hx)) ?_ h)
      · intro f1 hf1 f2 hf2 h12 hn1 hn2
        rw [k2 f1 hf1, k2 f2 hf2]
        exact hne f1 hf1 f2 hf2 h12 hn1 hn2
      · intro f hf
        have := hsz f hf
        cases ops[i].dst <;> simpa [Act.put] using this
    | (false, i) :: r =>
      have hlt2 := hlt
      simp only [List.all_cons, Bool.and_eq_true, decide_eq_true_eq] at hlt2
      have ho : ops[i]? = some ops[i] := Array.getElem?_eq_getElem hlt2.1
      have h0 := h
      have hdst0 := hdst
      rw [hpk _ _ _ _ ho] at h hdst
      simp only [okF, Bool.and_eq_true, Bool.or_eq_true, Bool.not_eq_true', List.all_eq_true, List.contains_eq_mem, decide_eq_true_eq, beq_iff_eq] at hk
      obtain ⟨⟨⟨hk1, hk2⟩, hk3⟩, hk4⟩ := hk
      have hfu : ((false, i) :: r).length + us.length + l2.length = r.length + us.length + l2.length + 1 := by simp only [List.length_cons]; omega
      rw [hfu]
      refine wpAnyH_all rfl (fun e => by rw [e] at hk2; simp at hk2) fun j hj => ?_
      by_cases hju : j ∈ us
      · have := float j hju hj (hk4 j hju)
        have hle : ((false, i) :: r).length + (us.erase j).length + l2.length = r.length + us.length + l2.length := by
          have h7 := List.length_erase_of_mem hju
          have h8 : 0 < us.length := List.length_pos_of_mem hju
          simp only [List.length_cons]; omega
        rwa [hle] at this
      · have hji : j = i := (hk1 j hj).resolve_right hju
        subst hji
        have hk5 := hk3.resolve_left (by rw [decide_eq_false_iff_not]; exact fun h9 => h9 hj)
        have hd : ∀ e, ops[j].dst = some e → e ∉ fs.map (·.d) := hdst _ (List.mem_cons_self ..)
        have hstep := h a' w' hsa hb hS (fun a2 w2 => S w2 ∧ wpAnyH P .any ops Q S (r.length + us.length + l2.length) (listed.setIfInBounds j true) a2 w2) (fun v w'' hS'' hb'' hw => by
          obtain ⟨k1, k2⟩ := keepAt ops[j].dst v w'' hd hb''
          refine ⟨hS'', wpAnyH_of_seqF hs hQ base fs l2 hl2 hF hSa n r us _ (a'.put ops[j].dst v) _ w'' w'' hk5 hlt2.2 hus hnd (Same.refl _ _) (Below.refl _ _) (Nat.le_trans hbase (Nat.le_trans hb.size hb''.size)) hS'' k1 ?_ hii hdd (fun x hx => hdst x (List.mem_cons_of_mem _ hx)) ?_ hw⟩
          · intro f1 hf1 f2 hf2 h12 hn1 hn2
            rw [k2 f1 hf1, k2 f2 hf2]
            exact hne f1 hf1 f2 hf2 h12 hn1 hn2
          · intro f hf
            have h7 := hsz f hf
            rw [← hsa.size] at h7
            cases ops[j].dst <;> simpa [Act.put] using h7)
        unfold wpOp
        rw [ho]
        simp only [hstep.1, if_true]
        exact .inl hstep.2
    | [] =>
      rcases us with _ | ⟨u, vs⟩
      · have hk : seqOk ops l2 listed = true := hk
        have := h a' w' hsa hb hS (fun f hf => hAt f hf (by simp)) (fun f1 hf1 f2 hf2 h12 => hne f1 hf1 f2 hf2 h12 (by simp) (by simp))
        have h9 := wpAnyH_of_seq (P := P) (Q := Q) (S := S) hs hQ l2 listed a' w' hk hl2 hS this
        simpa using h9
      · have hk : (((Region.ready .any ops listed).all fun j => (u :: vs).contains j) && !(Region.ready .any ops listed).isEmpty && (u :: vs).all fun j => okF ops l2 n [] ((u :: vs).erase j) (listed.setIfInBounds j true)) = true := hk
        simp only [Bool.and_eq_true, Bool.not_eq_true', List.all_eq_true, List.contains_eq_mem, decide_eq_true_eq] at hk
        obtain ⟨⟨hk1, hk2⟩, hk4⟩ := hk
        have hfu : ([] : List (Bool × Nat)).length + (u :: vs).length + l2.length = vs.length + l2.length + 1 := by simp only [List.length_cons, List.length_nil]; omega
        rw [hfu]
        refine wpAnyH_all rfl (fun e => by rw [e] at hk2; simp at hk2) fun j hj => ?_
        have hju := hk1 j hj
        have := float j hju hj (hk4 j hju)
        have hle : ([] : List (Bool × Nat)).length + ((u :: vs).erase j).length + l2.length = vs.length + l2.length := by
          have h7 := List.length_erase_of_mem hju
          simp only [List.length_nil]; simp only [List.length_cons] at h7; omega
        rwa [hle] at this
theorem wp_region_seqF {id : Nat} {a : Act} {w : World} (fs : List Fl) (l l2 : List (Bool × Nat)) (hm : P.follows .mixedOrders = true) (hs : Region.noSelect ops = true) (hl : l.length + (fs.map (·.i)).length + l2.length = ops.size)
    (hlt : (l.all fun x => decide (x.2 < ops.size)) = true) (hlt2 : (l2.all fun x => decide (x.2 < ops.size)) = true) (hk : okF ops l2 (l.length + fs.length + 1) l (fs.map (·.i)) (Array.replicate ops.size false) = true)
    (hn : (fs.map (·.i)).Nodup) (hd : (fs.map (·.d)).Nodup) (hp : ((pickOps ops l).all fun x => match x.2.dst with | some d => !(fs.map (·.d)).contains d | none => true) = true) (hz : (fs.all fun f => decide (f.d < a.tmps.size)) = true)
    (hF : ∀ f ∈ fs, FlOk P ops Q f) (hSa : ∀ w o, S w → S (w.alloc o)) (hQ : ∀ d v c a w, Q (.panic c) (a.put d v) w → Q (.panic c) a w) (hS : S w.drew)
    (h : wpSeqF P ops Q S w.heap.size fs l2 (pickOps ops l) a w.drew) : (Code.region id ops true).wp P Q a w := by
  refine wp_region_held_drew hm hS fun hS' => ?_
  have inj : ∀ (g : Fl → Nat), (fs.map g).Nodup → ∀ f ∈ fs, ∀ f' ∈ fs, g f = g f' → f = f' := by
    intro g hg
    clear hl hk hn hd hp hz hF h
    induction fs with
    | nil => intro f hf; cases hf
    | cons x xs ih =>
      simp only [List.map_cons, List.nodup_cons] at hg
      intro f hf f' hf' e
      rcases List.mem_cons.1 hf with rfl | h1
      · rcases List.mem_cons.1 hf' with rfl | h2
        · rfl
        · exact (hg.1 (e ▸ List.mem_map_of_mem h2)).elim
      · rcases List.mem_cons.1 hf' with rfl | h2
        · exact (hg.1 (e ▸ List.mem_map_of_mem h1)).elim
        · exact ih hg.2 f h1 f' h2 e
  have := wpAnyH_of_seqF (P := P) (Q := Q) (S := S) hs hQ w.heap.size fs l2 hlt2 hF hSa _ l (fs.map (·.i)) _ a a w.drew w.drew hk hlt (fun j hj => by obtain ⟨f, hf, e⟩ := List.mem_map.1 hj; exact ⟨f, hf, e⟩) hn (Same.refl _ _) (Below.refl _ _) (Nat.le_refl _) hS'
    (fun f hf hx => (hx (List.mem_map_of_mem hf)).elim) (fun f hf f' hf' _ hx => (hx (List.mem_map_of_mem hf)).elim) (inj _ hn) (fun f hf f' hf' hne e => hne (congrArg (·.i) (inj _ hd f hf f' hf' e)))
    (fun x hx d hxd => by
      have h1 := List.all_eq_true.1 hp x hx
      rw [hxd] at h1
      simpa using h1) (fun f hf => by simpa using List.all_eq_true.1 hz f hf) h
  rwa [hl] at this
/-- An alloc may come up at any time. -/
theorem FlOk.alloc {i d : Nat} {z : Obj} {o : Oper} (ho : ops[i]? = some o) (hd : o.dst = some d) (hg : o.guard = none) (hr : ∀ (f : Operand → Value) (w : World), (execOp f o).run P w = .ok (.value (.pointer (some ⟨w.heap.size, 0, none⟩))) (w.alloc z)) : FlOk P ops Q ⟨i, d, z⟩ := by
  refine ⟨o, ho, hd, fun t => ?_, fun a w K hK => ?_⟩
  · simp [Region.wanted, hg]
  · unfold Oper.wp
    rw [hr, Oper.upon_value, hd]
    exact hK
theorem seqF_take {base : Nat} {fs : List Fl} {l2 : List (Bool × Nat)} {o : Oper} {rest : List (Bool × Oper)} {a : Act} {w : World} {v : Value} (hw : ∀ t, Region.wanted o t = true) (hy : ∀ a', Same (fs.map (·.d)) a a' → ∀ w, S w → (execOp a'.eval o).run P w = .ok (.value v) w)
    (h : wpSeqF P ops Q S base fs l2 rest (a.put o.dst v) w) : wpSeqF P ops Q S base fs l2 ((true, o) :: rest) a w := ⟨v, fun a' ha => .inl ⟨hw _, hy a' ha⟩, h⟩
theorem seqF_step {base : Nat} {fs : List Fl} {l2 : List (Bool × Nat)} {o : Oper} {rest : List (Bool × Oper)} {a : Act} {w : World} (hw : ∀ t, Region.wanted o t = true)
    (h : ∀ a' w', Same (fs.map (·.d)) a a' → Below w.heap.size w w' → S w' → ∀ K : Act → World → Prop, Shut (∀ v w'', S w'' → Below w'.heap.size w' w'' → wpSeqF P ops Q S base fs l2 rest (a'.put o.dst v) w'' → K (a'.put o.dst v) w'') → Oper.wp P o a' w' K Q) :
    wpSeqF P ops Q S base fs l2 ((false, o) :: rest) a w := fun a' w' h1 h2 h3 K hK => ⟨hw _, h a' w' h1 h2 h3 K hK⟩
theorem seqF_end {base : Nat} {fs : List Fl} {l2 : List (Bool × Nat)} {a : Act} {w : World}
    (h : ∀ a' w', Same (fs.map (·.d)) a a' → Below w.heap.size w w' → S w' → (∀ f ∈ fs, At base a' w' f) → (∀ f ∈ fs, ∀ f' ∈ fs, f.i ≠ f'.i → a'.tmps.getD f.d undef ≠ a'.tmps.getD f'.d undef) → wpSeqH P ops Q S (pickOps ops l2) a' w') :
    wpSeqF P ops Q S base fs l2 [] a w := h
/-- One block, by its slot. -/
theorem At.slot {base i d : Nat} {z : Obj} {t : Array Value} {ds : List Deferred} {w : World} {x : Value} (h : At base ⟨t, ds⟩ w ⟨i, d, z⟩) (hx : t.getD d undef = x) : ∃ g, x = .pointer (some ⟨g, 0, none⟩) ∧ base ≤ g ∧ w.heap[g]? = some z := by
  obtain ⟨g, h1, h2, h3⟩ := h
  exact ⟨g, by rw [← hx]; exact h1, h2, h3⟩
end
end Go.Proofs.YtlmjkbdodecbmaaGreatDoor

namespace Go.Proofs.YtlmjkbdodecbmaaGreatDoor
open Go.RowKit
set_option linter.unusedVariables false
set_option linter.unusedSimpArgs false
attribute [local go_sem] field_nat
set_option maxRecDepth 100000 in
set_option maxHeartbeats 1000000 in
/-- lowest: the fraction of a sign and two numbers. -/
theorem lowest_any (neg : Bool) (vn vd : Value) (n d : Nat) (w : World) (hn : NatIs w vn n) (hd : NatIs w vd d) (hln : (limbs n).length ≤ 1000000) (hld : (limbs d).length ≤ 1000000) (hd0 : 0 < d) :
    Calls Tryz.prog 140 #[.bool neg, vn, vd] w (QPost w (qOf neg n d)) := by
  obtain ⟨nO, nL, nC, rfl⟩ := hn.form
  obtain ⟨dO, dL, dC, rfl⟩ := hd.form
  obtain ⟨w0, hw0⟩ : ∃ w0, w0 = (((w.alloc (.cells #[.slice nO nL nC] 143)).alloc (.cells #[.slice dO dL dC] 143)).alloc (.cells #[.bool false, .slice none 0 0, .slice none 0 0] 145)) := ⟨_, rfl⟩
  have hbf : Below w.heap.size w w0 := by rw [hw0]; exact ((((Below.refl _ w).alloc (Nat.le_refl _) _).alloc (by simp <;> omega) _).alloc (by simp <;> omega) _)
  obtain ⟨pn, hpn⟩ : ∃ p, p = w.heap.size := ⟨_, rfl⟩
  have hbn : Box w0 pn (Value.slice nO nL nC) := by rw [hw0, hpn]; exact ⟨by go_simp, by go_simp, by simp <;> omega⟩
  obtain ⟨pd, hpd⟩ : ∃ p, p = w.heap.size + 1 := ⟨_, rfl⟩
  have hbd : Box w0 pd (Value.slice dO dL dC) := by rw [hw0, hpd]; exact ⟨by go_simp, by go_simp, by simp <;> omega⟩
  obtain ⟨pr, hpr⟩ : ∃ p, p = w.heap.size + 1 + 1 := ⟨_, rfl⟩
  have hbr : Box3 w0 pr (Value.bool false) (Value.slice none 0 0) (Value.slice none 0 0) := by rw [hw0, hpr]; exact ⟨by go_simp, by go_simp, by go_simp, by go_simp, by go_simp, by go_simp⟩
  have HP : Hid (w.heap.size ≤ pn ∧ pn < pd ∧ pd < pr) := Lib.hid (by omega)
  replace hn := hn.below hbf
  replace hd := hd.below hbf
  have HW := Lib.hid hw0; clear hw0
  go_enter Tryz.func140, Tryz.ntmps140
  go_upto_region 1 with fail
  rw [← HW.out, ← hpr, ← hpd, ← hpn]
  clear hpn hpd hpr HW
  have en := hbn.cell
  go_wp2_with fail
  refine (zero_any _ n _ hn).mono ?_
  rintro e w1 ⟨rfl, hb⟩
  clear en
  replace hbn := hbn.kept hb
  replace hbd := hbd.kept hb
  replace hbr := hbr.kept hb
  replace hn := hn.below hb
  replace hd := hd.below hb
  replace hbf := hbf.trans (hb.mono hbf.size)
  clear hb
  by_cases h0 : n = 0
  case pos =>
    subst h0
    rw [decide_eq_true rfl]
    have er0 := hbr.c0
    have fr0 := hbr.f0
    have er1 := hbr.c1
    have fr1 := hbr.f1
    have er2 := hbr.c2
    have fr2 := hbr.f2
    go_wp2_with fail
    rw [qOf_zero]
    exact end_q rfl rfl rfl hbr (show w.heap.size ≤ pr by have := HP.out; omega) (QIs.zero _) hbf
  rw [decide_eq_false h0]
  have H0 : Hid (0 < n) := Lib.hid (by omega)
  have HD : Hid (0 < d) := Lib.hid hd0
  clear h0 hd0
  have en := hbn.cell
  have ed := hbd.cell
  go_wp2_with fail
  refine (gcd_any _ _ n d _ hn hd hln hld).mono ?_
  rintro e w2 ⟨r9, rfl, hg, hb⟩
  clear en ed
  replace hbn := hbn.kept hb
  replace hbd := hbd.kept hb
  replace hbr := hbr.kept hb
  replace hn := hn.below hb
  replace hd := hd.below hb
  replace hbf := hbf.trans (hb.mono hbf.size)
  clear hb
  obtain ⟨gO, gL, gC, rfl⟩ := hg.form
  obtain ⟨w3, hwE⟩ : ∃ W, W = (w2.alloc (.cells #[.slice gO gL gC] 143)) := ⟨_, rfl⟩
  have hb : Below w2.heap.size w2 w3 := by rw [hwE]; exact ((Below.refl _ w2).alloc (Nat.le_refl _) _)
  obtain ⟨pg, hpg⟩ : ∃ p, p = w2.heap.size := ⟨_, rfl⟩
  have hbg : Box w3 pg (Value.slice gO gL gC) := by rw [hwE, hpg]; exact ⟨by go_simp, by go_simp, by simp <;> omega⟩
  replace HP : Hid (w.heap.size ≤ pn ∧ pn < pd ∧ pd < pr ∧ pr < pg) := Lib.hid (by have h1 := HP.out; have h9 := hbf.size; have h2r := hbr.lt; omega)
  have HW := Lib.hid hwE; clear hwE
  go_upto_region 4 with fail
  rw [← HW.out, ← hpg]
  clear hpg HW
  replace hbn := hbn.kept hb
  replace hbd := hbd.kept hb
  replace hbr := hbr.kept hb
  replace hn := hn.below hb
  replace hd := hd.below hb
  replace hg := hg.below hb
  replace hbf := hbf.trans (hb.mono hbf.size)
  clear hb
  have hlg : (limbs (Nat.gcd n d)).length ≤ 1000000 := Nat.le_trans (limbs_length_mono (Nat.gcd_le_left _ H0.out)) hln
  have en := hbn.cell
  have eg := hbg.cell
  go_wp2_with fail
  refine (divmod_any _ _ n (Nat.gcd n d) _ hn hg hln hlg).mono ?_
  rintro e w4 ⟨r9, s9, rfl, hx, hs, hb⟩
  clear en eg
  replace hbn := hbn.kept hb
  replace hbd := hbd.kept hb
  replace hbr := hbr.kept hb
  replace hbg := hbg.kept hb
  replace hn := hn.below hb
  replace hd := hd.below hb
  replace hg := hg.below hb
  replace hbf := hbf.trans (hb.mono hbf.size)
  clear hb
  obtain ⟨xO, xL, xC, rfl⟩ := hx.form
  obtain ⟨sO, sL, sC, rfl⟩ := hs.form
  clear hs
  have en := hbn.cell
  have fn := hbn.free
  go_upto_region 5 with fail
  clear en fn
  obtain ⟨w5, hwE⟩ : ∃ W, W = w4.setCell ⟨pn, 0, none⟩ (Value.slice xO xL xC) := ⟨_, rfl⟩
  rw [← hwE]
  replace hn := hn.setS (u := (Value.slice xO xL xC)) hbn; rw [← hwE] at hn
  replace hd := hd.setS (u := (Value.slice xO xL xC)) hbn; rw [← hwE] at hd
  replace hg := hg.setS (u := (Value.slice xO xL xC)) hbn; rw [← hwE] at hg
  replace hx := hx.setS (u := (Value.slice xO xL xC)) hbn; rw [← hwE] at hx
  replace hbd := hbd.setOther (show pd ≠ pn by have := HP.out; omega) 0 (Value.slice xO xL xC); rw [← hwE] at hbd
  replace hbr := hbr.setOther (show pr ≠ pn by have := HP.out; omega) 0 (Value.slice xO xL xC); rw [← hwE] at hbr
  replace hbg := hbg.setOther (show pg ≠ pn by have := HP.out; omega) 0 (Value.slice xO xL xC); rw [← hwE] at hbg
  replace hbf := hbf.setCell (p := ⟨pn, 0, none⟩) (show w.heap.size ≤ pn by have := HP.out; omega) (Value.slice xO xL xC); rw [← hwE] at hbf
  replace hbn := hbn.set (Value.slice xO xL xC); rw [← hwE] at hbn; clear hwE
  have ed := hbd.cell
  have eg := hbg.cell
  go_wp2_with fail
  refine (divmod_any _ _ d (Nat.gcd n d) _ hd hg hld hlg).mono ?_
  rintro e w6 ⟨r9, s9, rfl, hy, hs, hb⟩
  clear ed eg
  replace hbn := hbn.kept hb
  replace hbd := hbd.kept hb
  replace hbr := hbr.kept hb
  replace hbg := hbg.kept hb
  replace hn := hn.below hb
  replace hd := hd.below hb
  replace hg := hg.below hb
  replace hx := hx.below hb
  replace hbf := hbf.trans (hb.mono hbf.size)
  clear hb
  obtain ⟨yO, yL, yC, rfl⟩ := hy.form
  obtain ⟨s2O, s2L, s2C, rfl⟩ := hs.form
  clear hs
  have ed := hbd.cell
  have fd := hbd.free
  go_upto_region 6 with fail
  clear ed fd
  obtain ⟨w7, hwE⟩ : ∃ W, W = w6.setCell ⟨pd, 0, none⟩ (Value.slice yO yL yC) := ⟨_, rfl⟩
  rw [← hwE]
  replace hn := hn.setS (u := (Value.slice yO yL yC)) hbd; rw [← hwE] at hn
  replace hd := hd.setS (u := (Value.slice yO yL yC)) hbd; rw [← hwE] at hd
  replace hg := hg.setS (u := (Value.slice yO yL yC)) hbd; rw [← hwE] at hg
  replace hx := hx.setS (u := (Value.slice yO yL yC)) hbd; rw [← hwE] at hx
  replace hy := hy.setS (u := (Value.slice yO yL yC)) hbd; rw [← hwE] at hy
  replace hbn := hbn.setOther (show pn ≠ pd by have := HP.out; omega) 0 (Value.slice yO yL yC); rw [← hwE] at hbn
  replace hbr := hbr.setOther (show pr ≠ pd by have := HP.out; omega) 0 (Value.slice yO yL yC); rw [← hwE] at hbr
  replace hbg := hbg.setOther (show pg ≠ pd by have := HP.out; omega) 0 (Value.slice yO yL yC); rw [← hwE] at hbg
  replace hbf := hbf.setCell (p := ⟨pd, 0, none⟩) (show w.heap.size ≤ pd by have := HP.out; omega) (Value.slice yO yL yC); rw [← hwE] at hbf
  replace hbd := hbd.set (Value.slice yO yL yC); rw [← hwE] at hbd; clear hwE
  have en := hbn.cell
  have ed := hbd.cell
  have er0 := hbr.c0
  have fr0 := hbr.f0
  have er1 := hbr.c1
  have fr1 := hbr.f1
  have er2 := hbr.c2
  have fr2 := hbr.f2
  go_wp2_with fail
  exact end_q rfl rfl rfl hbr (show w.heap.size ≤ pr by have := HP.out; omega) (QIs.made H0.out HD.out hx hy) hbf
set_option maxRecDepth 100000 in
set_option maxHeartbeats 1000000 in
/-- Den: the denominator. -/
theorem den_any (v : Value) (q : Rat) (w : World) (h : QIs w v q) :
    Calls Tryz.prog 162 #[v] w fun e w' => ∃ r, e = .returned r ∧ NatIs w' r q.den ∧ Below w.heap.size w w' := by
  obtain ⟨qB, qxO, qxL, qxC, qyO, qyL, qyC, rfl, hS, hqx, hqy⟩ := h.form
  have HqS := Lib.hid hS; clear hS
  obtain ⟨w0, hw0⟩ : ∃ w0, w0 = ((w.alloc (.cells #[.bool qB, .slice qxO qxL qxC, .slice qyO qyL qyC] 145)).alloc (.cells #[.slice none 0 0] 143)) := ⟨_, rfl⟩
  have hbf : Below w.heap.size w w0 := by rw [hw0]; exact (((Below.refl _ w).alloc (Nat.le_refl _) _).alloc (by simp <;> omega) _)
  obtain ⟨pq, hpq⟩ : ∃ p, p = w.heap.size := ⟨_, rfl⟩
  have hbq : Box3 w0 pq (Value.bool qB) (Value.slice qxO qxL qxC) (Value.slice qyO qyL qyC) := by rw [hw0, hpq]; exact ⟨by go_simp, by go_simp, by go_simp, by go_simp, by go_simp, by go_simp⟩
  obtain ⟨pr, hpr⟩ : ∃ p, p = w.heap.size + 1 := ⟨_, rfl⟩
  have hbr : Box w0 pr (Value.slice none 0 0) := by rw [hw0, hpr]; exact ⟨by go_simp, by go_simp, by simp <;> omega⟩
  have HP : Hid (w.heap.size ≤ pq ∧ pq < pr) := Lib.hid (by omega)
  replace h := h.below hbf
  replace hqx := hqx.below hbf
  replace hqy := hqy.below hbf
  have HW := Lib.hid hw0; clear hw0
  go_enter Tryz.func162, Tryz.ntmps162
  go_upto_region 1 with fail
  rw [← HW.out, ← hpr, ← hpq]
  clear hpq hpr HW
  have eq0 := hbq.c0
  have eq1 := hbq.c1
  have eq2 := hbq.c2
  go_wp2_with fail
  refine (zero_any _ (den0 q) _ hqy).mono ?_
  rintro e w1 ⟨rfl, hb⟩
  clear eq0 eq1 eq2
  replace hbq := hbq.kept hb
  replace hbr := hbr.kept hb
  replace h := h.below hb
  replace hqx := hqx.below hb
  replace hqy := hqy.below hb
  replace hbf := hbf.trans (hb.mono hbf.size)
  clear hb
  by_cases h0 : den0 q = 0
  case pos =>
    rw [decide_eq_true h0]
    go_wp2_with fail
    refine (of_any 1 _ (by decide)).mono ?_
    rintro e w2 ⟨r9, rfl, ho, hb⟩
    replace hbq := hbq.kept hb
    replace hbr := hbr.kept hb
    replace h := h.below hb
    replace hqx := hqx.below hb
    replace hqy := hqy.below hb
    replace hbf := hbf.trans (hb.mono hbf.size)
    clear hb
    obtain ⟨oO, oL, oC, rfl⟩ := ho.form
    have hq1 : q.den = 1 := by unfold den0 at h0; split at h0 <;> first | (rename_i h9; rw [h9]; rfl) | (have := q.den_pos; omega)
    have er := hbr.cell
    have fr := hbr.free
    go_wp2_with fail
    exact ret_nat rfl rfl (cell_set er) rfl ⟨_, rfl, by rw [hq1]; exact ho.setS hbr, hbf.setCell (p := ⟨pr, 0, none⟩) (show w.heap.size ≤ pr by have := HP.out; omega) _⟩
  rw [decide_eq_false h0]
  have hq1 : den0 q = q.den := by unfold den0 at h0 ⊢; split at h0 <;> first | exact (h0 rfl).elim | (rename_i h9; rw [if_neg h9])
  rw [hq1] at hqy
  clear h0 hq1
  have eq0 := hbq.c0
  have eq1 := hbq.c1
  have eq2 := hbq.c2
  have er := hbr.cell
  have fr := hbr.free
  go_wp2_with fail
  exact ret_nat rfl rfl (cell_set er) rfl ⟨_, rfl, hqy.setS hbr, hbf.setCell (p := ⟨pr, 0, none⟩) (show w.heap.size ≤ pr by have := HP.out; omega) _⟩
set_option maxRecDepth 100000 in
set_option maxHeartbeats 1000000 in
/-- Whole: is the denominator 1? -/
theorem whole_any (v : Value) (q : Rat) (w : World) (h : QIs w v q) :
    Calls Tryz.prog 142 #[v] w fun e w' => e = .returned (.bool (decide (q.den = 1))) ∧ Below w.heap.size w w' := by
  obtain ⟨qB, qxO, qxL, qxC, qyO, qyL, qyC, rfl, hS, hqx, hqy⟩ := h.form
  have HqS := Lib.hid hS; clear hS
  obtain ⟨w0, hw0⟩ : ∃ w0, w0 = (w.alloc (.cells #[.bool qB, .slice qxO qxL qxC, .slice qyO qyL qyC] 145)) := ⟨_, rfl⟩
  have hbf : Below w.heap.size w w0 := by rw [hw0]; exact ((Below.refl _ w).alloc (Nat.le_refl _) _)
  obtain ⟨pq, hpq⟩ : ∃ p, p = w.heap.size := ⟨_, rfl⟩
  have hbq : Box3 w0 pq (Value.bool qB) (Value.slice qxO qxL qxC) (Value.slice qyO qyL qyC) := by rw [hw0, hpq]; exact ⟨by go_simp, by go_simp, by go_simp, by go_simp, by go_simp, by go_simp⟩
  have HP : Hid (w.heap.size ≤ pq) := Lib.hid (by omega)
  replace h := h.below hbf
  replace hqx := hqx.below hbf
  replace hqy := hqy.below hbf
  have HW := Lib.hid hw0; clear hw0
  go_enter Tryz.func142, Tryz.ntmps142
  go_upto_region 1 with fail
  rw [← HW.out, ← hpq]
  clear hpq HW
  have eq0 := hbq.c0
  have eq1 := hbq.c1
  have eq2 := hbq.c2
  go_wp2_with fail
  refine (den_any _ q _ h).mono ?_
  rintro e w1 ⟨r9, rfl, hd, hb⟩
  clear eq0 eq1 eq2
  replace hbq := hbq.kept hb
  replace h := h.below hb
  replace hqx := hqx.below hb
  replace hqy := hqy.below hb
  replace hbf := hbf.trans (hb.mono hbf.size)
  clear hb
  go_wp2_with fail
  refine (of_any 1 _ (by decide)).mono ?_
  rintro e w2 ⟨o9, rfl, ho, hb⟩
  replace hbq := hbq.kept hb
  replace h := h.below hb
  replace hqx := hqx.below hb
  replace hqy := hqy.below hb
  replace hd := hd.below hb
  replace hbf := hbf.trans (hb.mono hbf.size)
  clear hb
  go_wp2_with fail
  refine (cmp_any _ _ q.den 1 _ hd ho).mono ?_
  rintro e w3 ⟨rfl, hb⟩
  replace hbq := hbq.kept hb
  replace h := h.below hb
  replace hqx := hqx.below hb
  replace hqy := hqy.below hb
  replace hd := hd.below hb
  replace ho := ho.below hb
  replace hbf := hbf.trans (hb.mono hbf.size)
  clear hb
  have hc : (cmpI q.den 1 == 0) = decide (q.den = 1) := by unfold cmpI; by_cases h1 : q.den < 1 <;> by_cases h2 : 1 < q.den <;> simp [h1, h2] <;> omega
  go_wp2_with fail
  go_ret
  exact ⟨ret_one (by rw [← hc]; rfl), hbf⟩
set_option maxRecDepth 100000 in
set_option maxHeartbeats 1000000 in
/-- Make. -/
theorem make_main (neg : Bool) (vn vd : Value) (n d : Nat) (w : World) (q : Rat) (c : Int) (hq0 : Hid (d = 0 → q = 0 ∧ c = 4)) (hq1 : Hid (0 < d → q = qOf neg n d ∧ c = 0)) (hn : NatIs w vn n) (hd : NatIs w vd d) (hln : (limbs n).length ≤ 1000000) (hld : (limbs d).length ≤ 1000000) :
    Calls Tryz.prog 121 #[.bool neg, vn, vd] w (QPostC w q c) := by
  obtain ⟨nO, nL, nC, rfl⟩ := hn.form
  obtain ⟨dO, dL, dC, rfl⟩ := hd.form
  obtain ⟨w0, hw0⟩ : ∃ w0, w0 = (((w.alloc (.cells #[.slice nO nL nC] 143)).alloc (.cells #[.slice dO dL dC] 143)).alloc (.cells #[.bool false, .slice none 0 0, .slice none 0 0] 145)) := ⟨_, rfl⟩
  have hbf : Below w.heap.size w w0 := by rw [hw0]; exact ((((Below.refl _ w).alloc (Nat.le_refl _) _).alloc (by simp <;> omega) _).alloc (by simp <;> omega) _)
  obtain ⟨pn, hpn⟩ : ∃ p, p = w.heap.size := ⟨_, rfl⟩
  have hbn : Box w0 pn (Value.slice nO nL nC) := by rw [hw0, hpn]; exact ⟨by go_simp, by go_simp, by simp <;> omega⟩
  obtain ⟨pd, hpd⟩ : ∃ p, p = w.heap.size + 1 := ⟨_, rfl⟩
  have hbd : Box w0 pd (Value.slice dO dL dC) := by rw [hw0, hpd]; exact ⟨by go_simp, by go_simp, by simp <;> omega⟩
  obtain ⟨pr, hpr⟩ : ∃ p, p = w.heap.size + 1 + 1 := ⟨_, rfl⟩
  have hbr : Box3 w0 pr (Value.bool false) (Value.slice none 0 0) (Value.slice none 0 0) := by rw [hw0, hpr]; exact ⟨by go_simp, by go_simp, by go_simp, by go_simp, by go_simp, by go_simp⟩
  have HP : Hid (w.heap.size ≤ pn ∧ pn < pd ∧ pd < pr) := Lib.hid (by omega)
  replace hn := hn.below hbf
  replace hd := hd.below hbf
  have HW := Lib.hid hw0; clear hw0
  go_enter Tryz.func121, Tryz.ntmps121
  go_upto_region 1 with fail
  rw [← HW.out, ← hpr, ← hpd, ← hpn]
  clear hpn hpd hpr HW
  have ed := hbd.cell
  go_wp2_with fail
  refine (zero_any _ d _ hd).mono ?_
  rintro e w1 ⟨rfl, hb⟩
  clear ed
  replace hbn := hbn.kept hb
  replace hbd := hbd.kept hb
  replace hbr := hbr.kept hb
  replace hn := hn.below hb
  replace hd := hd.below hb
  replace hbf := hbf.trans (hb.mono hbf.size)
  clear hb
  by_cases h0 : d = 0
  case pos =>
    rw [decide_eq_true h0]
    obtain ⟨rfl, rfl⟩ := hq0.out h0
    have er0 := hbr.c0
    have fr0 := hbr.f0
    have er1 := hbr.c1
    have fr1 := hbr.f1
    have er2 := hbr.c2
    have fr2 := hbr.f2
    go_wp2_with fail
    exact end_qc rfl rfl rfl rfl hbr (show w.heap.size ≤ pr by have := HP.out; omega) (QIs.zero _) hbf
  rw [decide_eq_false h0]
  have HD : Hid (0 < d) := Lib.hid (by omega)
  obtain ⟨rfl, rfl⟩ := hq1.out HD.out
  clear h0
  have en := hbn.cell
  have ed := hbd.cell
  go_wp2_with fail
  refine (lowest_any neg _ _ n d _ hn hd hln hld HD.out).mono ?_
  rintro e w2 hq9
  obtain ⟨xB, xxO, xxL, xxC, xyO, xyL, xyC, rfl, hS, hxx, hxy, hx, hb⟩ := hq9.out
  have HxS := Lib.hid hS; clear hS
  clear en ed
  replace hbn := hbn.kept hb
  replace hbd := hbd.kept hb
  replace hbr := hbr.kept hb
  replace hn := hn.below hb
  replace hd := hd.below hb
  replace hbf := hbf.trans (hb.mono hbf.size)
  clear hb
  have er0 := hbr.c0
  have fr0 := hbr.f0
  have er1 := hbr.c1
  have fr1 := hbr.f1
  have er2 := hbr.c2
  have fr2 := hbr.f2
  go_wp2_with fail
  exact end_qc rfl rfl rfl rfl hbr (show w.heap.size ≤ pr by have := HP.out; omega) hx hbf
theorem make_ok (neg : Bool) (vn vd : Value) (n d : Nat) (w : World) (hn : NatIs w vn n) (hd : NatIs w vd d) (hln : (limbs n).length ≤ 1000000) (hld : (limbs d).length ≤ 1000000) (h0 : 0 < d) :
    Calls Tryz.prog 121 #[.bool neg, vn, vd] w (QPostC w (qOf neg n d) 0) :=
  make_main neg vn vd n d w _ _ (Lib.hid (fun h => by omega)) (Lib.hid (fun _ => ⟨rfl, rfl⟩)) hn hd hln hld
theorem make_zero (neg : Bool) (vn vd : Value) (n : Nat) (w : World) (hn : NatIs w vn n) (hd : NatIs w vd 0) (hln : (limbs n).length ≤ 1000000) :
    Calls Tryz.prog 121 #[.bool neg, vn, vd] w (QPostC w 0 4) :=
  make_main neg vn vd n 0 w _ _ (Lib.hid (fun h => ⟨rfl, rfl⟩)) (Lib.hid (fun h => by omega)) hn hd hln (by rw [limbs_zero]; simp)
set_option maxRecDepth 100000 in
set_option maxHeartbeats 1000000 in
/-- Neg. -/
theorem neg_any (v : Value) (q : Rat) (w : World) (h : QIs w v q) :
    Calls Tryz.prog 113 #[v] w fun e w' => e = .returned (.bool (decide (q < 0))) ∧ Below w.heap.size w w' := by
  obtain ⟨qB, qxO, qxL, qxC, qyO, qyL, qyC, rfl, hS, hqx, hqy⟩ := h.form
  have HqS := Lib.hid hS; clear hS
  obtain ⟨w0, hw0⟩ : ∃ w0, w0 = (w.alloc (.cells #[.bool qB, .slice qxO qxL qxC, .slice qyO qyL qyC] 145)) := ⟨_, rfl⟩
  have hbf : Below w.heap.size w w0 := by rw [hw0]; exact ((Below.refl _ w).alloc (Nat.le_refl _) _)
  obtain ⟨pq, hpq⟩ : ∃ p, p = w.heap.size := ⟨_, rfl⟩
  have hbq : Box3 w0 pq (Value.bool qB) (Value.slice qxO qxL qxC) (Value.slice qyO qyL qyC) := by rw [hw0, hpq]; exact ⟨by go_simp, by go_simp, by go_simp, by go_simp, by go_simp, by go_simp⟩
  have HP : Hid (w.heap.size ≤ pq) := Lib.hid (by omega)
  replace h := h.below hbf
  replace hqx := hqx.below hbf
  replace hqy := hqy.below hbf
  have HW := Lib.hid hw0; clear hw0
  go_enter Tryz.func113, Tryz.ntmps113
  go_upto_region 1 with fail
  rw [← HW.out, ← hpq]
  clear hpq HW
  have eq0 := hbq.c0
  have eq1 := hbq.c1
  have eq2 := hbq.c2
  go_wp2_with fail
  go_ret
  exact ⟨ret_one (by rw [HqS.out]; rfl), hbf⟩
end Go.Proofs.YtlmjkbdodecbmaaGreatDoor
