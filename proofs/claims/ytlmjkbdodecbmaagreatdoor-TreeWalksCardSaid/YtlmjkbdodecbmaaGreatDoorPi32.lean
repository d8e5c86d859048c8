/-
  Pi32: BookR MathTl MathTh LawTg TreP (what is needed of them).
-/
import Derived.Test.YtlmjkbdodecbmaaGreatDoorPi08
import Derived.Test.YtlmjkbdodecbmaaGreatDoorPi14
import Derived.Test.YtlmjkbdodecbmaaGreatDoorPi23
import Derived.Test.YtlmjkbdodecbmaaGreatDoorPi27
import Derived.Test.YtlmjkbdodecbmaaGreatDoorPi29
import Derived.Test.YtlmjkbdodecbmaaGreatDoorPi31

namespace Go.Proofs.YtlmjkbdodecbmaaGreatDoor
open Go.RowKit Go.Shelf
set_option linter.unusedVariables false
set_option linter.unusedSimpArgs false
/-- A row of lists of ints: each list in a block of its own, none in the row's. -/
structure RowsL (D : Nat) (w : World) (v : Value) (xs : List Value) (R : List (List Int)) : Prop where
  own : OwnsK 1 D 27 w v R.length xs
  row : ∀ (i : Nat) (u : Value) (ns : List Int), xs[i]? = some u → R[i]? = some ns → OwnsK 1 D 3 w u ns.length (icel ns)
  ap : ∀ (i j : Nat) (v u : Value) (g : Nat), xs[i]? = some v → xs[j]? = some u → v.ownBlock = some g → u.ownBlock = some g → i = j
  ne : ∀ k, OfL xs k → v.ownBlock ≠ some k
theorem RowsL.nil (D : Nat) (w : World) : RowsL D w (.slice none 0 0) [] [] :=
  ⟨OwnsK.nil _ _ _ _, fun i u ns h => by simp at h, fun i j v u g h => by simp at h, fun k ⟨i, v, h, _⟩ => by simp at h⟩
theorem RowsL.len {D : Nat} {w : World} {v : Value} {xs : List Value} {R : List (List Int)} (h : RowsL D w v xs R) : xs.length = R.length := by have := h.own.len; rw [Nat.mul_one] at this; exact this
theorem RowsL.lt {D : Nat} {w : World} {v : Value} {xs : List Value} {R : List (List Int)} (h : RowsL D w v xs R) {k : Nat} (hk : v.ownBlock = some k ∨ OfL xs k) : D ≤ k ∧ k < w.heap.size := by
  rcases hk with hk | ⟨i, u, h1, h2⟩
  · exact h.own.lt k hk
  · have hi := (List.getElem?_eq_some_iff.1 h1).1
    have := h.len
    exact (h.row i u _ h1 (List.getElem?_eq_getElem (by omega))).lt k h2
theorem RowsL.keep {S : Nat → Prop} {D : Nat} {w w' : World} {v : Value} {xs : List Value} {R : List (List Int)} (h : RowsL D w v xs R) (hk : Keep S w w') (hS : ∀ k, v.ownBlock = some k ∨ OfL xs k → ¬ S k) : RowsL D w' v xs R :=
  ⟨h.own.keep hk fun g hg => hS g (.inl hg), fun i u ns h1 h2 => (h.row i u ns h1 h2).keep hk fun g hg => hS g (.inr ⟨i, u, h1, hg⟩), h.ap, h.ne⟩
theorem RowsL.kept {D : Nat} {w w' : World} {v : Value} {xs : List Value} {R : List (List Int)} (h : RowsL D w v xs R) (hb : Below w.heap.size w w') : RowsL D w' v xs R :=
  h.keep (Keep.of_below (S := fun _ => False) hb) fun _ _ h => h
theorem RowsL.mono {D D' : Nat} {w : World} {v : Value} {xs : List Value} {R : List (List Int)} (h : RowsL D w v xs R) (hD : D' ≤ D) : RowsL D' w v xs R :=
  ⟨h.own.mono hD, fun i u ns h1 h2 => (h.row i u ns h1 h2).mono hD, h.ap, h.ne⟩
theorem snoc_inv {α : Type} {xs : List α} {r u : α} {i : Nat} (h : (xs ++ [r])[i]? = some u) : (i < xs.length ∧ xs[i]? = some u) ∨ (i = xs.length ∧ u = r) := by
  rcases Nat.lt_or_ge i xs.length with h3 | h3
  · rw [List.getElem?_append_left h3] at h
    exact .inl ⟨h3, h⟩
  · rw [List.getElem?_append_right h3] at h
    cases hi9 : i - xs.length with
    | zero =>
      rw [hi9] at h
      exact .inr ⟨by omega, (Option.some.inj h).symm⟩
    | succ j => rw [hi9] at h; simp at h
theorem OfL.snoc {xs : List Value} {r : Value} {k : Nat} (h : OfL (xs ++ [r]) k) : OfL xs k ∨ r.ownBlock = some k := by
  obtain ⟨i, v, h1, h2⟩ := h
  rcases snoc_inv h1 with ⟨_, h3⟩ | ⟨_, rfl⟩
  · exact .inl ⟨i, v, h3, h2⟩
  · exact .inr h2
/-- One more list: the row has grown. -/
theorem RowsL.snoc {D : Nat} {w w' : World} {v v' r : Value} {xs : List Value} {R : List (List Int)} {ns : List Int} (h : RowsL D w v xs R) (ho : OwnsK 1 D 27 w' v' (R.length + 1) (xs ++ [r])) (hg : w.grownBy w' v.ownBlock) (hn : ∀ g, v'.ownBlock = some g → v.ownBlock = some g ∨ w.heap.size ≤ g)
    (hr : OwnsK 1 D 3 w r ns.length (icel ns)) (hr1 : ∀ k, r.ownBlock = some k → v.ownBlock ≠ some k ∧ ¬ OfL xs k) : RowsL D w' v' (xs ++ [r]) (R ++ [ns]) := by
  have hK : Keep (fun k => v.ownBlock = some k) w w' := ⟨hg.os, hg.tape, hg.output, hg.size, fun k hk hs => hg.block k hk (fun e => hs e.symm)⟩
  have hl := h.len
  refine ⟨by rw [List.length_append, List.length_singleton]; exact ho, fun i u ms h1 h2 => ?_, fun i j a b g h1 h2 h3 h4 => ?_, fun k hk e => ?_⟩
  · rcases snoc_inv h1 with ⟨h5, h6⟩ | ⟨h5, rfl⟩
    · rw [List.getElem?_append_left (by omega)] at h2
      exact (h.row i u ms h6 h2).keep hK fun g hg9 e => h.ne g ⟨i, u, h6, hg9⟩ e
    · rw [h5, hl, List.getElem?_concat_length] at h2
      cases h2
      exact hr.keep hK fun g hg9 e => (hr1 g hg9).1 e
  · rcases snoc_inv h1 with ⟨a1, a2⟩ | ⟨a1, rfl⟩
    · rcases snoc_inv h2 with ⟨b1, b2⟩ | ⟨b1, rfl⟩
      · exact h.ap i j a b g a2 b2 h3 h4
      · exact ((hr1 g h4).2 ⟨i, a, a2, h3⟩).elim
    · rcases snoc_inv h2 with ⟨b1, b2⟩ | ⟨b1, rfl⟩
      · exact ((hr1 g h3).2 ⟨j, b, b2, h4⟩).elim
      · omega
  · have hlt : v.ownBlock ≠ some k ∧ k < w.heap.size := by
      rcases hk.snoc with h5 | h5
      · exact ⟨h.ne k h5, (h.lt (.inr h5)).2⟩
      · exact ⟨(hr1 k h5).1, (hr.lt k h5).2⟩
    rcases hn k e with h5 | h5
    · exact hlt.1 h5
    · omega
abbrev bookC (bi bw : Value) : List Value := [.slice none 0 0, .slice none 0 0, bi, bw, .slice none 0 0, .slice none 0 0, .slice none 0 0, .slice none 0 0, .slice none 0 0, .slice none 0 0, .slice none 0 0, .slice none 0 0]
/-- The book, with lists of ints alone; S: its blocks but its own box. -/
def BkIs (D kb : Nat) (S : Nat → Prop) (w : World) : Prop := ∃ (bi bw : Value) (vs us : List Value) (ls : List (List Int)), BoxL w kb (bookC bi bw) ∧ RowsL D w bi vs ls ∧ RowsL D w bw us ls ∧ ls.length ≤ 250 ∧ (∀ ns ∈ ls, ns.length ≤ 1000000) ∧ ¬ S kb ∧ (∀ k, bi.ownBlock = some k ∨ OfL vs k → S k) ∧ (∀ k, bw.ownBlock = some k ∨ OfL us k → S k) ∧ (∀ k, bi.ownBlock = some k ∨ OfL vs k → ¬ (bw.ownBlock = some k ∨ OfL us k))
theorem BkIs.keep {T : Nat → Prop} {D kb : Nat} {S : Nat → Prop} {w w' : World} (h : BkIs D kb S w) (hk : Keep T w w') (h1 : ¬ T kb) (h2 : ∀ k, S k → ¬ T k) : BkIs D kb S w' := by
  obtain ⟨bi, bw, vs, us, ls, a1, a2, a3, a4, a5, a6, a7, a8, a9⟩ := h
  exact ⟨bi, bw, vs, us, ls, a1.keep hk h1, a2.keep hk fun k hk9 => h2 k (a7 k hk9), a3.keep hk fun k hk9 => h2 k (a8 k hk9), a4, a5, a6, a7, a8, a9⟩
theorem BkIs.kept {D kb : Nat} {S : Nat → Prop} {w w' : World} (h : BkIs D kb S w) (hb : Below w.heap.size w w') : BkIs D kb S w' :=
  h.keep (Keep.of_below (S := fun _ => False) hb) id fun _ _ h => h
theorem owns_icel {D : Nat} {e : TypeId} {w : World} {v : Value} {ns : List Int} (h : OwnsK 1 D e w v ns.length (icel ns)) : Owns D e w v (ivals .i64 ns) := by
  show OwnsK 1 D e w v (ivals .i64 ns).length (ivals .i64 ns)
  rw [ivals_length]
  exact h
theorem icel_owns {D : Nat} {e : TypeId} {w : World} {v : Value} {ns : List Int} (h : Owns D e w v (ivals .i64 ns)) : OwnsK 1 D e w v ns.length (icel ns) := by
  have h9 : OwnsK 1 D e w v (ivals .i64 ns).length (ivals .i64 ns) := h
  rw [ivals_length] at h9
  exact h9
theorem RowsL.view {D : Nat} {w : World} {v : Value} {xs : List Value} {R : List (List Int)} (h : RowsL D w v xs R) : VView w v xs := by
  refine VView.of (B := D) (e := 27) ?_
  show OwnsK 1 D 27 w v xs.length xs
  rw [h.len]
  exact h.own
theorem bookApart_any (D kb : Nat) (S : Nat → Prop) (w : World) (h : BkIs D kb S w) (hD : D ≤ w.heap.size) :
    Calls Tryz.prog 16 #[.pointer (some ⟨kb, 0, none⟩)] w fun e w' => e = .returned (.bool true) ∧ Below D w w' := by
  obtain ⟨bi, bw, vs, us, ls, a1, a2, a3, a4, a5, a6, a7, a8, a9⟩ := h
  exact apart_ints D kb bi bw vs us ls w a1 a2.view a3.view a2.len a3.len (by rw [a2.len]; exact a4) hD (fun i v ns h1 h2 => ⟨owns_icel (a2.row i v ns h1 h2), a5 ns (List.mem_of_getElem? h2)⟩) (fun i v ns h1 h2 => owns_icel (a3.row i v ns h1 h2)) a2.ap (fun h => a6 (a7 kb (.inr h))) (fun g hg h => a2.ne g h hg)
theorem BkIs.new (w : World) (e : TypeId) : BkIs w.heap.size w.heap.size (fun _ => False) (w.alloc (.cells (bookC (.slice none 0 0) (.slice none 0 0)).toArray e)) :=
  ⟨.slice none 0 0, .slice none 0 0, [], [], [], BoxL.new w _ _, RowsL.nil _ _, RowsL.nil _ _, by simp, fun ns h => by simp at h, id, fun k h => by rcases h with h | ⟨i, v, h, _⟩; simp [Value.ownBlock] at h; simp at h, fun k h => by rcases h with h | ⟨i, v, h, _⟩; simp [Value.ownBlock] at h; simp at h, fun k h => by rcases h with h | ⟨i, v, h, _⟩; simp [Value.ownBlock] at h; simp at h⟩
set_option maxRecDepth 100000 in
set_option maxHeartbeats 4000000 in
/-- Ints: one more list is kept. -/
theorem bookInts_any (D kb : Nat) (S : Nat → Prop) (v : Value) (ns : List Int) (w : World) (h : BkIs D kb S w) (hD : D ≤ w.heap.size) (hv : OwnsK 1 D 3 w v ns.length (icel ns)) (hnl : ns.length ≤ 1000000) (hvS : ∀ k, v.ownBlock = some k → ¬ S k ∧ k ≠ kb) :
    Calls Tryz.prog 15 #[.pointer (some ⟨kb, 0, none⟩), v] w fun e w' => e = .returned (.tuple #[]) ∧ (∃ S', BkIs D kb S' w' ∧ ∀ k, S' k → S k ∨ v.ownBlock = some k ∨ w.heap.size ≤ k) ∧ Keep (fun k => k = kb ∨ S k) w w' := by
  obtain ⟨bi, bw, vs, us, ls, a1, a2, a3, a4, a5, a6, a7, a8, a9⟩ := h
  have hkw := a1.lt
  have A2 := Lib.hid a2
  have A3 := Lib.hid a3
  have A5 := Lib.hid a5
  have A6 := Lib.hid a6
  have A7 := Lib.hid a7
  have A8 := Lib.hid a8
  have A9 := Lib.hid a9
  have HV := Lib.hid hv
  have HVS := Lib.hid hvS
  obtain ⟨io, ic, rfl, hi1, hi2, -⟩ := a2.own.slice
  obtain ⟨wo, wc, rfl, -, -, -⟩ := a3.own.slice
  obtain ⟨vo, vc, rfl, -, -, -⟩ := hv.slice
  have hown := a2.own
  have HLW : Hid (∀ k, (Value.slice wo ls.length wc).ownBlock = some k ∨ OfL us k → k < w.heap.size) := Lib.hid (fun k hk => (a3.lt hk).2)
  clear a2 a3 a5 a6 a7 a8 a9 hv hvS
  go_enter Tryz.func15, Tryz.ntmps15
  have e2 := a1.cell 2 _ rfl
  by_cases hl : ls.length < 250
  case neg =>
    have hlt : ¬ ((ls.length : Nat) : Int) < 250 := by omega
    go_wp2_with fail
    go_end0
    exact ⟨rfl, ⟨S, ⟨_, _, vs, us, ls, a1, A2.out, A3.out, a4, A5.out, A6.out, A7.out, A8.out, A9.out⟩, fun k hk => .inl hk⟩, Keep.refl _ _⟩
  case pos =>
    have hlt : ((ls.length : Nat) : Int) < 250 := by omega
    have f2 := a1.free 2 (by simp)
    go_upto_region 2 with (at_builtin; refine append1KO E_rowsI hown rfl rfl rfl rfl rfl (by simp [Value.oneCell']) (by omega) (by unfold maxLen; omega) hD ?_; intro v9 w9 hO9 hb9 hg9 hn9; obtain ⟨ao9, cap9, rfl, -, -, -⟩ := hO9.slice; have k9 := a1.block (hg9.block kb a1.lt (fun e9 => A6.out (A7.out kb (.inl e9.symm)))); clear e2 f2; have e2 := k9.cell 2 _ rfl; have f2 := k9.free 2 (by simp))
    obtain ⟨wA, hwA⟩ : ∃ W', W' = w9.setCell ⟨kb, 2, none⟩ (.slice ao9 (ls.length + 1) cap9) := ⟨_, rfl⟩
    rw [← hwA]
    have hR9 : RowsL D w9 (.slice ao9 (ls.length + 1) cap9) (vs ++ [.slice vo ns.length vc]) (ls ++ [ns]) := A2.out.snoc hO9 hg9 hn9 HV.out (fun k hk => ⟨fun e => (HVS.out k hk).1 (A7.out k (.inl e)), fun e => (HVS.out k hk).1 (A7.out k (.inr e))⟩)
    have hn9k : ∀ k, (Value.slice ao9 (ls.length + 1) cap9).ownBlock = some k ∨ OfL (vs ++ [.slice vo ns.length vc]) k → ((Value.slice io ls.length ic).ownBlock = some k ∨ OfL vs k) ∨ (Value.slice vo ns.length vc).ownBlock = some k ∨ w.heap.size ≤ k := fun k hk => by
      rcases hk with hk | hk
      · rcases hn9 k hk with h | h
        · exact .inl (.inl h)
        · exact .inr (.inr h)
      · rcases hk.snoc with h | h
        · exact .inl (.inr h)
        · exact .inr (.inl h)
    have hKs : Keep (fun k => k = kb) w9 wA := by rw [hwA]; exact (Keep.refl (fun k => k = kb) w9).set kb 2 _ (.inl rfl)
    have hRA : RowsL D wA (.slice ao9 (ls.length + 1) cap9) (vs ++ [.slice vo ns.length vc]) (ls ++ [ns]) := hR9.keep hKs (fun k hk e => by
      subst e
      rcases hn9k k hk with h | h | h
      · exact A6.out (A7.out k h)
      · exact (HVS.out k h).2 rfl
      · omega)
    have hK9 : Keep (fun k => (Value.slice io ls.length ic).ownBlock = some k) w w9 := ⟨hg9.os, hg9.tape, hg9.output, hg9.size, fun k hk hs => hg9.block k hk (fun e => hs e.symm)⟩
    have hKA : Keep (fun k => k = kb ∨ (Value.slice io ls.length ic).ownBlock = some k) w wA := (hK9.mono (fun k _ h => .inr h)).trans hKs (fun k _ h => .inl h)
    have hRB : RowsL D wA (.slice wo ls.length wc) us ls := A3.out.keep hKA (fun k hk e => by
      rcases e with e | e
      · subst e; exact A6.out (A8.out k hk)
      · exact A9.out k (.inl e) hk)
    have hVA : OwnsK 1 D 3 wA (.slice vo ns.length vc) ns.length (icel ns) := HV.out.keep hKA (fun k hk e => by
      rcases e with e | e
      · exact (HVS.out k hk).2 e
      · exact (HVS.out k hk).1 (A7.out k (.inl e)))
    have kA : BoxL wA kb (bookC (.slice ao9 (ls.length + 1) cap9) (.slice wo ls.length wc)) := by rw [hwA]; exact k9.set 2 _ (by simp)
    have hIN : IntsN .i64 wA (.slice vo ns.length vc) ns := ints_of_owns (owns_icel hVA)
    have HRA := Lib.hid hRA
    have HRB := Lib.hid hRB
    have HN9 := Lib.hid hn9k
    have HKA := Lib.hid hKA
    have HIN := Lib.hid hIN
    have hDA : D ≤ wA.heap.size := Nat.le_trans hD hKA.size
    clear e2 f2 hO9 hb9 hg9 hn9 hR9 hKs hK9 hRA hRB hn9k hKA hIN hVA k9 hwA a1 A2 A3 hown
    refine wp_region_seqT (S := fun w' => BoxL w' kb (bookC (.slice ao9 (ls.length + 1) cap9) (.slice wo ls.length wc))) [(true, 0), (true, 1), (true, 2), (true, 3), (true, 4), (true, 5), (false, 6), (false, 7), (false, 8), (true, 9), (true, 10)] (by kernel_rfl) (by kernel_rfl) (by kernel_rfl) (by kernel_rfl) (by kernel_rfl) (by kernel_rfl) (fun d _ _ _ _ h => by cases d <;> exact h) kA.drew (fun _ => ?_)
    simp only [pickOps, List.append_eq, List.cons_append, List.nil_append, List.getElem?_toArray, List.getElem?_cons_succ, List.getElem?_cons_zero]
    have hb : Below wA.heap.size wA wA.drew := (Below.refl _ _).drew
    generalize wA.drew = wB at hb ⊢
    have kB := kA.kept hb
    have hINB := HIN.out.below hb
    have hDB := Nat.le_trans hDA hb.size
    repeat (first | (refine seq_take (v := ?_) (by rfl) ?_ ?_; rotate_left; (· intro w hSw; (try dsimp only at hSw); have q3 := hSw.cell 3 _ rfl; clear hSw; go_simp; all_goals with_reducible rfl); (try simp only [Act.put, List.setIfInBounds_toArray, List.set_cons_zero, List.set_cons_succ])) | (refine seq_leave (by rfl) ?_; (try simp only [Act.put, List.setIfInBounds_toArray, List.set_cons_zero, List.set_cons_succ])))
    refine seq_step (by rfl) (fun K hK => ?_)
    go_simp
    go_at_call 43
    (with_reducible refine (copyInts_any _ ns _ hINB hnl).mono ?_)
    rintro e wC ⟨r, rfl, hr, hb2⟩
    have hr9 := icel_owns hr
    obtain ⟨ro, rc, rfl, -, -, -⟩ := hr9.slice
    have kC := kB.kept hb2
    have HBC : Hid (Below wA.heap.size wA wC) := Lib.hid (hb.trans (hb2.mono hb.size))
    have HRC : Hid (OwnsK 1 wA.heap.size 3 wC (.slice ro ns.length rc) ns.length (icel ns)) := Lib.hid (hr9.mono hb.size)
    have hDC := Nat.le_trans hDB hb2.size
    clear kB hINB hr hr9 hb hb2 hDB
    first | refine hK.out _ _ kC (fun _ => ?_) | (go_wp2_with fail; refine hK.out _ _ kC (fun _ => ?_))
    clear hK K
    (try simp only [Act.put, List.setIfInBounds_toArray, List.set_cons_zero, List.set_cons_succ])
    repeat (first | (refine seq_take (v := ?_) (by rfl) ?_ ?_; rotate_left; (· intro w hSw; (try dsimp only at hSw); have q3 := hSw.cell 3 _ rfl; clear hSw; go_simp; all_goals with_reducible rfl); (try simp only [Act.put, List.setIfInBounds_toArray, List.set_cons_zero, List.set_cons_succ])) | (refine seq_leave (by rfl) ?_; (try simp only [Act.put, List.setIfInBounds_toArray, List.set_cons_zero, List.set_cons_succ])))
    refine seq_step (by rfl) (fun K hK => ?_)
    go_simp
    obtain ⟨wD, hwD⟩ : ∃ W, W = wC.alloc (.cells #[.slice ro ns.length rc] 27) := ⟨_, rfl⟩
    obtain ⟨pb, hpb⟩ : ∃ p, p = wC.heap.size := ⟨_, rfl⟩
    have hb3 : Below wC.heap.size wC wD := by rw [hwD]; exact (Below.refl _ _).alloc (Nat.le_refl _) _
    have hbN : BoxL wD pb [.slice ro ns.length rc] := by rw [hwD, hpb]; exact BoxL.new _ _ _
    rw [← hwD, ← hpb]
    have HPB : Hid (wC.heap.size ≤ pb) := Lib.hid (by omega)
    clear hwD hpb
    replace HBC : Hid (Below wA.heap.size wA wD) := Lib.hid (HBC.out.trans (hb3.mono HBC.out.size))
    replace HRC : Hid (OwnsK 1 wA.heap.size 3 wD (.slice ro ns.length rc) ns.length (icel ns)) := Lib.hid (HRC.out.kept hb3)
    replace kC := kC.kept hb3
    have hDD := Nat.le_trans hDC hb3.size
    have hOB : OwnsK 1 D 27 wD (.slice wo ls.length wc) ls.length us := (HRB.out.kept HBC.out).own
    clear hb3 hDC
    first | refine hK.out _ _ kC (fun _ => ?_) | (go_wp2_with fail; refine hK.out _ _ kC (fun _ => ?_))
    clear hK K
    (try simp only [Act.put, List.setIfInBounds_toArray, List.set_cons_zero, List.set_cons_succ])
    refine seq_step (by rfl) (fun K hK => ?_)
    refine step_appendKs (us := [.slice ro ns.length rc]) E_rowsI hOB rfl rfl rfl rfl (fun j u hj => by rw [Addr.add_lit, Nat.zero_add]; exact hbN.cell j u hj) (by simp [Value.oneCell']) (by omega) (by unfold maxLen; omega) hDD ?_
    intro v8 wE hO8 hg8 hn8
    obtain ⟨bo8, bc8, rfl, -, -, -⟩ := hO8.slice
    have hRE : RowsL D wE (.slice bo8 (ls.length + 1) bc8) (us ++ [.slice ro ns.length rc]) (ls ++ [ns]) := (HRB.out.kept HBC.out).snoc hO8 hg8 hn8 (HRC.out.mono hDA) (fun k hk => by
      have h1 := (HRC.out.lt k hk).1
      exact ⟨fun e => by have := (HRB.out.lt (.inl e)).2; omega, fun e => by have := (HRB.out.lt (.inr e)).2; omega⟩)
    have hn8k : ∀ k, (Value.slice bo8 (ls.length + 1) bc8).ownBlock = some k ∨ OfL (us ++ [.slice ro ns.length rc]) k → ((Value.slice wo ls.length wc).ownBlock = some k ∨ OfL us k) ∨ wA.heap.size ≤ k := fun k hk => by
      rcases hk with hk | hk
      · rcases hn8 k hk with h | h
        · exact .inl (.inl h)
        · exact .inr (Nat.le_trans HBC.out.size h)
      · rcases hk.snoc with h | h
        · exact .inl (.inr h)
        · exact .inr (HRC.out.lt k h).1
    have hK8 : Keep (fun k => (Value.slice wo ls.length wc).ownBlock = some k) wA wE := (Keep.of_below HBC.out).trans (S' := fun k => (Value.slice wo ls.length wc).ownBlock = some k) ⟨hg8.os, hg8.tape, hg8.output, hg8.size, fun k hk hs => hg8.block k hk (fun e9 => hs e9.symm)⟩ (fun k _ hs => hs)
    have kE : BoxL wE kb (bookC (.slice ao9 (ls.length + 1) cap9) (.slice wo ls.length wc)) := kC.block (hg8.block kb kC.lt (fun e9 => A6.out (A8.out kb (.inl e9.symm))))
    have hRE2 : RowsL D wE (.slice ao9 (ls.length + 1) cap9) (vs ++ [.slice vo ns.length vc]) (ls ++ [ns]) := HRA.out.keep hK8 (fun k hk e => by
      have hlt := (HRB.out.lt (.inl e)).2
      rcases HN9.out k hk with h | h | h
      · exact A9.out k h (.inl e)
      · exact (HVS.out k h).1 (A8.out k (.inl e))
      · have := HLW.out k (.inl e); omega)
    have HRE := Lib.hid hRE
    have HRE2 := Lib.hid hRE2
    have HN8 := Lib.hid hn8k
    have HK8 := Lib.hid hK8
    clear hOB hbN hDD kC hO8 hg8 hn8 hRE hRE2 hn8k hK8
    have kC := kE
    first | refine hK.out _ _ kC (fun _ => ?_) | (go_wp2_with fail; refine hK.out _ _ kC (fun _ => ?_))
    clear hK K
    (try simp only [Act.put, List.setIfInBounds_toArray, List.set_cons_zero, List.set_cons_succ])
    repeat (first | (refine seq_take (v := ?_) (by rfl) ?_ ?_; rotate_left; (· intro w hSw; (try dsimp only at hSw); have q3 := hSw.cell 3 _ rfl; clear hSw; go_simp; all_goals with_reducible rfl); (try simp only [Act.put, List.setIfInBounds_toArray, List.set_cons_zero, List.set_cons_succ])) | (refine seq_leave (by rfl) ?_; (try simp only [Act.put, List.setIfInBounds_toArray, List.set_cons_zero, List.set_cons_succ])))
    refine seq_end ?_
    refine tail_end rfl rfl ?_
    have e3 := kE.cell 3 _ rfl
    have f3 := kE.free 3 (by simp)
    go_simp
    clear e3 f3
    (try go_wp2_with fail)
    (try simp only [Exit.inBlock, Exit.then])
    go_end0
    have hSS : Keep (fun k => k = kb) wE (wE.setCell ⟨kb, 3, none⟩ (.slice bo8 (ls.length + 1) bc8)) := (Keep.refl (fun k => k = kb) wE).set kb 3 _ (.inl rfl)
    have hszA := HKA.out.size
    have hnk8 : ∀ k, k = kb → (Value.slice bo8 (ls.length + 1) bc8).ownBlock = some k ∨ OfL (us ++ [.slice ro ns.length rc]) k → False := fun k e hk => by
      subst e
      rcases HN8.out k hk with h | h
      · exact A6.out (A8.out k h)
      · omega
    have hnk9 : ∀ k, k = kb → (Value.slice ao9 (ls.length + 1) cap9).ownBlock = some k ∨ OfL (vs ++ [.slice vo ns.length vc]) k → False := fun k e hk => by
      subst e
      rcases HN9.out k hk with h | h | h
      · exact A6.out (A7.out k h)
      · exact (HVS.out k h).2 rfl
      · omega
    refine ⟨rfl, ⟨fun k => S k ∨ (Value.slice vo ns.length vc).ownBlock = some k ∨ w.heap.size ≤ k, ⟨_, _, _, _, ls ++ [ns], kE.set 3 _ (by simp), HRE2.out.keep hSS (fun k hk e => hnk9 k e hk), HRE.out.keep hSS (fun k hk e => hnk8 k e hk), by simp; omega, fun ms hm => ?_, fun h => ?_, fun k hk => ?_, fun k hk => ?_, fun k h1 h2 => ?_⟩, fun k h => h⟩, ((HKA.out.mono (fun k _ h => ?_)).trans (HK8.out.mono (S' := fun k => k = kb ∨ S k) (fun k _ h => .inr (A8.out k (.inl h)))) (fun k _ h => h)).trans hSS (fun k _ h => .inl h)⟩
    · rcases List.mem_append.1 hm with h | h
      · exact A5.out ms h
      · simp at h; subst h; exact hnl
    · rcases h with h | h | h
      · exact A6.out h
      · exact (HVS.out kb h).2 rfl
      · omega
    · rcases HN9.out k hk with h | h | h
      · exact .inl (A7.out k h)
      · exact .inr (.inl h)
      · exact .inr (.inr h)
    · rcases HN8.out k hk with h | h
      · exact .inl (A8.out k h)
      · exact .inr (.inr (by omega))
    · rcases HN8.out k h2 with h3 | h3
      · rcases HN9.out k h1 with h | h | h
        · exact A9.out k h h3
        · exact (HVS.out k h).1 (A8.out k h3)
        · have := HLW.out k h3; omega
      · have := (HRA.out.lt h1).2; omega
    · rcases h with h | h
      · exact .inl h
      · exact .inr (A7.out k (.inl h))
end Go.Proofs.YtlmjkbdodecbmaaGreatDoor

namespace Go.Proofs.YtlmjkbdodecbmaaGreatDoor
open Go.RowKit
set_option linter.unusedVariables false
set_option linter.unusedSimpArgs false
theorem fold_le (t : TR) : ∀ (r : List (Nat × Nat)) (way : List Int) (tl : List (List Int)), (r.foldl (ptStep t) (way, tl)).1.length ≤ way.length + r.length := by
  intro r
  induction r with
  | nil => intro way tl; exact Nat.le_refl _
  | cons x r ih =>
    intro way tl
    rw [List.foldl_cons]
    refine Nat.le_trans (ih _ _) ?_
    rw [List.length_append, List.length_take]
    simp only [List.length_cons, List.length_nil]
    omega
theorem wayP_le (t : TR) (l : List (Nat × Nat)) : (wayP t l).length ≤ l.length := by
  have := fold_le t l [] []
  simpa [wayP, ptS] using this
/-- Between two steps of the way back: k nodes are still to be looked at. -/
structure BackW (t : TR) (L : List (Nat × Nat)) (i k : Nat) (x : Nat × Nat) (way : List Int) : Prop where
  pos : 0 < way.length
  le : way.length ≤ x.2
  room : x.2 - way.length ≤ (wayP t (L.take k)).length
  eq : (wayP t (L.take k)).take (x.2 - way.length) ++ way = wayP t (L.take (i + 1))
theorem take_pre {L : List (Nat × Nat)} {i : Nat} {x : Nat × Nat} (hx : L[i]? = some x) : L.take (i + 1) = L.take i ++ [x] := by rw [List.take_add_one, hx]; rfl
theorem way_at {t : TR} {L : List (Nat × Nat)} (hL : L = walkT t) {i : Nat} {x : Nat × Nat} (hx : L[i]? = some x) : 1 ≤ x.2 ∧ x.2 ≤ (wayP t (L.take i)).length + 1 ∧ (wayP t (L.take (i + 1))).length = x.2 := by
  rw [take_pre hx]
  exact way_room (by rw [← take_pre hx, ← hL]; exact List.take_prefix _ _)
theorem way_depth {t : TR} {L : List (Nat × Nat)} (hL : L = walkT t) {i : Nat} {x : Nat × Nat} (hx : L[i]? = some x) : 1 ≤ x.2 ∧ x.2 ≤ i + 1 := by
  have h := way_at hL hx
  have h2 := wayP_le t (L.take i)
  rw [List.length_take] at h2
  omega
theorem BackW.start {t : TR} {L : List (Nat × Nat)} (hL : L = walkT t) {i : Nat} {x : Nat × Nat} (hx : L[i]? = some x) : BackW t L i i x [(x.1 : Int)] := by
  obtain ⟨h1, h2, h3⟩ := way_at hL hx
  refine ⟨by simp, by simpa using h1, by simp; omega, ?_⟩
  rw [take_pre hx, wayP_snoc]
  rfl
theorem BackW.step {t : TR} {L : List (Nat × Nat)} (hL : L = walkT t) {i k : Nat} {x y : Nat × Nat} {way : List Int} (h : BackW t L i (k + 1) x way) (hy : L[k]? = some y) : BackW t L i k x (if (y.2 : Int) - 1 < (x.2 : Int) - 1 - (way.length : Int) + 1 then (y.1 : Int) :: way else way) := by
  obtain ⟨h1, h2, h3⟩ := way_at hL hy
  obtain ⟨p1, p2, p3, p4⟩ := h
  rw [h3] at p3
  have hw : wayP t (L.take (k + 1)) = (wayP t (L.take k)).take (y.2 - 1) ++ [(y.1 : Int)] := by rw [take_pre hy, wayP_snoc]
  rw [hw] at p4
  have hl : ((wayP t (L.take k)).take (y.2 - 1)).length = y.2 - 1 := by rw [List.length_take]; omega
  by_cases hc : (y.2 : Int) - 1 < (x.2 : Int) - 1 - (way.length : Int) + 1
  · rw [if_pos hc]
    have he : x.2 - way.length = y.2 := by omega
    refine ⟨by simp, by simp; omega, by simp; omega, ?_⟩
    rw [← p4, he, List.take_of_length_le (l := (wayP t (L.take k)).take (y.2 - 1) ++ [(y.1 : Int)]) (by rw [List.length_append, hl]; simp; omega), List.length_cons, show x.2 - (way.length + 1) = y.2 - 1 by omega, List.append_assoc]
    rfl
  · rw [if_neg hc]
    refine ⟨p1, p2, by omega, ?_⟩
    rw [← p4, List.take_append_of_le_length (by rw [hl]; omega), List.take_take, Nat.min_eq_left (by omega)]
theorem BackW.done {t : TR} {L : List (Nat × Nat)} {i : Nat} {x : Nat × Nat} {way : List Int} (h : BackW t L i 0 x way) : way = wayP t (L.take (i + 1)) := by
  have := h.eq
  rw [List.take_zero] at this
  rw [← this]
  simp [wayP, ptS]
theorem told_step {t : TR} {L : List (Nat × Nat)} {i : Nat} {x : Nat × Nat} (hx : L[i]? = some x) : toldP t (L.take (i + 1)) = if kidsT t x.1 = [] then toldP t (L.take i) ++ [wayP t (L.take (i + 1))] else toldP t (L.take i) := by
  rw [take_pre hx]
  split
  · next h => exact toldP_leaf _ h
  · next h => exact toldP_no _ h
/-- What a limit leaves: the number of elements. -/
def cutN (stop : Int) (n : Nat) : Nat := if 0 < stop ∧ stop < (n : Int) then stop.toNat else n
theorem cutN_pos {stop : Int} (n : Nat) (h : 0 < stop) : ((cutN stop n : Nat) : Int) = min (n : Int) stop := by unfold cutN; split <;> omega
theorem cutN_neg {stop : Int} (n : Nat) (h : ¬ 0 < stop) : cutN stop n = n := by unfold cutN; rw [if_neg (by omega)]
theorem no_walk {t : TR} (h : shapeB t = false) : walkT t = [] := by unfold walkT; rw [if_neg (by simp [h])]
end Go.Proofs.YtlmjkbdodecbmaaGreatDoor

namespace Go.Proofs.YtlmjkbdodecbmaaGreatDoor
open Go.RowKit Go.Shelf
set_option linter.unusedVariables false
set_option linter.unusedSimpArgs false
section
variable {P : Program} {t e : TypeId} {z : Value} {K bytes : Nat}
end
theorem BoxL.of_ownsC {K base : Nat} {e : TypeId} {w : World} {g n c : Nat} {xs : List Value} (h : OwnsK K base e w (.slice (some ⟨g, 0, none⟩) n c) n xs) : BoxL w g xs := by
  obtain ⟨h1, ⟨h2, _⟩ | ⟨g', cap, cur, e1, h3, h4, h5, h6, h7, h8⟩⟩ := h
  · cases h2
  · cases e1
    refine ⟨fun i x hi => ?_, fun i hi => ?_, (Array.getElem?_eq_some_iff.1 h4).1⟩
    · unfold World.cell?
      rw [h4]
      rw [← h8, List.getElem?_take] at hi
      split at hi
      · simpa using hi
      · cases hi
    · unfold World.frozen?
      rw [h4]
      simp
/-- The source of a copy of ints. -/
theorem IntsB.src {B : Nat} {w : World} {io : Option Addr} {ic : Nat} {ns : List Int} (h : IntsB B w io ic ns) : (io = none ∧ ns.length = 0 ∧ ic = 0) ∨ ∃ ad, io = some ad ∧ ∀ j u, (icel ns)[j]? = some u → w.cell? (ad.add j) = some u := by
  cases hio : io with
  | none =>
    have h1 := h.no hio
    have h2 := h.cap
    exact .inl ⟨rfl, by omega, h1⟩
  | some ad =>
    refine .inr ⟨ad, rfl, fun j u hj => ?_⟩
    obtain ⟨n, hn, rfl⟩ := icel_inv hj
    obtain ⟨b, off, e, hb, hc⟩ := h.at_ j n hn
    rw [hio] at e
    cases e
    rw [Addr.add_lit]
    exact hc
theorem IntsB.of_owns {base : Nat} {e : TypeId} {w : World} {io : Option Addr} {n ic : Nat} {ns : List Int} (h : OwnsK 1 base e w (.slice io n ic) n (icel ns)) (hn : ns.length = n) : IntsB w.heap.size w io ic ns := (IntsQ.of_owns h hn).toB
/-- The rest of a row of ints. -/
theorem IntsB.rest {B : Nat} {w : World} {b off ic : Nat} {n : Int} {ns : List Int} (h : IntsB B w (some ⟨b, off, none⟩) ic (n :: ns)) : IntsB B w (some ⟨b, off + 1, none⟩) (ic - 1) ns := by
  have hc := h.cap
  rw [List.length_cons] at hc
  refine ⟨⟨by omega, by omega⟩, fun e => (by cases e), fun i x hi => ?_⟩
  obtain ⟨b', off', e, hb, hx⟩ := h.at_ (i + 1) x (by simpa using hi)
  cases e
  exact ⟨b, off + 1, rfl, hb, by rw [show off + 1 + i = off + (i + 1) by omega]; exact hx⟩
/-- A tree's nodes as cells. -/
theorem TrIs.cells {B : Nat} {w : World} {t : TR} {b off nc : Nat} (h : TrIs B w t (some ⟨b, off, none⟩) nc) : ∀ k, k ≤ t.nodes.length → ∃ news : List Value, news.length = k * 8 ∧ (∀ j u, news[j]? = some u → w.cell? ⟨b, off + j, none⟩ = some u) ∧ (∀ u ∈ news, u.oneCell' = true) ∧ ∀ i n, i < k → t.nodes[i]? = some n → ∃ l, NdIs B w n l ∧ ndLs news (i * 8) n l := by
  intro k
  induction k with
  | zero => intro _; exact ⟨[], rfl, by simp, by simp, fun i n hi => absurd hi (Nat.not_lt_zero _)⟩
  | succ k ih =>
    intro hk
    obtain ⟨news, h1, h2, h3, h4⟩ := ih (by omega)
    obtain ⟨n, hn⟩ : ∃ n, t.nodes[k]? = some n := ⟨_, List.getElem?_eq_getElem (by omega)⟩
    obtain ⟨b', off', l, e, hb, h5, h6⟩ := h.at_ k n hn
    cases e
    obtain ⟨c0, c1, c2, c3, c4, c5, c6, c7⟩ := h6
    obtain ⟨cs, hcs⟩ : ∃ cs : List Value, cs = [.int .i64 n.p.op, .int .i64 n.p.fld, .slice l.vo n.p.vals.length l.vc, .slice l.ko n.p.kids.length l.kc, .string ⟨n.sc.toArray⟩, .string ⟨n.ct.toArray⟩, .slice l.io n.kids.length l.ic, .int .i64 n.df] := ⟨_, rfl⟩
    have hcl : cs.length = 8 := by rw [hcs]; rfl
    have hat : ∀ r u, cs[r]? = some u → w.cell? ⟨b, off + (k * 8 + r), none⟩ = some u := by
      intro r u hr
      rw [show off + (k * 8 + r) = off + k * 8 + r by omega]
      rw [hcs] at hr
      match r, hr with
      | 0, hr => cases hr; exact c0
      | 1, hr => cases hr; exact c1
      | 2, hr => cases hr; exact c2
      | 3, hr => cases hr; exact c3
      | 4, hr => cases hr; exact c4
      | 5, hr => cases hr; exact c5
      | 6, hr => cases hr; exact c6
      | 7, hr => cases hr; exact c7
    refine ⟨news ++ cs, by rw [List.length_append, h1, hcl]; omega, fun j u hj => ?_, fun u hu => ?_, fun i m hi hm => ?_⟩
    · rcases Nat.lt_or_ge j (k * 8) with h9 | h9
      · rw [List.getElem?_append_left (by omega)] at hj
        exact h2 j u hj
      · rw [List.getElem?_append_right (by omega), h1] at hj
        have := hat _ u hj
        rw [show k * 8 + (j - k * 8) = j by omega] at this
        exact this
    · rcases List.mem_append.1 hu with h9 | h9
      · exact h3 u h9
      · rw [hcs] at h9
        simp only [List.mem_cons, List.not_mem_nil, or_false] at h9
        rcases h9 with rfl | rfl | rfl | rfl | rfl | rfl | rfl | rfl <;> rfl
    · by_cases hik : i = k
      · subst hik
        rw [hn] at hm
        cases hm
        have hx : ∀ r, (news ++ cs)[i * 8 + r]? = cs[r]? := fun r => by rw [List.getElem?_append_right (by omega), h1, show i * 8 + r - i * 8 = r by omega]
        refine ⟨l, h5, ?_⟩
        have h0 := hx 0
        rw [Nat.add_zero] at h0
        exact ⟨by rw [h0, hcs]; rfl, by rw [hx, hcs]; rfl, by rw [hx, hcs]; rfl, by rw [hx, hcs]; rfl, by rw [hx, hcs]; rfl, by rw [hx, hcs]; rfl, by rw [hx, hcs]; rfl, by rw [hx, hcs]; rfl⟩
      · obtain ⟨l2, h7, h8⟩ := h4 i m (by omega) hm
        exact ⟨l2, h7, Ls8.keep h8 fun c hc => by rw [List.getElem?_append_left (by omega)]⟩
end Go.Proofs.YtlmjkbdodecbmaaGreatDoor
