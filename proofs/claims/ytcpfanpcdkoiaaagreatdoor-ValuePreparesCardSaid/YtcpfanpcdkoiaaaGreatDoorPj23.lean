/-
  Pj23: BookVe (what is needed of them).
-/
import Derived.Test.YtcpfanpcdkoiaaaGreatDoorPj22
set_option maxRecDepth 100000
set_option linter.unusedVariables false
set_option linter.unusedSimpArgs false

namespace Go.Proofs.YtcpfanpcdkoiaaaGreatDoor
open Go.RowKit Go.Shelf


structure RowsV (D : Nat) (w : World) (v : Value) (xs : List Value) (R : List (List V3)) : Prop where
 own : OwnsK 1 D 23 w v R.length xs
 row : ∀ (i : Nat) (u : Value) (ns : List V3), xs[i]? = some u → R[i]? = some ns → OwV D w u ns
 ap : ∀ (i j : Nat) (v u : Value) (g : Nat), xs[i]? = some v → xs[j]? = some u → v.ownBlock = some g → u.ownBlock = some g → i = j
 ne : ∀ k, OfL xs k → v.ownBlock ≠ some k
theorem RowsV.nil (D : Nat) (w : World) : RowsV D w (.slice none 0 0) [] [] :=
 ⟨OwnsK.nil _ _ _ _, fun i u ns h => by simp at h, fun i j v u g h => by simp at h, fun k ⟨i, v, h, _⟩ => by simp at h⟩
theorem RowsV.len {D : Nat} {w : World} {v : Value} {xs : List Value} {R : List (List V3)} (h : RowsV D w v xs R) : xs.length = R.length := by have := h.own.len; rw [Nat.mul_one] at this; exact this
theorem RowsV.lt {D : Nat} {w : World} {v : Value} {xs : List Value} {R : List (List V3)} (h : RowsV D w v xs R) {k : Nat} (hk : v.ownBlock = some k ∨ OfL xs k) : D ≤ k ∧ k < w.heap.size := by
 rcases hk with hk | ⟨i, u, h1, h2⟩
 ·exact h.own.lt k hk
 ·have hi := (List.getElem?_eq_some_iff.1 h1).1
  have := h.len
  exact (h.row i u _ h1 (List.getElem?_eq_getElem (by omega))).lt k h2
theorem RowsV.keep {S : Nat → Prop} {D : Nat} {w w' : World} {v : Value} {xs : List Value} {R : List (List V3)} (h : RowsV D w v xs R) (hk : Keep S w w') (hS : ∀ k, v.ownBlock = some k ∨ OfL xs k → ¬ S k) : RowsV D w' v xs R :=
 ⟨h.own.keep hk fun g hg => hS g (.inl hg), fun i u ns h1 h2 => (h.row i u ns h1 h2).keep hk fun g hg => hS g (.inr ⟨i, u, h1, hg⟩), h.ap, h.ne⟩
theorem RowsV.kept {D : Nat} {w w' : World} {v : Value} {xs : List Value} {R : List (List V3)} (h : RowsV D w v xs R) (hb : Below w.heap.size w w') : RowsV D w' v xs R :=
 h.keep (Keep.of_below (S := fun _ => False) hb) fun _ _ h => h
theorem RowsV.mono {D D' : Nat} {w : World} {v : Value} {xs : List Value} {R : List (List V3)} (h : RowsV D w v xs R) (hD : D' ≤ D) : RowsV D' w v xs R :=
 ⟨h.own.mono hD, fun i u ns h1 h2 => (h.row i u ns h1 h2).mono hD, h.ap, h.ne⟩
theorem snoc_invV {α : Type} {xs : List α} {r u : α} {i : Nat} (h : (xs ++ [r])[i]? = some u) : (i < xs.length ∧ xs[i]? = some u) ∨ (i = xs.length ∧ u = r) := by
 rcases Nat.lt_or_ge i xs.length with h3 | h3
 ·rw [List.getElem?_append_left h3] at h
  exact .inl ⟨h3, h⟩
 ·rw [List.getElem?_append_right h3] at h
  cases hi9 : i - xs.length with
  | zero =>
   rw [hi9] at h
   exact .inr ⟨by omega, (Option.some.inj h).symm⟩
  | succ j => rw [hi9] at h; simp at h
theorem OfL.snocV {xs : List Value} {r : Value} {k : Nat} (h : OfL (xs ++ [r]) k) : OfL xs k ∨ r.ownBlock = some k := by
 obtain ⟨i, v, h1, h2⟩ := h
 rcases snoc_invV h1 with ⟨_, h3⟩ | ⟨_, rfl⟩
 ·exact .inl ⟨i, v, h3, h2⟩
 ·exact .inr h2
theorem RowsV.snoc {D : Nat} {w w' : World} {v v' r : Value} {xs : List Value} {R : List (List V3)} {ns : List V3} (h : RowsV D w v xs R) (ho : OwnsK 1 D 23 w' v' (R.length + 1) (xs ++ [r])) (hg : w.grownBy w' v.ownBlock) (hn : ∀ g, v'.ownBlock = some g → v.ownBlock = some g ∨ w.heap.size ≤ g)
  (hr : OwV D w r ns) (hr1 : ∀ k, r.ownBlock = some k → v.ownBlock ≠ some k ∧ ¬ OfL xs k) : RowsV D w' v' (xs ++ [r]) (R ++ [ns]) := by
 have hK : Keep (fun k => v.ownBlock = some k) w w' := ⟨hg.os, hg.tape, hg.output, hg.size, fun k hk hs => hg.block k hk (fun e => hs e.symm)⟩
 have hl := h.len
 refine ⟨by rw [List.length_append, List.length_singleton]; exact ho, fun i u ms h1 h2 => ?_, fun i j a b g h1 h2 h3 h4 => ?_, fun k hk e => ?_⟩
 ·rcases snoc_invV h1 with ⟨h5, h6⟩ | ⟨h5, rfl⟩
  ·rw [List.getElem?_append_left (by omega)] at h2
   exact (h.row i u ms h6 h2).keep hK fun g hg9 e => h.ne g ⟨i, u, h6, hg9⟩ e
  ·rw [h5, hl, List.getElem?_concat_length] at h2
   cases h2
   exact hr.keep hK fun g hg9 e => (hr1 g hg9).1 e
 ·rcases snoc_invV h1 with ⟨a1, a2⟩ | ⟨a1, rfl⟩
  ·rcases snoc_invV h2 with ⟨b1, b2⟩ | ⟨b1, rfl⟩
   ·exact h.ap i j a b g a2 b2 h3 h4
   ·exact ((hr1 g h4).2 ⟨i, a, a2, h3⟩).elim
  ·rcases snoc_invV h2 with ⟨b1, b2⟩ | ⟨b1, rfl⟩
   ·exact ((hr1 g h3).2 ⟨j, b, b2, h4⟩).elim
   ·omega
 ·have hlt : v.ownBlock ≠ some k ∧ k < w.heap.size := by
   rcases hk.snocV with h5 | h5
   ·exact ⟨h.ne k h5, (h.lt (.inr h5)).2⟩
   ·exact ⟨(hr1 k h5).1, (hr.lt k h5).2⟩
  rcases hn k e with h5 | h5
  ·exact hlt.1 h5
  ·omega
abbrev bookCv (bi bw : Value) : List Value := [.slice none 0 0, .slice none 0 0, .slice none 0 0, .slice none 0 0, .slice none 0 0, .slice none 0 0, .slice none 0 0, .slice none 0 0, bi, bw, .slice none 0 0, .slice none 0 0]
def BkVs (D kb : Nat) (S : Nat → Prop) (w : World) : Prop := ∃ (bi bw : Value) (vs us : List Value) (ls : List (List V3)), BoxL w kb (bookCv bi bw) ∧ RowsV D w bi vs ls ∧ RowsV D w bw us ls ∧ ls.length ≤ 250 ∧ (∀ ns ∈ ls, ns.length ≤ 1000000) ∧ ¬ S kb ∧ (∀ k, bi.ownBlock = some k ∨ OfL vs k → S k) ∧ (∀ k, bw.ownBlock = some k ∨ OfL us k → S k) ∧ (∀ k, bi.ownBlock = some k ∨ OfL vs k → ¬ (bw.ownBlock = some k ∨ OfL us k))
theorem BkVs.keep {T : Nat → Prop} {D kb : Nat} {S : Nat → Prop} {w w' : World} (h : BkVs D kb S w) (hk : Keep T w w') (h1 : ¬ T kb) (h2 : ∀ k, S k → ¬ T k) : BkVs D kb S w' := by
 obtain ⟨bi, bw, vs, us, ls, a1, a2, a3, a4, a5, a6, a7, a8, a9⟩ := h
 exact ⟨bi, bw, vs, us, ls, a1.keep hk h1, a2.keep hk fun k hk9 => h2 k (a7 k hk9), a3.keep hk fun k hk9 => h2 k (a8 k hk9), a4, a5, a6, a7, a8, a9⟩
theorem BkVs.kept {D kb : Nat} {S : Nat → Prop} {w w' : World} (h : BkVs D kb S w) (hb : Below w.heap.size w w') : BkVs D kb S w' :=
 h.keep (Keep.of_below (S := fun _ => False) hb) id fun _ _ h => h
theorem RowsV.view {D : Nat} {w : World} {v : Value} {xs : List Value} {R : List (List V3)} (h : RowsV D w v xs R) : VView w v xs := by
 refine VView.of (B := D) (e := 23) ?_
 show OwnsK 1 D 23 w v xs.length xs
 rw [h.len]
 exact h.own
theorem bookApartV_any (D kb : Nat) (S : Nat → Prop) (w : World) (h : BkVs D kb S w) (hD : D ≤ w.heap.size) :
  Calls Tryz.prog 18 #[.pointer (some ⟨kb, 0, none⟩)] w fun e w' => e = .returned (.bool true) ∧ Below D w w' := by
 obtain ⟨bi, bw, vs, us, ls, a1, a2, a3, a4, a5, a6, a7, a8, a9⟩ := h
 exact apart_vals D kb bi bw vs us ls w a1 a2.view a3.view a2.len a3.len (by rw [a2.len]; exact a4) hD (fun i v ns h1 h2 => ⟨a2.row i v ns h1 h2, a5 ns (List.mem_of_getElem? h2)⟩) (fun i v ns h1 h2 => a3.row i v ns h1 h2) a2.ap (fun h => a6 (a7 kb (.inr h))) (fun g hg h => a2.ne g h hg)
theorem BkVs.new (w : World) (e : TypeId) : BkVs w.heap.size w.heap.size (fun _ => False) (w.alloc (.cells (bookCv (.slice none 0 0) (.slice none 0 0)).toArray e)) :=
 ⟨.slice none 0 0, .slice none 0 0, [], [], [], BoxL.new w _ _, RowsV.nil _ _, RowsV.nil _ _, by simp, fun ns h => by simp at h, id, fun k h => by rcases h with h | ⟨i, v, h, _⟩; simp [Value.ownBlock] at h; simp at h, fun k h => by rcases h with h | ⟨i, v, h, _⟩; simp [Value.ownBlock] at h; simp at h, fun k h => by rcases h with h | ⟨i, v, h, _⟩; simp [Value.ownBlock] at h; simp at h⟩
set_option maxHeartbeats 4000000 in
theorem bookValues_any (D kb : Nat) (S : Nat → Prop) (v : Value) (ns : List V3) (w : World) (h : BkVs D kb S w) (hD : D ≤ w.heap.size) (hv : OwV D w v ns) (hnl : ns.length ≤ 1000000) (hvS : ∀ k, v.ownBlock = some k → ¬ S k ∧ k ≠ kb) :
  Calls Tryz.prog 15 #[.pointer (some ⟨kb, 0, none⟩), v] w fun e w' => e = .returned (.tuple #[]) ∧ (∃ S', BkVs D kb S' w' ∧ ∀ k, S' k → S k ∨ v.ownBlock = some k ∨ w.heap.size ≤ k) ∧ Keep (fun k => k = kb ∨ S k) w w' := by
 obtain ⟨bi, bw, vs, us, ls, a1, a2, a3, a4, a5, a6, a7, a8, a9⟩ := h
 have hkw := a1.lt
 have A2 := Lib.hid a2
 have A3 := Lib.hid a3
 have A5 := Lib.hid a5
 have A6 := Lib.hid a6
 have A7 := Lib.hid a7
 have A8 := Lib.hid a8
 have A9 := Lib.hid a9
 have HV := Lib.hid hv
 have HVS := Lib.hid hvS
 obtain ⟨io, ic, rfl, hi1, hi2, -⟩ := a2.own.slice
 obtain ⟨wo, wc, rfl, -, -, -⟩ := a3.own.slice
 obtain ⟨vo, vc, rfl, -, -⟩ := hv.form
 have hown := a2.own
 have HLW : Hid (∀ k, (Value.slice wo ls.length wc).ownBlock = some k ∨ OfL us k → k < w.heap.size) := Lib.hid (fun k hk => (a3.lt hk).2)
 clear a2 a3 a5 a6 a7 a8 a9 hv hvS
 go_enter Tryz.func15, Tryz.ntmps15
 have e2 := a1.cell 8 _ rfl
 by_cases hl : ls.length < 250
 case neg =>
  have hlt : ¬ ((ls.length : Nat) : Int) < 250 := by omega
  go_wp2_with fail
  go_end0
  exact ⟨rfl, ⟨S, ⟨_, _, vs, us, ls, a1, A2.out, A3.out, a4, A5.out, A6.out, A7.out, A8.out, A9.out⟩, fun k hk => .inl hk⟩, Keep.refl _ _⟩
 case pos =>
  have hlt : ((ls.length : Nat) : Int) < 250 := by omega
  have f2 := a1.free 8 (by simp)
  go_upto_region 2 with (at_builtin; refine append1KO E_outV hown rfl rfl rfl rfl rfl (by simp [Value.oneCell']) (by omega) (by unfold maxLen; omega) hD ?_; intro v9 w9 hO9 hb9 hg9 hn9; obtain ⟨ao9, cap9, rfl, -, -, -⟩ := hO9.slice; have k9 := a1.block (hg9.block kb a1.lt (fun e9 => A6.out (A7.out kb (.inl e9.symm)))); clear e2 f2; have e2 := k9.cell 8 _ rfl; have f2 := k9.free 8 (by simp))
  obtain ⟨wA, hwA⟩ : ∃ W', W' = w9.setCell ⟨kb, 8, none⟩ (.slice ao9 (ls.length + 1) cap9) := ⟨_, rfl⟩
  rw [← hwA]
  have hR9 : RowsV D w9 (.slice ao9 (ls.length + 1) cap9) (vs ++ [.slice vo ns.length vc]) (ls ++ [ns]) := A2.out.snoc hO9 hg9 hn9 HV.out (fun k hk => ⟨fun e => (HVS.out k hk).1 (A7.out k (.inl e)), fun e => (HVS.out k hk).1 (A7.out k (.inr e))⟩)
  have hn9k : ∀ k, (Value.slice ao9 (ls.length + 1) cap9).ownBlock = some k ∨ OfL (vs ++ [.slice vo ns.length vc]) k → ((Value.slice io ls.length ic).ownBlock = some k ∨ OfL vs k) ∨ (Value.slice vo ns.length vc).ownBlock = some k ∨ w.heap.size ≤ k := fun k hk => by
   rcases hk with hk | hk
   ·rcases hn9 k hk with h | h
    ·exact .inl (.inl h)
    ·exact .inr (.inr h)
   ·rcases hk.snocV with h | h
    ·exact .inl (.inr h)
    ·exact .inr (.inl h)
  have hKs : Keep (fun k => k = kb) w9 wA := by rw [hwA]; exact (Keep.refl (fun k => k = kb) w9).set kb 8 _ (.inl rfl)
  have hRA : RowsV D wA (.slice ao9 (ls.length + 1) cap9) (vs ++ [.slice vo ns.length vc]) (ls ++ [ns]) := hR9.keep hKs (fun k hk e => by
   subst e
   rcases hn9k k hk with h | h | h
   ·exact A6.out (A7.out k h)
   ·exact (HVS.out k h).2 rfl
   ·omega)
  have hK9 : Keep (fun k => (Value.slice io ls.length ic).ownBlock = some k) w w9 := ⟨hg9.os, hg9.tape, hg9.output, hg9.size, fun k hk hs => hg9.block k hk (fun e => hs e.symm)⟩
  have hKA : Keep (fun k => k = kb ∨ (Value.slice io ls.length ic).ownBlock = some k) w wA := (hK9.mono (fun k _ h => .inr h)).trans hKs (fun k _ h => .inl h)
  have hRB : RowsV D wA (.slice wo ls.length wc) us ls := A3.out.keep hKA (fun k hk e => by
   rcases e with e | e
   ·subst e; exact A6.out (A8.out k hk)
   ·exact A9.out k (.inl e) hk)
  have hVA : OwV D wA (.slice vo ns.length vc) ns := HV.out.keep hKA (fun k hk e => by
   rcases e with e | e
   ·exact (HVS.out k hk).2 e
   ·exact (HVS.out k hk).1 (A7.out k (.inl e)))
  have kA : BoxL wA kb (bookCv (.slice ao9 (ls.length + 1) cap9) (.slice wo ls.length wc)) := by rw [hwA]; exact k9.set 8 _ (by simp)
  have hIN : ValI wA (.slice vo ns.length vc) ns := hVA.val
  have HRA := Lib.hid hRA
  have HRB := Lib.hid hRB
  have HN9 := Lib.hid hn9k
  have HKA := Lib.hid hKA
  have HIN := Lib.hid hIN
  have hDA : D ≤ wA.heap.size := Nat.le_trans hD hKA.size
  clear e2 f2 hO9 hb9 hg9 hn9 hR9 hKs hK9 hRA hRB hn9k hKA hIN hVA k9 hwA a1 A2 A3 hown
  refine wp_region_seqT (S := fun w' => BoxL w' kb (bookCv (.slice ao9 (ls.length + 1) cap9) (.slice wo ls.length wc))) [(true, 0), (true, 1), (true, 2), (true, 3), (true, 4), (true, 5), (false, 6), (false, 7), (false, 8), (true, 9), (true, 10)] (by kernel_rfl) (by kernel_rfl) (by kernel_rfl) (by kernel_rfl) (by kernel_rfl) (by kernel_rfl) (fun d _ _ _ _ h => by cases d <;> exact h) kA.drew (fun _ => ?_)
  simp only [pickOps, List.append_eq, List.cons_append, List.nil_append, List.getElem?_toArray, List.getElem?_cons_succ, List.getElem?_cons_zero]
  have hb : Below wA.heap.size wA wA.drew := (Below.refl _ _).drew
  generalize wA.drew = wB at hb ⊢
  have kB := kA.kept hb
  have hINB := HIN.out.below hb
  have hDB := Nat.le_trans hDA hb.size
  repeat (first | (refine seq_take (v := ?_) (by rfl) ?_ ?_; rotate_left; (· intro w hSw; (try dsimp only at hSw); have q3 := hSw.cell 9 _ rfl; clear hSw; go_simp; all_goals with_reducible rfl); (try simp only [Act.put, List.setIfInBounds_toArray, List.set_cons_zero, List.set_cons_succ])) | (refine seq_leave (by rfl) ?_; (try simp only [Act.put, List.setIfInBounds_toArray, List.set_cons_zero, List.set_cons_succ])))
  refine seq_step (by rfl) (fun K hK => ?_)
  go_simp
  go_at_call 41
  (with_reducible refine (copyValues_any _ ns _ hINB hnl).mono ?_)
  rintro e wC ⟨r, rfl, hr, hb2⟩
  have hr9 := hr
  obtain ⟨ro, rc, rfl, -, -⟩ := hr9.form
  have kC := kB.kept hb2
  have HBC : Hid (Below wA.heap.size wA wC) := Lib.hid (hb.trans (hb2.mono hb.size))
  have HRC : Hid (OwV wA.heap.size wC (.slice ro ns.length rc) ns) := Lib.hid (hr9.mono hb.size)
  have hDC := Nat.le_trans hDB hb2.size
  clear kB hINB hr hr9 hb hb2 hDB
  first | refine hK.out _ _ kC (fun _ => ?_) | (go_wp2_with fail; refine hK.out _ _ kC (fun _ => ?_))
  clear hK K
  (try simp only [Act.put, List.setIfInBounds_toArray, List.set_cons_zero, List.set_cons_succ])
  repeat (first | (refine seq_take (v := ?_) (by rfl) ?_ ?_; rotate_left; (· intro w hSw; (try dsimp only at hSw); have q3 := hSw.cell 9 _ rfl; clear hSw; go_simp; all_goals with_reducible rfl); (try simp only [Act.put, List.setIfInBounds_toArray, List.set_cons_zero, List.set_cons_succ])) | (refine seq_leave (by rfl) ?_; (try simp only [Act.put, List.setIfInBounds_toArray, List.set_cons_zero, List.set_cons_succ])))
  refine seq_step (by rfl) (fun K hK => ?_)
  go_simp
  obtain ⟨wD, hwD⟩ : ∃ W, W = wC.alloc (.cells #[.slice ro ns.length rc] 23) := ⟨_, rfl⟩
  obtain ⟨pb, hpb⟩ : ∃ p, p = wC.heap.size := ⟨_, rfl⟩
  have hb3 : Below wC.heap.size wC wD := by rw [hwD]; exact (Below.refl _ _).alloc (Nat.le_refl _) _
  have hbN : BoxL wD pb [.slice ro ns.length rc] := by rw [hwD, hpb]; exact BoxL.new _ _ _
  rw [← hwD, ← hpb]
  have HPB : Hid (wC.heap.size ≤ pb) := Lib.hid (by omega)
  clear hwD hpb
  replace HBC : Hid (Below wA.heap.size wA wD) := Lib.hid (HBC.out.trans (hb3.mono HBC.out.size))
  replace HRC : Hid (OwV wA.heap.size wD (.slice ro ns.length rc) ns) := Lib.hid (HRC.out.kept hb3)
  replace kC := kC.kept hb3
  have hDD := Nat.le_trans hDC hb3.size
  have hOB : OwnsK 1 D 23 wD (.slice wo ls.length wc) ls.length us := (HRB.out.kept HBC.out).own
  clear hb3 hDC
  first | refine hK.out _ _ kC (fun _ => ?_) | (go_wp2_with fail; refine hK.out _ _ kC (fun _ => ?_))
  clear hK K
  (try simp only [Act.put, List.setIfInBounds_toArray, List.set_cons_zero, List.set_cons_succ])
  refine seq_step (by rfl) (fun K hK => ?_)
  refine step_appendKs (us := [.slice ro ns.length rc]) E_outV hOB rfl rfl rfl rfl (fun j u hj => by rw [Addr.add_lit, Nat.zero_add]; exact hbN.cell j u hj) (by simp [Value.oneCell']) (by omega) (by unfold maxLen; omega) hDD ?_
  intro v8 wE hO8 hg8 hn8
  obtain ⟨bo8, bc8, rfl, -, -, -⟩ := hO8.slice
  have hRE : RowsV D wE (.slice bo8 (ls.length + 1) bc8) (us ++ [.slice ro ns.length rc]) (ls ++ [ns]) := (HRB.out.kept HBC.out).snoc hO8 hg8 hn8 (HRC.out.mono hDA) (fun k hk => by
   have h1 := (HRC.out.lt k hk).1
   exact ⟨fun e => by have := (HRB.out.lt (.inl e)).2; omega, fun e => by have := (HRB.out.lt (.inr e)).2; omega⟩)
  have hn8k : ∀ k, (Value.slice bo8 (ls.length + 1) bc8).ownBlock = some k ∨ OfL (us ++ [.slice ro ns.length rc]) k → ((Value.slice wo ls.length wc).ownBlock = some k ∨ OfL us k) ∨ wA.heap.size ≤ k := fun k hk => by
   rcases hk with hk | hk
   ·rcases hn8 k hk with h | h
    ·exact .inl (.inl h)
    ·exact .inr (Nat.le_trans HBC.out.size h)
   ·rcases hk.snocV with h | h
    ·exact .inl (.inr h)
    ·exact .inr (HRC.out.lt k h).1
  have hK8 : Keep (fun k => (Value.slice wo ls.length wc).ownBlock = some k) wA wE := (Keep.of_below HBC.out).trans (S' := fun k => (Value.slice wo ls.length wc).ownBlock = some k) ⟨hg8.os, hg8.tape, hg8.output, hg8.size, fun k hk hs => hg8.block k hk (fun e9 => hs e9.symm)⟩ (fun k _ hs => hs)
  have kE : BoxL wE kb (bookCv (.slice ao9 (ls.length + 1) cap9) (.slice wo ls.length wc)) := kC.block (hg8.block kb kC.lt (fun e9 => A6.out (A8.out kb (.inl e9.symm))))
  have hRE2 : RowsV D wE (.slice ao9 (ls.length + 1) cap9) (vs ++ [.slice vo ns.length vc]) (ls ++ [ns]) := HRA.out.keep hK8 (fun k hk e => by
   have hlt := (HRB.out.lt (.inl e)).2
   rcases HN9.out k hk with h | h | h
   ·exact A9.out k h (.inl e)
   ·exact (HVS.out k h).1 (A8.out k (.inl e))
   ·have := HLW.out k (.inl e); omega)
  have HRE := Lib.hid hRE
  have HRE2 := Lib.hid hRE2
  have HN8 := Lib.hid hn8k
  have HK8 := Lib.hid hK8
  clear hOB hbN hDD kC hO8 hg8 hn8 hRE hRE2 hn8k hK8
  have kC := kE
  first | refine hK.out _ _ kC (fun _ => ?_) | (go_wp2_with fail; refine hK.out _ _ kC (fun _ => ?_))
  clear hK K
  (try simp only [Act.put, List.setIfInBounds_toArray, List.set_cons_zero, List.set_cons_succ])
  repeat (first | (refine seq_take (v := ?_) (by rfl) ?_ ?_; rotate_left; (· intro w hSw; (try dsimp only at hSw); have q3 := hSw.cell 9 _ rfl; clear hSw; go_simp; all_goals with_reducible rfl); (try simp only [Act.put, List.setIfInBounds_toArray, List.set_cons_zero, List.set_cons_succ])) | (refine seq_leave (by rfl) ?_; (try simp only [Act.put, List.setIfInBounds_toArray, List.set_cons_zero, List.set_cons_succ])))
  refine seq_end ?_
  refine tail_end rfl rfl ?_
  have e3 := kE.cell 9 _ rfl
  have f3 := kE.free 9 (by simp)
  go_simp
  clear e3 f3
  (try go_wp2_with fail)
  (try simp only [Exit.inBlock, Exit.then])
  go_end0
  have hSS : Keep (fun k => k = kb) wE (wE.setCell ⟨kb, 9, none⟩ (.slice bo8 (ls.length + 1) bc8)) := (Keep.refl (fun k => k = kb) wE).set kb 9 _ (.inl rfl)
  have hszA := HKA.out.size
  have hnk8 : ∀ k, k = kb → (Value.slice bo8 (ls.length + 1) bc8).ownBlock = some k ∨ OfL (us ++ [.slice ro ns.length rc]) k → False := fun k e hk => by
   subst e
   rcases HN8.out k hk with h | h
   ·exact A6.out (A8.out k h)
   ·omega
  have hnk9 : ∀ k, k = kb → (Value.slice ao9 (ls.length + 1) cap9).ownBlock = some k ∨ OfL (vs ++ [.slice vo ns.length vc]) k → False := fun k e hk => by
   subst e
   rcases HN9.out k hk with h | h | h
   ·exact A6.out (A7.out k h)
   ·exact (HVS.out k h).2 rfl
   ·omega
  refine ⟨rfl, ⟨fun k => S k ∨ (Value.slice vo ns.length vc).ownBlock = some k ∨ w.heap.size ≤ k, ⟨_, _, _, _, ls ++ [ns], kE.set 9 _ (by simp), HRE2.out.keep hSS (fun k hk e => hnk9 k e hk), HRE.out.keep hSS (fun k hk e => hnk8 k e hk), by simp; omega, fun ms hm => ?_, fun h => ?_, fun k hk => ?_, fun k hk => ?_, fun k h1 h2 => ?_⟩, fun k h => h⟩, ((HKA.out.mono (fun k _ h => ?_)).trans (HK8.out.mono (S' := fun k => k = kb ∨ S k) (fun k _ h => .inr (A8.out k (.inl h)))) (fun k _ h => h)).trans hSS (fun k _ h => .inl h)⟩
  ·rcases List.mem_append.1 hm with h | h
   ·exact A5.out ms h
   ·simp at h; subst h; exact hnl
  ·rcases h with h | h | h
   ·exact A6.out h
   ·exact (HVS.out kb h).2 rfl
   ·omega
  ·rcases HN9.out k hk with h | h | h
   ·exact .inl (A7.out k h)
   ·exact .inr (.inl h)
   ·exact .inr (.inr h)
  ·rcases HN8.out k hk with h | h
   ·exact .inl (A8.out k h)
   ·exact .inr (.inr (by omega))
  ·rcases HN8.out k h2 with h3 | h3
   ·rcases HN9.out k h1 with h | h | h
    ·exact A9.out k h h3
    ·exact (HVS.out k h).1 (A8.out k h3)
    ·have := HLW.out k h3; omega
   ·have := (HRA.out.lt h1).2; omega
  ·rcases h with h | h
   ·exact .inl h
   ·exact .inr (A7.out k (.inl h))
theorem BkVs.trim {D kb : Nat} {S : Nat → Prop} {w : World} (h : BkVs D kb S w) : BkVs D kb (fun k => S k ∧ k < w.heap.size) w := by
 obtain ⟨bi, bw, vs, us, ls, a1, a2, a3, a4, a5, a6, a7, a8, a9⟩ := h
 exact ⟨bi, bw, vs, us, ls, a1, a2, a3, a4, a5, fun h => a6 h.1, fun k hk => ⟨a7 k hk, (a2.lt hk).2⟩, fun k hk => ⟨a8 k hk, (a3.lt hk).2⟩, a9⟩
theorem OwnsK.someV {K base : Nat} {e : TypeId} {w : World} {v : Value} {n : Nat} {xs : List Value} (h : OwnsK K base e w v n xs) (hn : 0 < n) : ∃ g c, v = .slice (some ⟨g, 0, none⟩) n c ∧ base ≤ g ∧ g < w.heap.size ∧ n ≤ c ∧ c ≤ maxLen := by
 obtain ⟨h1, ⟨_, h2⟩ | ⟨g, cap, cur, e1, h3, h4, h5, h6, h7, h8⟩⟩ := h
 ·omega
 ·exact ⟨g, cap, e1, h3, (Array.getElem?_eq_some_iff.1 h4).1, h5, h6⟩
def LentV (B : Nat) (w : World) (v : Value) (us : List V3) : Prop := ∃ g cap, v = .slice (some ⟨g, 0, none⟩) us.length cap ∧ us.length + 1 ≤ cap ∧ cap ≤ maxLen ∧ OwnsK 3 B 30 w (.slice (some ⟨g, 0, none⟩) (us.length + 1) cap) (us.length + 1) (vcells (us ++ [⟨-77, [], []⟩]))
theorem LentV.kept {B : Nat} {w w' : World} {v : Value} {us : List V3} (h : LentV B w v us) (hb : Below w.heap.size w w') : LentV B w' v us := by
 obtain ⟨g, cap, h1, h2, h3, h4⟩ := h
 exact ⟨g, cap, h1, h2, h3, h4.kept hb⟩
theorem LentV.keep {S : Nat → Prop} {B : Nat} {w w' : World} {v : Value} {us : List V3} (h : LentV B w v us) (hk : Keep S w w') (hS : ∀ g, v.ownBlock = some g → ¬ S g) : LentV B w' v us := by
 obtain ⟨g, cap, rfl, h2, h3, h4⟩ := h
 exact ⟨g, cap, rfl, h2, h3, h4.keep hk fun k hk9 => hS k hk9⟩
theorem LentV.lt {B : Nat} {w : World} {v : Value} {us : List V3} (h : LentV B w v us) : ∀ g, v.ownBlock = some g → B ≤ g ∧ g < w.heap.size := by
 obtain ⟨g, cap, rfl, h2, h3, h4⟩ := h
 exact fun k hk => h4.lt k hk
theorem LentV.val {B : Nat} {w : World} {v : Value} {us : List V3} (h : LentV B w v us) : ValI w v us := by
 obtain ⟨g, cap, rfl, h2, h3, h4⟩ := h
 obtain ⟨ao, cap1, e, -, hv, -⟩ := OwnsK.vals h4
 have e1 : ao = some ⟨g, 0, none⟩ := by injection e with e1 _ _; exact e1.symm
 subst e1
 refine ⟨_, cap, rfl, by omega, h3, (fun h => by cases h), fun i u hi => ?_⟩
 exact hv i u (by rw [List.getElem?_append_left (List.getElem?_eq_some_iff.1 hi).1]; exact hi)
theorem LentV.mark {B : Nat} {w : World} {g n cap : Nat} {us : List V3} (h : LentV B w (.slice (some ⟨g, 0, none⟩) n cap) us) : w.cell? ⟨g, us.length * 3, none⟩ = some (.int .i64 (-77)) ∧ g < w.heap.size ∧ us.length + 1 ≤ cap ∧ cap ≤ maxLen := by
 obtain ⟨g', cap', e, h2, h3, h4⟩ := h
 cases e
 obtain ⟨c0, -, -⟩ := vcells_get (us ++ [⟨-77, [], []⟩]) us.length ⟨-77, [], []⟩ (List.getElem?_concat_length ..)
 exact ⟨h4.cellAt c0, (h4.lt g rfl).2, h2, h3⟩
set_option maxHeartbeats 1000000 in
theorem lent_vals (v : Value) (us : List V3) (w : World) (h : ValI w v us) (hl : us.length ≤ 1000000) :
  Calls Tryz.prog 13 #[v] w fun e w' => ∃ r, e = .returned r ∧ LentV w.heap.size w' r us ∧ Below w.heap.size w w' := by
 obtain ⟨ao, cap, hv, -⟩ := id h
 subst hv
 have hs := h.src.2
 go_enter Tryz.func13, Tryz.ntmps13
 go_wp2_with (first
  | (at_builtin; refine appendNil E_val (news := vcells us) hs (vcells_len us) (vcells_one us) (by omega) (by unfold maxLen; omega) rfl rfl rfl rfl ?_; intro v5 w5 ho5 hb5)
  | (at_builtin; refine append1KO E_val ho5 rfl rfl rfl rfl rfl (by simp [Value.oneCell']) (by omega) (by unfold maxLen; omega) hb5.size ?_; intro v6 w6 ho6 hb6 hg6 hn6; obtain ⟨g, cap6, rfl, hgB, hgw, hc1, hc2⟩ := ho6.someV (by omega); have hq0 : (0 : Int) ≤ ((us.length : Nat) : Int) := (by omega); have hq1 : ((us.length : Nat) : Int) ≤ ((cap6 : Nat) : Int) := (by omega)))
 go_ret
 refine ⟨_, rfl, ⟨g, cap6, rfl, hc1, hc2, ?_⟩, hb5.trans hb6⟩
 rw [vcells_app]
 exact ho6
set_option maxHeartbeats 1000000 in
theorem stays_vals (B : Nat) (va vb : Value) (us : List V3) (w : World) (ha : LentV B w va us) (hb : ValI w vb us) (hl : us.length ≤ 1000000) :
  Calls Tryz.prog 17 #[va, vb] w fun e w' => e = .returned (.bool true) ∧ Below w.heap.size w w' := by
 have hs := ha.val
 obtain ⟨g, cap, rfl, -⟩ := id ha
 obtain ⟨h7, h3, h4, h5⟩ := ha.mark
 unfold maxLen at h5
 clear ha
 go_enter Tryz.func17, Tryz.ntmps17
 go_wp2_with (go_at_call 16; refine (same_vals _ _ us _ hs hb).mono ?_; rintro e w1 ⟨rfl, hb1⟩; have e7 := (hb1.cell (p := ⟨g, us.length * 3, none⟩) h3).trans h7)
 go_ret
 exact ⟨rfl, hb1⟩
end Go.Proofs.YtcpfanpcdkoiaaaGreatDoor
