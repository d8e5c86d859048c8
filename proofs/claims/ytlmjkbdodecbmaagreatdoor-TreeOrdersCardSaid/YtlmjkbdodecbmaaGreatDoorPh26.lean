/-
  Ph26: RangeY TreQ (what is needed of them).
-/
import Derived.Test.YtlmjkbdodecbmaaGreatDoorPh14
import Derived.Test.YtlmjkbdodecbmaaGreatDoorPh24
import Derived.Test.YtlmjkbdodecbmaaGreatDoorPh25

namespace Go.Proofs.YtlmjkbdodecbmaaGreatDoor
open Go.RowKit
set_option linter.unusedVariables false
set_option linter.unusedSimpArgs false
theorem wp_rangeY {α : Type} {P : Program} {g : Operand} {ps : Array Tmp} {assign body : Code} {Q : Exit → Act → World → Prop} {a : Act} {w : World}
    {gf : Nat} {lb : Array Value} (hg : a.eval g = .func (.func gf) #[] lb) (eg : ∀ args w, (callFunc gf args).run P w = .ok (.enter gf args) w)
    {Enc : World → Array Value → α → Prop} {xs : List α} {R : Nat → Prop} (hit : IterW P gf lb Enc xs R w) (hps : ∀ W v x, Enc W v x → v.size = ps.size) (hR : ∀ k, R k → k < w.heap.size)
    (I : List α → (Nat → Prop) → World → Prop) (Ix : Code → List α → (Nat → Prop) → World → Prop) (hI : ∀ pre S W W', I pre S W → Oth w.heap.size S W W' → I pre S W') (hIx : ∀ c pre S W W', Ix c pre S W → Oth w.heap.size S W W' → Ix c pre S W')
    (S0 : Nat → Prop) (hS0 : ∀ k, S0 k → ¬ R k ∧ k < w.heap.size) (h0 : I [] S0 w) (Ax : α → Act → World → Prop) (hAx : ∀ x a' W W', Ax x a' W → Ext w.heap.size W W' → Ax x a' W')
    (hassign : ∀ (l : Nat) (pre : List α) (x : α) (v : Array Value) (S : Nat → Prop) (W : World) (K : Act → World → Prop), I pre S W → Enc W v x → pre ++ [x] <+: xs →
      (∀ a' W', Below W.heap.size W W' → I pre S W' → Ax x a' W' → K a' W') →
      assign.wpIn (Fence.wide.inRound l) 0 P (Exit.then K (fun _ _ _ => False)) { tmps := (ps.zip v).foldl (fun t (p, v) => t.setIfInBounds p v) a.tmps, defers := [] } W)
    (hbody : ∀ (l : Nat) (pre : List α) (x : α) (a' : Act) (S : Nat → Prop) (W : World), I pre S W → Ax x a' W → pre ++ [x] <+: xs → (∀ k, S k → ¬ R k ∧ k < W.heap.size) → body.wpIn (Fence.wide.inRound l) 0 P (postW I Ix (pre ++ [x]) S W) a' W)
    (hdone : ∀ (S : Nat → Prop) (W : World), I xs S W → ¬ S w.heap.size → (∀ k, S k → ¬ R k) → W.heap[w.heap.size]? = some (.deferred (some [])) → Q .normal { a with defers := { target := .collected w.heap.size, args := #[] } :: a.defers } W)
    (hstop : ∀ (c : Code) (pre : List α) (S : Nat → Prop) (W : World), pre <+: xs → Ix c pre S W → ¬ S w.heap.size → W.heap[w.heap.size]? = some (.deferred (some [])) → c.wpIn Fence.wide 0 P Q { a with defers := { target := .collected w.heap.size, args := #[] } :: a.defers } W) :
    (Code.rangeFunc g ps assign body).wpIn Fence.wide 0 P Q a w := by
  refine wpIn_rangeFunc ?_
  intro fn hfn
  obtain ⟨rec, hrec⟩ : ∃ rec : LoopState → Option Code → Loop, rec = fun st pe => { state := st, pending := pe, fn, tmps := a.tmps, params := ps, assign, body, defers := w.heap.size } := ⟨_, rfl⟩
  obtain ⟨W1, hW1⟩ : ∃ W1, (w.alloc (.deferred (some []))).alloc (.loop (rec .ready none)) = W1 := ⟨_, rfl⟩
  have hL1 : W1.heap[w.heap.size + 1]? = some (.loop (rec .ready none)) := by
    rw [← hW1]; have := World.alloc_heap_new (w.alloc (.deferred (some []))) (.loop (rec .ready none)); rwa [World.size_alloc] at this
  have hK1 : W1.heap[w.heap.size]? = some (.deferred (some [])) := by
    rw [← hW1]; exact (Below.heap_alloc _ _ _ (by simp)).trans (World.alloc_heap_new w _)
  have hb1 : Below w.heap.size w W1 := by
    rw [← hW1]; exact ((Below.refl _ w).alloc (Nat.le_refl _) _).alloc (by simp) _
  have hI1 : I [] S0 W1 := hI _ _ _ _ h0 (Oth.of_below hb1)
  refine ⟨w.heap.size + 1, [{ target := .collected w.heap.size, args := #[] }], W1, { target := .fn (.func gf) lb, args := #[.func (.yield (w.heap.size + 1)) #[] #[]] }, W1, gf,
    #[.func (.yield (w.heap.size + 1)) #[] #[]] ++ lb, W1, ?_, ?_, ?_, ?_, fun h => by simp [Fence.wide] at h, ?_⟩
  · rw [← hW1, hrec]; exact run_enterLoop_outer _ _ _ _ _
  · simp only [resolve, hg]
    simp [go_sem]
  · intro f' hf'; trivial
  · simp [invoke, go_sem, eg]
  · refine (hit (w.heap.size + 1)
      (fun pre T W => ∃ S, (T = fun k => S k ∨ k = w.heap.size + 1) ∧ I pre S W ∧ (∀ k, S k → ¬ R k ∧ k < W.heap.size) ∧ ¬ S w.heap.size ∧ ¬ S (w.heap.size + 1) ∧ W.heap[w.heap.size + 1]? = some (.loop (rec .ready none)) ∧ W.heap[w.heap.size]? = some (.deferred (some [])))
      (fun pre T W => ∃ S c, (T = fun k => S k ∨ k = w.heap.size + 1) ∧ ¬ S (w.heap.size + 1) ∧ ¬ S w.heap.size ∧ Ix c pre S W ∧ W.heap[w.heap.size + 1]? = some (.loop (rec .done (some c))) ∧ W.heap[w.heap.size]? = some (.deferred (some [])))
      (fun k => S0 k ∨ k = w.heap.size + 1) W1 hb1 (fun k hk => by
        have hlt1 := (Array.getElem?_eq_some_iff.1 hL1).1
        rcases hk with h | h
        · exact ⟨(hS0 k h).1, by have := (hS0 k h).2; omega⟩
        · exact ⟨fun hr => by have := hR k hr; omega, by omega⟩) ?_ ?_ ?_ ⟨S0, rfl, hI1, fun k h => ⟨(hS0 k h).1, by have := (hS0 k h).2; have := hb1.size; omega⟩, fun h => by have := (hS0 _ h).2; omega, fun h => by have := (hS0 _ h).2; omega, hL1, hK1⟩).mono ?_
    · rintro pre T W W' ⟨S, rfl, hi, h1, h2, h3, hl, hk⟩ hb
      exact ⟨S, rfl, hI _ _ _ _ hi (hb.mono hb1.size (fun k h => .inl h)), fun k hk => ⟨(h1 k hk).1, Nat.lt_of_lt_of_le (h1 k hk).2 hb.size⟩, h2, h3, (hb.same _ (Array.getElem?_eq_some_iff.1 hl).1 (.inr (.inr rfl))).trans hl, (hb.same _ (Array.getElem?_eq_some_iff.1 hk).1 (.inl (Array.getElem?_eq_some_iff.1 hK1).1)).trans hk⟩
    · rintro pre T W W' ⟨S, c, rfl, h3, h4, hi, hl, hk⟩ hb
      exact ⟨S, c, rfl, h3, h4, hIx c _ _ _ _ hi (hb.mono hb1.size (fun k h => .inl h)), (hb.same _ (Array.getElem?_eq_some_iff.1 hl).1 (.inr (.inr rfl))).trans hl, (hb.same _ (Array.getElem?_eq_some_iff.1 hk).1 (.inl (Array.getElem?_eq_some_iff.1 hK1).1)).trans hk⟩
    · -- ONE ROUND
      rintro pre x v T W ⟨S, rfl, hi, hSB, hSD, hSl, hl, hk⟩ henc hpre
      have hlt : w.heap.size + 1 < W.heap.size := (Array.getElem?_eq_some_iff.1 hl).1
      have hy := run_yield (P := P) (args := v) hl (by rw [hrec]; exact hps _ _ _ henc)
      rw [hrec] at hy
      refine ⟨fn, _, assign, body, hy, roundIn_of_wpIn hfn (hassign _ pre x v S W _ hi henc hpre ?_)⟩
      clear hy
      intro a' Wa hba hia hax
      have hla := (hba.block _ hlt).trans hl
      have hka := (hba.block w.heap.size (by omega)).trans hk
      have hlta : w.heap.size + 1 < Wa.heap.size := Nat.lt_of_lt_of_le hlt hba.size
      refine ⟨_, run_beginRound hla (by rw [hrec]), ?_⟩
      have hl2 : (Wa.putObj (w.heap.size + 1) (.loop { rec .ready none with state := .busy })).heap[w.heap.size + 1]? = some (.loop { rec .ready none with state := .busy }) := World.putObj_heap_same hlta
      have hk2 : (Wa.putObj (w.heap.size + 1) (.loop { rec .ready none with state := .busy })).heap[w.heap.size]? = some (.deferred (some [])) := (World.putObj_heap_other (by omega)).trans hka
      have hex : Ext w.heap.size Wa (Wa.putObj (w.heap.size + 1) (.loop { rec .ready none with state := .busy })) := Ext.put (by omega) hla rfl
      have hf2 : Foot (fun k => S k ∨ k = w.heap.size + 1) (fun k => S k ∨ k = w.heap.size + 1) W (Wa.putObj (w.heap.size + 1) (.loop { rec .ready none with state := .busy })) :=
        (Foot.of_below hba).trans (Foot.put _ (.inr rfl))
      refine wpIn_mono (hbody _ pre x a' S _ (hI _ _ _ _ hia (Oth.put _ (by omega) hSl)) (hAx _ _ _ _ hax hex) hpre (fun k hk => ⟨(hSB k hk).1, by have := (hSB k hk).2; have := hba.size; simp; omega⟩)) ?_
      generalize Wa.putObj (w.heap.size + 1) (.loop { rec .ready none with state := .busy }) = W2 at hl2 hk2 hf2 ⊢
      have hlt2 : w.heap.size + 1 < W2.heap.size := (Array.getElem?_eq_some_iff.1 hl2).1
      have fin : ∀ (jump : Option Code) (S' : Nat → Prop) (W3 : World), Foot S S' W2 W3 →
          (Instr.endRound (w.heap.size + 1) jump).run P W3 = .ok (.bool jump.isNone) (W3.putObj (w.heap.size + 1) (.loop (rec (if jump.isNone then .ready else .done) jump))) ∧
          W3.heap[w.heap.size + 1]? = some (.loop { rec .ready none with state := .busy }) ∧
          (W3.putObj (w.heap.size + 1) (.loop (rec (if jump.isNone then .ready else .done) jump))).heap[w.heap.size + 1]? = some (.loop (rec (if jump.isNone then .ready else .done) jump)) ∧
          (W3.putObj (w.heap.size + 1) (.loop (rec (if jump.isNone then .ready else .done) jump))).heap[w.heap.size]? = some (.deferred (some [])) ∧
          Foot (fun k => S k ∨ k = w.heap.size + 1) (fun k => S' k ∨ k = w.heap.size + 1) W (W3.putObj (w.heap.size + 1) (.loop (rec (if jump.isNone then .ready else .done) jump))) ∧
          ¬ S' w.heap.size ∧ ¬ S' (w.heap.size + 1) ∧ (∀ k, S' k → ¬ R k) := fun jump S' W3 hf => by
        have hl3 := (hf.same _ hlt2 hSl).trans hl2
        have hk3 := (hf.same w.heap.size (by omega) hSD).trans hk2
        have := run_endRound (P := P) jump hl3
        rw [hrec] at this ⊢
        refine ⟨this, by rw [hrec] at hl3; exact hl3, World.putObj_heap_same (Array.getElem?_eq_some_iff.1 hl3).1, (World.putObj_heap_other (by omega)).trans hk3, ?_, ?_, ?_, ?_⟩
        · exact (hf2.trans (hf.wide (T := fun k => k = w.heap.size + 1))).trans (Foot.put _ (.inr rfl))
        · intro h; rcases hf.fresh _ h with h1 | h1
          · exact hSD h1
          · omega
        · intro h; rcases hf.fresh _ h with h1 | h1
          · exact hSl h1
          · omega
        · intro k h; rcases hf.fresh _ h with h1 | h1
          · exact (hSB k h1).1
          · intro hr; have := hR k hr; have := hf2.size; omega
      rintro e a3 W3 hp
      cases e with
      | normal =>
        obtain ⟨S', hi3, hf3, ht3⟩ := hp
        obtain ⟨hr, hl3, hl4, hk4, hft, g1, g2, g3⟩ := fin none S' W3 hf3
        exact ⟨_, _, hr, .inl ⟨rfl, _, ⟨S', rfl, hI _ _ _ _ hi3 (Oth.put _ (by omega) g2), fun k hk => ⟨g3 k hk, by simpa using ht3 k hk⟩, g1, g2, hl4, hk4⟩, hft, fun k hk => by
          rcases hk with h | h
          · simpa using ht3 k h
          · rw [h]; exact (Array.getElem?_eq_some_iff.1 hl4).1⟩⟩
      | ret =>
        obtain ⟨S', hi3, hf3⟩ := hp
        obtain ⟨hr, hl3, hl4, hk4, hft, g1, g2, g3⟩ := fin (some .ret) S' W3 hf3
        exact ⟨_, _, hr, .inr ⟨rfl, _, ⟨S', .ret, rfl, g2, g1, hIx _ _ _ _ _ hi3 (Oth.put _ (by omega) g2), hl4, hk4⟩, hft⟩⟩
      | exit id =>
        obtain ⟨S', hi3, hf3⟩ := hp
        obtain ⟨hr, hl3, hl4, hk4, hft, g1, g2, g3⟩ := fin (some (.exit id)) S' W3 hf3
        exact ⟨_, _, hr, .inr ⟨rfl, _, ⟨S', .exit id, rfl, g2, g1, hIx _ _ _ _ _ hi3 (Oth.put _ (by omega) g2), hl4, hk4⟩, hft⟩⟩
      | goto t =>
        obtain ⟨S', hi3, hf3⟩ := hp
        obtain ⟨hr, hl3, hl4, hk4, hft, g1, g2, g3⟩ := fin (some (.goto t)) S' W3 hf3
        exact ⟨_, _, hr, .inr ⟨rfl, _, ⟨S', .goto t, rfl, g2, g1, hIx _ _ _ _ _ hi3 (Oth.put _ (by omega) g2), hl4, hk4⟩, hft⟩⟩
      | panic ch => exact hp.elim
      | outgrown => exact hp.elim
    · -- BEHIND THE ITERATOR
      rintro e W2 ⟨⟨v, rfl⟩, (⟨T, ⟨S, rfl, hi, hSr, hSd, hn, hl, hk⟩, _⟩ | ⟨pre, T, hp, ⟨S, c, rfl, hn, hSd, hi, hl, hk⟩, _⟩)⟩
      · exact ⟨none, _, by have := run_endLoop (P := P) hl (by rw [hrec]; simp); rw [hrec] at this; exact this, hdone S _ (hI _ _ _ _ hi (Oth.put _ (by omega) hn)) hSd (fun k h => (hSr k h).1) ((World.putObj_heap_other (by omega)).trans hk)⟩
      · exact ⟨some c, _, by have := run_endLoop (P := P) hl (by rw [hrec]; simp); rw [hrec] at this; exact this, hstop c pre S _ hp (hIx _ _ _ _ _ hi (Oth.put _ (by omega) hn)) hSd ((World.putObj_heap_other (by omega)).trans hk)⟩
end Go.Proofs.YtlmjkbdodecbmaaGreatDoor

namespace Go.Proofs.YtlmjkbdodecbmaaGreatDoor
open Go.RowKit Go.Shelf
set_option linter.unusedVariables false
set_option linter.unusedSimpArgs false
attribute [local go_sem] Oper.semAt_some field_nat
abbrev pathsF : Nat := 41
theorem enters_paths1 : ∀ args w, (callFunc pathsF args).run Tryz.prog w = .ok (.enter pathsF args) w := enters_of Tryz.func41 (by kernel_rfl) rfl
theorem paths_any (no : Option Addr) (n nc : Nat) (ms nt : Int) (w : World) : Calls Tryz.prog 11 #[.agg #[.slice no n nc, .int .i64 ms, .int .i64 nt]] w fun e w' => e = .returned (.func (.func pathsF) #[] #[.pointer (some ⟨w.heap.size, 0, none⟩)]) ∧ w' = w.alloc (.cells #[.slice no n nc, .int .i64 ms, .int .i64 nt] 24) := by
  go_enter Tryz.func11, Tryz.ntmps11
  go_wp2_with fail
  go_ret
  exact ⟨rfl, rfl⟩
theorem OwnsK.cut {K base : Nat} {e : TypeId} {w : World} {ao : Option Addr} {n m c : Nat} {xs r : List Value} (h : OwnsK K base e w (.slice ao n c) n xs) (hm : m ≤ n) (hr : r.length = m * K) (hx : r <+: xs) : OwnsK K base e w (.slice ao m c) m r := by
  obtain ⟨h1, ⟨h2, h3⟩ | ⟨g', cap', cur, e1, h3, h4, h5, h6, h7, h8⟩⟩ := h
  · cases h2
    have hm0 : m = 0 := by omega
    subst hm0
    exact ⟨hr, .inl ⟨rfl, rfl⟩⟩
  · cases e1
    refine ⟨hr, .inr ⟨g', c, cur, rfl, h3, h4, by omega, h6, h7, ?_⟩⟩
    obtain ⟨s, hs⟩ := hx
    have h9 : cur.toList.take (n * K) = r ++ s := by rw [h8, hs]
    have h10 : cur.toList.take (m * K) = (cur.toList.take (n * K)).take (m * K) := by
      rw [List.take_take, Nat.min_eq_left (Nat.mul_le_mul_right K hm)]
    rw [h10, h9, ← hr, List.take_left']
    rfl
theorem icel_pre {a b : List Int} (h : a <+: b) : icel a <+: icel b := by
  obtain ⟨s, rfl⟩ := h
  rw [icel_app]
  exact List.prefix_append _ _
set_option maxRecDepth 100000 in
set_option maxHeartbeats 2000000 in
/-- Clone, of ints. -/
theorem cloneI_any (vo : Option Addr) (n vc : Nat) (ns : List Int) (B : Nat) (w : World) (HV : Hid (IntsB B w vo vc ns)) (HN : Hid (n = ns.length)) (hl : n ≤ 4000) :
    Calls Tryz.prog 42 #[.slice vo n vc] w fun e w' => (∃ uo uc, e = .returned (.slice uo n uc) ∧ Hid (IntsQ w.heap.size w'.heap.size w' uo uc ns)) ∧ Below w.heap.size w w' := by
  have hbf : Below w.heap.size w w := Below.refl _ _
  have hnil := fun (W : World) a n c => Lib.run_eql_slice_nil (P := Tryz.prog) W 27 3 a n c 0 0 Tryz.underlying27
  cases hvo : vo with
  | none =>
    have hc := HV.out.no hvo
    have h0 := HV.out.cap.1
    have hn := HN.out
    have hns : ns = [] := List.eq_nil_of_length_eq_zero (by omega)
    have hn0 : n = 0 := by omega
    subst hns hc hvo hn0
    clear hn h0 HN
    go_enter Tryz.func42, Tryz.ntmps42
    go_wp2_with fail
    go_ret
    exact ⟨⟨none, 0, ret_one rfl, Lib.hid ⟨⟨Nat.le_refl _, Nat.zero_le _⟩, fun _ => rfl, fun i v hi => by simp at hi⟩⟩, hbf⟩
  | some ad =>
    subst hvo
    obtain ⟨w1, hw1⟩ : ∃ W, W = w.alloc (.cells #[] 3) := ⟨_, rfl⟩
    have hb1 : Below w.heap.size w w1 := by rw [hw1]; exact (Below.refl _ _).alloc (Nat.le_refl _) _
    have hO1 : OwnsK 1 w.heap.size 3 w1 (.slice (some ⟨w.heap.size, 0, none⟩) 0 0) 0 [] := by
      rw [hw1]
      exact ⟨rfl, .inr ⟨w.heap.size, 0, #[], rfl, Nat.le_refl _, heap_alloc_new w _, Nat.le_refl _, by decide, rfl, rfl⟩⟩
    have hvc : ∀ (j : Nat) (u : Value), (icel ns)[j]? = some u → w1.cell? (ad.add j) = some u := fun j u hj => by
      obtain ⟨n, hn, rfl⟩ := icel_inv hj
      obtain ⟨b, off, e, hb, hc⟩ := HV.out.at_ j n hn
      cases e
      rw [Addr.add_lit]
      exact (hb1.cell (p := ⟨b, off + j, none⟩) (World.block_lt_of_cell? w ⟨b, off + j, none⟩ hc)).trans hc
    have HVC := Lib.hid hvc
    have HW := Lib.hid hw1
    clear hvc hw1
    go_enter Tryz.func42, Tryz.ntmps42
    go_wp2_with (at_builtin; rw [← HW.out]; refine wpList_plain rfl (fun K' hK' => ?_); refine step_appendT E_intT (news := icel ns) hO1 rfl rfl rfl (by rw [icel_len, Nat.mul_one]; exact HN.out.symm) (.inr ⟨ad, rfl, HVC.out⟩) (icel_one ns) (by omega) (by unfold maxLen; omega) hb1.size ?_; intro v2 w2 hO2 hg2 hn2; refine hK' _ _ ?_)
    rw [Nat.zero_add, List.nil_append] at hO2
    have hlt := hO2.lt
    obtain ⟨uo, uc, rfl, -, -, -⟩ := hO2.slice
    have hb2 : Below w.heap.size w w2 := hb1.trans ⟨hg2.os, hg2.tape, hg2.output, hg2.size, fun k hk => hg2.block k (Nat.lt_of_lt_of_le hk hb1.size) (by intro e; simp [Value.ownBlock] at e; omega)⟩
    have HR : Hid (IntsQ w.heap.size w2.heap.size w2 uo uc ns) := Lib.hid (IntsQ.of_owns hO2 HN.out.symm)
    clear hO2 hg2 hn2 hlt hO1 HVC HW
    go_wp2_with fail
    go_ret
    exact ⟨⟨uo, uc, ret_one rfl, HR⟩, hb2⟩
/-- A way, as it is told. -/
def PtEnc (W : World) (v : Array Value) (x : List Int) : Prop := ∃ (wo : Option Addr) (n wc : Nat), v = #[.slice wo n wc] ∧ n = x.length ∧ IntsB W.heap.size W wo wc x
/-- The state between two rounds of Paths' walk. -/
structure PtI (D0 D1 p2 p3 px B : Nat) (t : TR) (yf : Value) (J : List (List Int) → (Nat → Prop) → World → Prop) (S0 : Nat → Prop) (W1 : World) (pre : List (Nat × Nat)) (S : Nat → Prop) (W : World) (wo : Option Addr) (wn wc : Nat) (So : Nat → Prop) : Prop where
  eS : S = fun k => (k = p3 ∨ (Value.slice wo wn wc).ownBlock = some k) ∨ So k
  b2 : BoxL W p2 [yf]
  b3 : BoxL W p3 [.slice wo wn wc]
  own : OwnsK 1 D1 3 W (.slice wo wn wc) (wayP t pre).length (icel (wayP t pre))
  j : J (toldP t pre) So W
  foot : Foot S0 So W1 W
  apart : ∀ k, So k → k ≠ p2 ∧ k ≠ p3 ∧ (Value.slice wo wn wc).ownBlock ≠ some k ∧ ¬ Res B px k
  top : Top So W
set_option maxRecDepth 100000 in
set_option maxHeartbeats 8000000 in
/-- Paths' iterator. -/
theorem paths1_iter (B : Nat) (t : TR) (no : Option Addr) (nc : Nat) (px : Nat) (w : World) (hT : TrIs B w t no nc) (hBw : B ≤ w.heap.size) (hpw : px < w.heap.size) (hsz : t.nodes.length + (t.nodes.map fun x => x.kids.length).sum ≤ 1500)
    (hx : BoxL w px [.slice no t.nodes.length nc, .int .i64 t.ms, .int .i64 t.nt]) :
    IterW Tryz.prog pathsF #[.pointer (some ⟨px, 0, none⟩)] PtEnc (pathsT t) (Res B px) w := by
  intro l9 J Jx S0 W1 hW1 hS0 hJ hJx hY h0
  replace hx := hx.kept hW1
  replace hT := hT.low (Low.of_below hW1 hBw)
  have hBw1 : B ≤ W1.heap.size := Nat.le_trans hBw hW1.size
  have hpw1 : px < W1.heap.size := Nat.lt_of_lt_of_le hpw hW1.size
  have HY := Lib.hid hY
  have HJ := Lib.hid hJ
  have HJX := Lib.hid hJx
  have HS0 := Lib.hid hS0
  clear hY hJ hJx
  obtain ⟨wR, hwR⟩ : ∃ W, W = ((W1.alloc (.cells #[.func (Fn.yield l9) #[] #[]] 87)).alloc (.cells #[.slice none 0 0] 27)) := ⟨_, rfl⟩
  have hbR : Below W1.heap.size W1 wR := by rw [hwR]; exact ((Below.refl _ W1).alloc (Nat.le_refl _) _).alloc (by simp <;> omega) _
  have hszR : wR.heap.size = W1.heap.size + 2 := by rw [hwR]; simp
  obtain ⟨p2, hp2⟩ : ∃ q, q = W1.heap.size := ⟨_, rfl⟩
  obtain ⟨p3, hp3⟩ : ∃ q, q = W1.heap.size + 1 := ⟨_, rfl⟩
  have hb2 : BoxL wR p2 [.func (Fn.yield l9) #[] #[]] := by rw [hwR, hp2]; exact (BoxL.new W1 _ _).kept ((Below.refl _ _).alloc (Nat.le_refl _) _)
  have hb3 : BoxL wR p3 [.slice none 0 0] := by rw [hwR, hp3]; exact BoxL.of1 (by go_simp) (by go_simp)
  have hxR := hx.kept hbR
  obtain ⟨wS, hwS⟩ : ∃ W, W = wR.alloc (.cells #[.slice no t.nodes.length nc, .int .i64 t.ms, .int .i64 t.nt] 24) := ⟨_, rfl⟩
  obtain ⟨py, hpy⟩ : ∃ q, q = wR.heap.size := ⟨_, rfl⟩
  have hbS : Below wR.heap.size wR wS := by rw [hwS]; exact (Below.refl _ _).alloc (Nat.le_refl _) _
  have hszS : wS.heap.size = wR.heap.size + 1 := by rw [hwS]; simp
  have hby : BoxL wS py [.slice no t.nodes.length nc, .int .i64 t.ms, .int .i64 t.nt] := by rw [hwS, hpy]; exact BoxL.new wR _ _
  have hb1S := hbR.trans (hbS.mono hbR.size)
  have hit := twalk1_iter B t no nc py wS (hT.low (Low.of_below hb1S hBw1)) (by omega) (by omega) hsz hby
  have hb2S := hb2.kept hbS
  have hb3S := hb3.kept hbS
  have hj0 := HJ.out _ _ _ _ h0 (Oth.of_below hb1S)
  have hTp0 : Top S0 wS := fun k hk => Nat.lt_of_lt_of_le (hS0 k hk).2 hb1S.size
  obtain ⟨L, hL⟩ : ∃ L, L = walkT t := ⟨_, rfl⟩
  have HL := Lib.hid hL
  have HDL : Hid (∀ x ∈ L, x.2 ≤ 2000) := Lib.hid (by rw [hL]; exact walkT_dep t (by omega))
  rw [← hL] at hit
  have HW := Lib.hid hwR
  have HWS := Lib.hid hwS
  have HX := Lib.hid hpy
  have H2 := Lib.hid hp2
  have H3 := Lib.hid hp3
  have HQ : W1.heap.size ≤ p2 ∧ p2 < p3 ∧ p3 < py ∧ py < wS.heap.size ∧ B ≤ W1.heap.size ∧ px < W1.heap.size := by omega
  have HT := Lib.hid hT
  have HSZ := Lib.hid hsz
  clear hwR hwS hpy hp2 hp3 hszR hszS hL hb2 hb3 hbS hbR hby hT hsz h0 hS0
  have e0 := hxR.cell 0 _ rfl
  have e1 := hxR.cell 1 _ rfl
  have e2 := hxR.cell 2 _ rfl
  refine callsIn_of_wp_marks Tryz.func41 rfl (by trivial) ?_ rfl
  simp only [IterArgs, Tryz.ntmps41, List.size_toArray, List.length_cons, List.length_nil, Nat.reduceAdd, Nat.reduceSub, Array.replicate_succ, Array.replicate_zero, List.push_toArray, List.append_toArray, List.nil_append, List.cons_append]
  gi_upto_region 2 with fail
  rw [← HW.out, ← H3.out, ← H2.out]
  gi_wp2_with fail
  refine ⟨trivial, rfl, callsIn_wide.2 ((treeWalk_any no t.nodes.length nc t.ms t.nt _).mono ?_)⟩
  rintro e w5 ⟨rfl, rfl⟩
  clear e0 e1 e2 hxR
  gi_wp2_with fail
  rw [← HWS.out, ← HX.out]
  clear HW HWS HX H2 H3
  obtain ⟨q1, q2, q3, q4, q5, q6⟩ := HQ
  have hBS : B ≤ wS.heap.size := by omega
  have hT1 : True := trivial
  refine wp_rangeY (gf := twalkF) (lb := #[.pointer (some ⟨py, 0, none⟩)]) rfl enters_twalk1 hit (fun W v x h => by cases h; rfl) (fun k hr => res_lt hBS q4 hr)
    (fun pre S W => ∃ (wo : Option Addr) (wn wc : Nat) (So : Nat → Prop), PtI W1.heap.size wS.heap.size p2 p3 px B t (.func (Fn.yield l9) #[] #[]) J S0 W1 pre S W wo wn wc So ∧ wS.heap.size ≤ W.heap.size)
    (fun c pre S W => c = .ret ∧ ∃ (So : Nat → Prop) (pt : List (List Int)), (∀ k, So k → S k) ∧ pt <+: pathsT t ∧ Jx pt So W ∧ Foot S0 So W1 W)
    ?_ ?_ (fun k => (k = p3 ∨ (Value.slice none 0 0).ownBlock = some k) ∨ S0 k) ?_ ?_
    (fun x9 a' W => a' = { tmps := #[.func (Fn.yield l9) #[] #[], .pointer (some ⟨px, 0, none⟩), .pointer (some ⟨p2, 0, none⟩), .pointer (some ⟨p3, 0, none⟩), .int .i64 (x9.1 : Int), .int .i64 (x9.2 : Int), .agg #[.slice no t.nodes.length nc, .int .i64 t.ms, .int .i64 t.nt], .func (.func twalkF) #[] #[.pointer (some ⟨py, 0, none⟩)], .int .i64 (x9.1 : Int), .int .i64 (x9.2 : Int), undef, undef, undef, undef, undef, undef, undef, undef, undef, undef, undef, undef, undef, undef, undef, undef, undef, undef, undef, undef, undef, undef], defers := [] })
    ?_ ?assign ?body ?done ?stop
  case assign =>
    rintro l8 pre x9 v9 S W K hi hnv hpre hK
    cases hnv
    gi_wp2
    exact hK _ _ (Below.refl _ _) hi rfl
  case body =>
    rintro l8 pre x9 a' S W ⟨wo, wn, wc, So, hI, hsW⟩ rfl hpre hSS
    obtain ⟨rfl, i2, i3, iO, iJ, iF, iA, iT⟩ := hI
    have hpre2 : (pre ++ [x9]) <+: walkT t := by rw [← HL.out]; exact hpre
    obtain ⟨hr1, hr2, hr3⟩ := way_room hpre2
    have hd := HDL.out x9 (hpre.subset (by simp))
    have hsb : shapeB t = true := by
      cases hs : shapeB t with
      | true => rfl
      | false =>
        have hw : walkT t = [] := by unfold walkT; rw [hs]; rfl
        rw [hw] at hpre2
        have := hpre2.length_le
        simp at this
    have hxN := walk_fst_lt hsb (hpre2.subset (show x9 ∈ pre ++ [x9] by simp))
    obtain ⟨y, hy9⟩ : ∃ y, t.nodes[x9.1]? = some y := ⟨_, List.getElem?_eq_getElem hxN⟩
    obtain ⟨m, hm⟩ : ∃ m, x9.2 = m + 1 := ⟨x9.2 - 1, by omega⟩
    obtain ⟨wy, hwy⟩ : ∃ q, q = wayP t (pre ++ [x9]) := ⟨_, rfl⟩
    have hwl : wy.length = m + 1 := by rw [hwy, hr3, hm]
    obtain ⟨ao1, cap1, hv1, hcap, hcm, -⟩ := iO.slice
    obtain rfl : wn = (wayP t pre).length := by cases hv1; rfl
    obtain rfl : wc = cap1 := by cases hv1; rfl
    have hml : m ≤ (wayP t pre).length := by omega
    have iC : OwnsK 1 wS.heap.size 3 W (.slice wo m wc) m (icel ((wayP t pre).take m)) := iO.cut hml (by rw [icel_len, Nat.mul_one, List.length_take]; omega) (icel_pre (List.take_prefix _ _))
    have hob : (Value.slice wo (wayP t pre).length wc).ownBlock = (Value.slice wo m wc).ownBlock := by cases wo <;> rfl
    have HWS2 : Hid (icel ((wayP t pre).take m) ++ [.int .i64 (x9.1 : Int)] = icel wy) := Lib.hid (by rw [hwy, wayP_snoc, hm, Nat.add_sub_cancel, icel_app]; rfl)
    rw [hob] at iA hSS ⊢
    have HKY : Hid (kidsT t x9.1 = [] ↔ y.kids.length = 0) := Lib.hid (by unfold kidsT; rw [hy9]; simp)
    have HPRE := Lib.hid hpre2
    have HWY := Lib.hid hwy
    have HWL := Lib.hid hwl
    have HM := Lib.hid hm
    have hdm : ((x9.2 : Nat) : Int) - 1 = (m : Int) := by omega
    have hm2 : m ≤ 2000 := by omega
    have qm0 : (0 : Int) ≤ (m : Int) := by omega
    have qmc : (m : Int) ≤ (wc : Int) := by omega
    have hxl : ((x9.1 : Nat) : Int) < ((t.nodes.length : Nat) : Int) := by unfold TR.N at hxN; omega
    have hx0 : (0 : Int) ≤ ((x9.1 : Nat) : Int) := by omega
    have hp3W := i3.lt
    have hiOlt := iC.lt
    have HLT := Lib.hid hiOlt
    have HY9 := Lib.hid hy9
    have HIJ := Lib.hid iJ
    have HIF := Lib.hid iF
    have HIT := Lib.hid iT
    have HIA := Lib.hid iA
    have HSS := Lib.hid hSS
    have HOB := Lib.hid hob
    unfold maxLen at hcm
    clear hr1 hr2 hr3 hd hm hwy hwl hv1 hcap hml hpre hpre2 hxN hy9 iO iJ iF iT iA hSS hiOlt hob hsb hcm
    have e3 := i3.cell 0 _ rfl
    gi_upto_region 6 with (gi_at_builtin; refine append1KIn E_intT iC rfl rfl rfl rfl rfl (by simp [Value.oneCell']) (by omega) (by unfold maxLen; omega) hsW ?_; intro v9 w9 hO9 hb9 hg9 hn9; obtain ⟨ao9, cap9, rfl, -, -, -⟩ := hO9.slice; have k39 := i3.block (hg9.block p3 i3.lt (fun e9 => by have := (HLT.out p3 e9.symm).1; omega)); clear e3; have e3 := k39.cell 0 _ rfl; have f3 := k39.free 0 (by simp))
    obtain ⟨W9, hW9⟩ : ∃ W', W' = w9.setCell ⟨p3, 0, none⟩ (.slice ao9 (m + 1) cap9) := ⟨_, rfl⟩
    rw [← hW9]
    have hK1 : Keep (fun k => k = p3 ∨ (Value.slice wo m wc).ownBlock = some k) W w9 := ⟨hg9.os, hg9.tape, hg9.output, hg9.size, fun k hk hs => hg9.block k hk (fun e => hs (.inr e.symm))⟩
    have hK9 : Keep (fun k => k = p3 ∨ (Value.slice wo m wc).ownBlock = some k) W W9 := by rw [hW9]; exact hK1.set p3 0 _ (.inl (.inl rfl))
    have hO10 : OwnsK 1 wS.heap.size 3 W9 (.slice ao9 (m + 1) cap9) (m + 1) (icel wy) := by
      rw [← HWS2.out, hW9]
      exact hO9.keep ((Keep.refl (fun k => k = p3) w9).set p3 0 _ (.inl rfl)) (fun k hk e => by have := (hO9.lt k hk).1; omega)
    have HOW : Hid (∀ k, (Value.slice ao9 (m + 1) cap9).ownBlock = some k → ((Value.slice wo m wc).ownBlock = some k ∨ W.heap.size ≤ k)) := Lib.hid hn9
    have k3 : BoxL W9 p3 [.slice ao9 (m + 1) cap9] := by rw [hW9]; exact k39.set 0 _ (by simp)
    have k2 := i2.keep hK9 (fun h => by rcases h with h | h; omega; have := (HLT.out p2 h).1; omega)
    have hoth9 : Oth W1.heap.size So W W9 := ⟨hK9.os, hK9.tape, hK9.output, hK9.size, fun k hk hs => hK9.same k hk (fun h => by
      rcases hs with hs | hs
      · rcases h with h | h
        · omega
        · have := (HLT.out k h).1; omega
      · obtain ⟨a1, a2, a3, a4⟩ := HIA.out k hs
        rcases h with h | h
        · exact a2 h
        · exact a3 h)⟩
    have hJ9 := HJ.out _ _ _ _ HIJ.out hoth9
    have hF9 := HIF.out.then_oth hoth9 (Nat.le_refl _)
    have hx9 : BoxL W9 px [.slice no t.nodes.length nc, .int .i64 t.ms, .int .i64 t.nt] := hx.block (hF9.same px q6 (fun h => (HS0.out px h).1 (.inr rfl)))
    obtain ⟨nb, noff, l, hno, hbB, hNI, hnd9⟩ := (HT.out.low (w' := W9) (fun k hk => hF9.same k (by omega) (fun h => (HS0.out k h).1 (.inl hk)))).at_ x9.1 y HY9.out
    subst hno
    clear hW9 hK1 hO9 hb9 hg9 hn9 k39 e3 f3 hoth9 iC i2 i3 hNI hdm qmc
    by_cases hk0 : y.kids.length = 0
    case neg =>
      have hkb : (((y.kids.length : Nat) : Int) == 0) = false := by rw [beq_eq_false_iff_ne]; omega
      have hk9 : ¬ kidsT t x9.1 = [] := fun h => hk0 (HKY.out.1 h)
      have HTN : Hid (toldP t (pre ++ [x9]) = toldP t pre) := Lib.hid (toldP_no pre hk9)
      clear hk9 hk0
      refine wpIn_region_tail9 (S := fun w' => BoxL w' px [.slice (some ⟨nb, noff, none⟩) t.nodes.length nc, .int .i64 t.ms, .int .i64 t.nt] ∧ ndAt w' nb (noff + x9.1 * 8) y l ∧ BoxL w' p2 [.func (Fn.yield l9) #[] #[]] ∧ BoxL w' p3 [.slice ao9 (m + 1) cap9]) [(true, 0), (true, 1), (true, 2), (true, 3), (true, 4), (true, 5), (true, 6), (true, 7), (true, 8), (true, 9), (true, 10), (false, 11)] (by kernel_rfl) (fun ⟨_, _, h⟩ => h) (by kernel_rfl) (by kernel_rfl) (by kernel_rfl) (by kernel_rfl) (by kernel_rfl) (by kernel_rfl) (by kernel_rfl) (by kernel_rfl) (fun _ _ _ h => h) ⟨hx9.drew, hnd9.drew, k2.drew, k3.drew⟩ (fun _ => ?_)
      simp only [pickOps, List.append_eq, List.cons_append, List.nil_append, List.getElem?_toArray, List.getElem?_cons_succ, List.getElem?_cons_zero]
      have hbd : Below W9.heap.size W9 W9.drew := (Below.refl _ _).drew
      generalize W9.drew = wd at hbd ⊢
      replace hx9 := hx9.kept hbd
      replace hnd9 := hnd9.kept hbd
      replace k2 := k2.kept hbd
      replace k3 := k3.kept hbd
      replace hO10 := hO10.kept hbd
      have hJd := HJ.out _ _ _ _ hJ9 ((Oth.of_below hbd).mono (Nat.le_refl _) (fun k h => h) : Oth W1.heap.size So W9 wd)
      have hFd : Foot S0 So W1 wd := hF9.then_oth (D := W1.heap.size) (Oth.of_below hbd) (Nat.le_refl _)
      have hKd : Keep (fun k => k = p3 ∨ (Value.slice wo m wc).ownBlock = some k) W wd := hK9.then_below hbd
      repeat (first | (refine seq_take (v := ?_) (by rfl) ?_ ?_; rotate_left; (· intro w hSw; (try dsimp only at hSw); obtain ⟨hLx, hNd, hL2, hL3⟩ := hSw; have e0 := hLx.cell 0 _ rfl; have c6 := hNd.c6; have e2 := hL2.cell 0 _ rfl; have e3 := hL3.cell 0 _ rfl; clear hLx hNd hL2 hL3; go_simp; all_goals with_reducible rfl); (try simp only [Act.put, List.setIfInBounds_toArray, List.set_cons_zero, List.set_cons_succ])) | (refine seq_leave (by rfl) ?_; (try simp only [Act.put, List.setIfInBounds_toArray, List.set_cons_zero, List.set_cons_succ])))
      refine seq_pass (by rfl) ⟨hx9, hnd9, k2, k3⟩ ?_
      (try simp only [Act.put, List.setIfInBounds_toArray, List.set_cons_zero, List.set_cons_succ])
      refine seq_end ?_
      refine tailI_pass rfl rfl ?_
      (try simp only [Act.put, List.setIfInBounds_toArray, List.set_cons_zero, List.set_cons_succ])
      refine tailI_pass rfl rfl ?_
      (try simp only [Act.put, List.setIfInBounds_toArray, List.set_cons_zero, List.set_cons_succ])
      refine tailI_end rfl rfl ?_
      refine ⟨fun f _ => trivial, ?_⟩
      go_simp
      (try simp only [Act.put, List.setIfInBounds_toArray, List.set_cons_zero, List.set_cons_succ])
      gi_wp2_with fail
      have HG1 : Hid (∀ k, (Value.slice ao9 (m + 1) cap9).ownBlock = some k → wS.heap.size ≤ k ∧ k < wd.heap.size ∧ ¬ So k) := Lib.hid (fun k hk => by
        obtain ⟨h1, h2⟩ := hO10.lt k hk
        refine ⟨h1, h2, fun hs => ?_⟩
        rcases HOW.out k hk with h | h
        · exact (HIA.out k hs).2.2.1 h
        · have := HIT.out k hs; omega)
      refine ⟨fun k => (k = p3 ∨ (Value.slice ao9 (m + 1) cap9).ownBlock = some k) ∨ So k, ⟨⟨ao9, m + 1, cap9, So, ⟨rfl, k2, k3, ?_, by rw [HTN.out]; exact hJd, hFd, fun k hk => ?_, fun k hk => Nat.lt_of_lt_of_le (HIT.out k hk) hKd.size⟩⟩, Nat.le_trans hsW hKd.size⟩, ⟨hKd.os, hKd.tape, hKd.output, hKd.size, fun k hk hs => hKd.same k hk (fun h => hs (.inl h)), fun k hk => ?_⟩, fun k hk => ?_⟩
      · rw [← HWY.out, HWL.out]; exact hO10
      · obtain ⟨a1, a2, a3, a4⟩ := HIA.out k hk
        exact ⟨a1, a2, fun h => (HG1.out k h).2.2 hk, a4⟩
      · rcases hk with (hk | hk) | hk
        · exact .inl (.inl (.inl hk))
        · rcases HOW.out k hk with h | h
          · exact .inl (.inl (.inr h))
          · exact .inr h
        · exact .inl (.inr hk)
      · rcases hk with (hk | hk) | hk
        · rw [hk]; exact k3.lt
        · exact (HG1.out k hk).2.1
        · exact Nat.lt_of_lt_of_le (HIT.out k hk) hKd.size
    case pos =>
      have hkb : (((y.kids.length : Nat) : Int) == 0) = true := by rw [beq_iff_eq]; omega
      have HTL : Hid (toldP t (pre ++ [x9]) = toldP t pre ++ [wy]) := Lib.hid (by rw [HWY.out]; exact toldP_leaf pre (HKY.out.2 hk0))
      clear hk0
      refine wpIn_region_tail9 (S := fun w' => BoxL w' px [.slice (some ⟨nb, noff, none⟩) t.nodes.length nc, .int .i64 t.ms, .int .i64 t.nt] ∧ ndAt w' nb (noff + x9.1 * 8) y l ∧ BoxL w' p2 [.func (Fn.yield l9) #[] #[]] ∧ BoxL w' p3 [.slice ao9 (m + 1) cap9]) [(true, 0), (true, 1), (true, 2), (true, 3), (true, 4), (true, 5), (true, 6), (true, 7), (true, 8), (true, 9), (true, 10), (false, 11)] (by kernel_rfl) (fun ⟨_, _, h⟩ => h) (by kernel_rfl) (by kernel_rfl) (by kernel_rfl) (by kernel_rfl) (by kernel_rfl) (by kernel_rfl) (by kernel_rfl) (by kernel_rfl) (fun _ _ _ h => h) ⟨hx9.drew, hnd9.drew, k2.drew, k3.drew⟩ (fun _ => ?_)
      simp only [pickOps, List.append_eq, List.cons_append, List.nil_append, List.getElem?_toArray, List.getElem?_cons_succ, List.getElem?_cons_zero]
      have hbd : Below W9.heap.size W9 W9.drew := (Below.refl _ _).drew
      generalize W9.drew = wd at hbd ⊢
      replace hx9 := hx9.kept hbd
      replace hnd9 := hnd9.kept hbd
      replace k2 := k2.kept hbd
      replace k3 := k3.kept hbd
      replace hO10 := hO10.kept hbd
      have hJd := HJ.out _ _ _ _ hJ9 ((Oth.of_below hbd).mono (Nat.le_refl _) (fun k h => h) : Oth W1.heap.size So W9 wd)
      have hFd : Foot S0 So W1 wd := hF9.then_oth (D := W1.heap.size) (Oth.of_below hbd) (Nat.le_refl _)
      have hKd : Keep (fun k => k = p3 ∨ (Value.slice wo m wc).ownBlock = some k) W wd := hK9.then_below hbd
      repeat (first | (refine seq_take (v := ?_) (by rfl) ?_ ?_; rotate_left; (· intro w hSw; (try dsimp only at hSw); obtain ⟨hLx, hNd, hL2, hL3⟩ := hSw; have e0 := hLx.cell 0 _ rfl; have c6 := hNd.c6; have e2 := hL2.cell 0 _ rfl; have e3 := hL3.cell 0 _ rfl; clear hLx hNd hL2 hL3; go_simp; all_goals with_reducible rfl); (try simp only [Act.put, List.setIfInBounds_toArray, List.set_cons_zero, List.set_cons_succ])) | (refine seq_leave (by rfl) ?_; (try simp only [Act.put, List.setIfInBounds_toArray, List.set_cons_zero, List.set_cons_succ])))
      refine seq_step (by rfl) (fun K hK => ?_)
      go_simp
      go_at_call 42
      have HVB : Hid (IntsB wd.heap.size wd ao9 cap9 wy) := Lib.hid (IntsQ.of_owns hO10 HWL.out).toB
      have HNW : Hid (m + 1 = wy.length) := Lib.hid HWL.out.symm
      (with_reducible refine (cloneI_any ao9 (m + 1) cap9 wy wd.heap.size wd HVB HNW (by omega)).mono ?_)
      rintro e wc9 ⟨⟨uo, uc, rfl, HU⟩, hb⟩
      replace hx9 := hx9.kept hb
      replace hnd9 := hnd9.kept hb
      replace k2 := k2.kept hb
      replace k3 := k3.kept hb
      replace hO10 := hO10.kept hb
      have hJc := HJ.out _ _ _ _ hJd ((Oth.of_below hb).mono (Nat.le_refl _) (fun k h => h) : Oth W1.heap.size So wd wc9)
      have hFc : Foot S0 So W1 wc9 := hFd.then_oth (D := W1.heap.size) (Oth.of_below hb) (Nat.le_refl _)
      have hKc : Keep (fun k => k = p3 ∨ (Value.slice wo m wc).ownBlock = some k) W wc9 := hKd.then_below hb
      have HPT : Hid ((toldP t pre ++ [wy]) <+: pathsT t) := Lib.hid (by rw [← HTL.out]; exact toldP_pre HPRE.out)
      obtain ⟨fn, tmps, assign, body, hy, hR⟩ := HY.out (toldP t pre) wy #[.slice uo (m + 1) uc] So wc9 hJc ⟨uo, m + 1, uc, rfl, HWL.out.symm, HU.out.toB⟩ HPT.out
      have HR : Hid (RoundIn (Fence.wide.inRound l8) 0 Tryz.prog l9 fn tmps assign body wc9 _) := Lib.hid hR
      have HFC := Lib.hid hFc
      have HKC := Lib.hid hKc
      have HO10 := Lib.hid hO10
      clear hR hb hJc hJd hFd hKd HU HVB HNW hFc hKc hO10
      first | refine hK.out _ _ ⟨hx9, hnd9, k2, k3⟩ (fun _ => ?_) | (go_wp2_with fail; refine hK.out _ _ ⟨hx9, hnd9, k2, k3⟩ (fun _ => ?_))
      clear hK K
      (try simp only [Act.put, List.setIfInBounds_toArray, List.set_cons_zero, List.set_cons_succ])
      refine seq_end ?_
      refine tailI_end rfl rfl ?_
      refine ⟨fun f _ => trivial, ?_⟩
      go_simp
      refine ⟨rfl, HR.out.mono ?_⟩
      have HG1 : Hid (∀ k, (Value.slice ao9 (m + 1) cap9).ownBlock = some k → wS.heap.size ≤ k ∧ k < wc9.heap.size ∧ ¬ So k) := Lib.hid (fun k hk => by
        obtain ⟨h1, h2⟩ := HO10.out.lt k hk
        refine ⟨h1, h2, fun hs => ?_⟩
        rcases HOW.out k hk with h | h
        · exact (HIA.out k hs).2.2.1 h
        · have := HIT.out k hs; omega)
      clear HR hy
      rintro e W4 (⟨rfl, S4, hJ4, hF4, hT4⟩ | ⟨rfl, S4, hJ4, hF4⟩)
      case inl =>
        (try simp only [Act.put, List.setIfInBounds_toArray, List.set_cons_zero, List.set_cons_succ])
        refine tailI_end rfl rfl ?_
        refine ⟨fun f _ => trivial, ?_⟩
        go_simp
        (try simp only [Act.put, List.setIfInBounds_toArray, List.set_cons_zero, List.set_cons_succ])
        refine tailI_end rfl rfl ?_
        refine ⟨fun f _ => trivial, ?_⟩
        go_simp
        (try simp only [Act.put, List.setIfInBounds_toArray, List.set_cons_zero, List.set_cons_succ])
        gi_wp2_with fail
        refine ⟨fun k => (k = p3 ∨ (Value.slice ao9 (m + 1) cap9).ownBlock = some k) ∨ S4 k, ⟨⟨ao9, m + 1, cap9, S4, ⟨rfl, k2.block (hF4.same p2 k2.lt (fun h => (HIA.out p2 h).1 rfl)), k3.block (hF4.same p3 k3.lt (fun h => (HIA.out p3 h).2.1 rfl)), ?_, by rw [HTL.out]; exact hJ4, HFC.out.trans hF4, fun k hk => ?_, hT4⟩⟩, Nat.le_trans hsW (Nat.le_trans HKC.out.size hF4.size)⟩, ⟨hF4.os.trans HKC.out.os, hF4.tape.trans HKC.out.tape, hF4.output.trans HKC.out.output, Nat.le_trans HKC.out.size hF4.size, fun k hk hs => (hF4.same k (Nat.lt_of_lt_of_le hk HKC.out.size) (fun h => hs (.inr h))).trans (HKC.out.same k hk (fun h => hs (.inl h))), fun k hk => ?_⟩, fun k hk => ?_⟩
        · rw [← HWY.out, HWL.out]; exact HO10.out.block (fun g hg => hF4.same g (HG1.out g hg).2.1 (HG1.out g hg).2.2)
        · rcases hF4.fresh k hk with h | h
          · obtain ⟨a1, a2, a3, a4⟩ := HIA.out k h
            exact ⟨a1, a2, fun h9 => (HG1.out k h9).2.2 h, a4⟩
          · have h1 := k2.lt
            have h2 := k3.lt
            have h3 := HFC.out.size
            exact ⟨by omega, by omega, fun h9 => by have := (HG1.out k h9).2.1; omega, fun hr => by rcases hr with hr | hr <;> omega⟩
        · rcases hk with (hk | hk) | hk
          · exact .inl (.inl (.inl hk))
          · rcases HOW.out k hk with h | h
            · exact .inl (.inl (.inr h))
            · exact .inr h
          · rcases hF4.fresh k hk with h | h
            · exact .inl (.inr h)
            · exact .inr (Nat.le_trans HKC.out.size h)
        · rcases hk with (hk | hk) | hk
          · rw [hk]; exact Nat.lt_of_lt_of_le k3.lt hF4.size
          · exact Nat.lt_of_lt_of_le (HG1.out k hk).2.1 hF4.size
          · exact hT4 k hk
      case inr =>
        (try simp only [Act.put, List.setIfInBounds_toArray, List.set_cons_zero, List.set_cons_succ])
        refine tailI_end rfl rfl ?_
        refine ⟨fun f _ => trivial, ?_⟩
        go_simp
        (try simp only [Act.put, List.setIfInBounds_toArray, List.set_cons_zero, List.set_cons_succ])
        refine tailI_end rfl rfl ?_
        refine ⟨fun f _ => trivial, ?_⟩
        go_simp
        (try simp only [Act.put, List.setIfInBounds_toArray, List.set_cons_zero, List.set_cons_succ])
        gi_wp2_with fail
        refine ⟨fun k => (k = p3 ∨ (Value.slice ao9 (m + 1) cap9).ownBlock = some k) ∨ S4 k, ⟨rfl, S4, fun k h => .inr h, toldP t pre ++ [wy], HPT.out, hJ4, HFC.out.trans hF4⟩, ⟨hF4.os.trans HKC.out.os, hF4.tape.trans HKC.out.tape, hF4.output.trans HKC.out.output, Nat.le_trans HKC.out.size hF4.size, fun k hk hs => (hF4.same k (Nat.lt_of_lt_of_le hk HKC.out.size) (fun h => hs (.inr h))).trans (HKC.out.same k hk (fun h => hs (.inl h))), fun k hk => ?_⟩⟩
        rcases hk with (hk | hk) | hk
        · exact .inl (.inl (.inl hk))
        · rcases HOW.out k hk with h | h
          · exact .inl (.inl (.inr h))
          · exact .inr h
        · rcases hF4.fresh k hk with h | h
          · exact .inl (.inr h)
          · exact .inr (Nat.le_trans HKC.out.size h)
  case done =>
    rintro S W ⟨wo, wn, wc, So, hI, hsW⟩ hSD hSR hdef
    obtain ⟨rfl, i2, i3, iO, iJ, iF, iA, iT⟩ := hI
    have hSo : ¬ So wS.heap.size := fun h => hSD (.inr h)
    have hM : Marks W1.heap.size So W [{ target := .collected wS.heap.size, args := #[] }] := (Marks.nil _ _ _).cons (by omega) hSo hdef (fun l e => by cases l <;> simp at e ⊢)
    have HJW := Lib.hid iJ
    have HM := Lib.hid hM
    have HF := Lib.hid iF
    clear hM iJ iF hdef i2 i3 iO
    gi_wp2_with fail
    refine leaves_marks (D0 := W1.heap.size) (S := So) rfl _ _ HM.out (fun W' hW' => ?_)
    exact ⟨⟨_, rfl⟩, .inl ⟨So, by show J (toldP t (walkT t)) So W'; rw [← HL.out]; exact HJ.out _ _ _ _ HJW.out hW', HF.out.then_oth hW' (Nat.le_refl _)⟩⟩
  case stop =>
    rintro c pre S W hp ⟨rfl, So, pt, hsub, hpt, hjx, hF⟩ hSD hdef
    have hSo : ¬ So wS.heap.size := fun h => hSD (hsub _ h)
    have hM : Marks W1.heap.size So W [{ target := .collected wS.heap.size, args := #[] }] := (Marks.nil _ _ _).cons (by omega) hSo hdef (fun l e => by cases l <;> simp at e ⊢)
    gi_wp2_with fail
    refine leaves_marks (D0 := W1.heap.size) (S := So) rfl _ _ hM (fun W' hW' => ?_)
    exact ⟨⟨_, rfl⟩, .inr ⟨pt, So, hpt, HJX.out _ _ _ _ hjx hW', hF.then_oth hW' (Nat.le_refl _)⟩⟩
  · rintro pre S W W' ⟨wo, wn, wc, So, ⟨rfl, i2, i3, iO, iJ, iF, iA, iT⟩, hsW⟩ ho
    have hoS : Oth W1.heap.size So W W' := ho.mono (by omega) (fun k h => .inr h)
    exact ⟨wo, wn, wc, So, ⟨rfl, i2.block (ho.same _ i2.lt (.inl (by omega))), i3.block (ho.same _ i3.lt (.inl (by omega))), iO.block (fun g hg => ho.same g (iO.lt g hg).2 (.inr (.inl (.inr hg)))), HJ.out _ _ _ _ iJ hoS, iF.then_oth hoS (Nat.le_refl _), iA, fun k hk => Nat.lt_of_lt_of_le (iT k hk) ho.size⟩, Nat.le_trans hsW ho.size⟩
  · rintro c pre S W W' ⟨rfl, So, pt, hsub, hpt, hjx, hF⟩ ho
    have hoS : Oth W1.heap.size So W W' := ho.mono (by omega) hsub
    exact ⟨rfl, So, pt, hsub, hpt, HJX.out _ _ _ _ hjx hoS, hF.then_oth hoS (Nat.le_refl _)⟩
  · rintro k ((rfl | hk) | hk)
    · exact ⟨fun hr => by rcases hr with hr | hr <;> omega, by omega⟩
    · simp [Value.ownBlock] at hk
    · obtain ⟨h1, h2⟩ := HS0.out k hk
      exact ⟨fun hr => by rcases hr with hr | hr; exact h1 (.inl hr); omega, by omega⟩
  · exact ⟨none, 0, 0, S0, ⟨rfl, hb2S, hb3S, OwnsK.nil _ _ _ _, hj0, Foot.of_below hb1S, fun k hk => by obtain ⟨h1, h2⟩ := HS0.out k hk; exact ⟨by omega, by omega, by simp [Value.ownBlock], h1⟩, hTp0⟩, Nat.le_refl _⟩
  · rintro x9 a' W W' rfl hx
    rfl
end Go.Proofs.YtlmjkbdodecbmaaGreatDoor
