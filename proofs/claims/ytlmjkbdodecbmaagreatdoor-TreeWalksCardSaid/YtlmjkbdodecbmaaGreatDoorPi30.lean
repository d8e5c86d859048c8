/-
  Pi30: RangeS (what is needed of them).
-/
import Derived.Test.YtlmjkbdodecbmaaGreatDoorPi29

namespace Go.Proofs.YtlmjkbdodecbmaaGreatDoor
open Go.RowKit
set_option linter.unusedVariables false
set_option linter.unusedSimpArgs false
/-- The blocks that values bring: the body may take them for its own. -/
def AvV (v : Array Value) (k : Nat) : Prop := ∃ s ∈ v.toList, s.ownBlock = some k
/-- IterW's contract, told more of each value: D: where the heap ended when the iterator was called; S: the body's own blocks. -/
def IterS {α : Type} (P : Program) (gf : Nat) (lb : Array Value) (Enc : Nat → (Nat → Prop) → World → Array Value → α → Prop) (xs : List α) (R : Nat → Prop) (w : World) : Prop :=
  ∀ (l : Nat) (J Jx : List α → (Nat → Prop) → World → Prop) (S0 : Nat → Prop) (W1 : World), Below w.heap.size w W1 → (∀ k, S0 k → ¬ R k ∧ k < W1.heap.size) →
    (∀ pre S W W', J pre S W → Oth W1.heap.size S W W' → J pre S W') → (∀ pre S W W', Jx pre S W → Oth W1.heap.size S W W' → Jx pre S W') →
    (∀ pre x v S W, J pre S W → Enc W1.heap.size S W v x → pre ++ [x] <+: xs → YieldAt Fence.wide 0 P l v W fun e W' =>
      (e = .returned (.bool true) ∧ ∃ S', J (pre ++ [x]) S' W' ∧ Foot (fun k => S k ∨ AvV v k) S' W W' ∧ Top S' W') ∨ (e = .returned (.bool false) ∧ ∃ S', Jx (pre ++ [x]) S' W' ∧ Foot (fun k => S k ∨ AvV v k) S' W W')) →
    J [] S0 W1 →
    CallsIn Fence.wide 0 P gf (IterArgs l lb) W1 fun e W' => (∃ v, e = .returned v) ∧ ((∃ S', J xs S' W' ∧ Foot S0 S' W1 W') ∨ (∃ pre S', pre <+: xs ∧ Jx pre S' W' ∧ Foot S0 S' W1 W'))
theorem IterS.mono {α : Type} {P : Program} {gf : Nat} {lb : Array Value} {Enc : Nat → (Nat → Prop) → World → Array Value → α → Prop} {xs : List α} {R : Nat → Prop} {w w' : World} (h : IterS P gf lb Enc xs R w) (hb : Below w.heap.size w w') :
    IterS P gf lb Enc xs R w' := fun l J Jx S0 W1 hW1 => h l J Jx S0 W1 (hb.trans (hW1.mono hb.size))
theorem wp_rangeS {α : Type} {P : Program} {g : Operand} {ps : Array Tmp} {assign body : Code} {Q : Exit → Act → World → Prop} {a : Act} {w : World}
    {gf : Nat} {lb : Array Value} (hg : a.eval g = .func (.func gf) #[] lb) (eg : ∀ args w, (callFunc gf args).run P w = .ok (.enter gf args) w)
    {Enc : Nat → (Nat → Prop) → World → Array Value → α → Prop} {xs : List α} {R : Nat → Prop} (hit : IterS P gf lb Enc xs R w) (hav : ∀ D S W v x, Enc D S W v x → ∀ k, AvV v k → D ≤ k) (hanti : ∀ D S T W v x, (∀ k, S k → T k) → Enc D T W v x → Enc D S W v x) (hps : ∀ D S W v x, Enc D S W v x → v.size = ps.size) (hR : ∀ k, R k → k < w.heap.size)
    (I : List α → (Nat → Prop) → World → Prop) (Ix : Code → List α → (Nat → Prop) → World → Prop) (hI : ∀ pre S W W', I pre S W → Oth w.heap.size S W W' → I pre S W') (hIx : ∀ c pre S W W', Ix c pre S W → Oth w.heap.size S W W' → Ix c pre S W')
    (S0 : Nat → Prop) (hS0 : ∀ k, S0 k → ¬ R k ∧ k < w.heap.size) (h0 : I [] S0 w) (Ax : (Nat → Prop) → (Nat → Prop) → α → Act → World → Prop) (hAx : ∀ S A x a' W W', Ax S A x a' W → Ext w.heap.size W W' → Ax S A x a' W')
    (hassign : ∀ (l : Nat) (pre : List α) (x : α) (v : Array Value) (S : Nat → Prop) (W : World) (K : Act → World → Prop) (D1 : Nat), w.heap.size ≤ D1 → I pre S W → Enc D1 S W v x → pre ++ [x] <+: xs →
      (∀ a' W', Below W.heap.size W W' → I pre S W' → Ax S (AvV v) x a' W' → K a' W') →
      assign.wpIn (Fence.wide.inRound l) 0 P (Exit.then K (fun _ _ _ => False)) { tmps := (ps.zip v).foldl (fun t (p, v) => t.setIfInBounds p v) a.tmps, defers := [] } W)
    (hbody : ∀ (l : Nat) (pre : List α) (x : α) (a' : Act) (S A : Nat → Prop) (W : World), I pre S W → Ax S A x a' W → pre ++ [x] <+: xs → (∀ k, S k → ¬ R k ∧ k < W.heap.size) → body.wpIn (Fence.wide.inRound l) 0 P (postW I Ix (pre ++ [x]) (fun k => S k ∨ A k) W) a' W)
    (hdone : ∀ (S : Nat → Prop) (W : World), I xs S W → ¬ S w.heap.size → (∀ k, S k → ¬ R k) → W.heap[w.heap.size]? = some (.deferred (some [])) → Q .normal { a with defers := { target := .collected w.heap.size, args := #[] } :: a.defers } W)
    (hstop : ∀ (c : Code) (pre : List α) (S : Nat → Prop) (W : World), pre <+: xs → Ix c pre S W → ¬ S w.heap.size → W.heap[w.heap.size]? = some (.deferred (some [])) → c.wpIn Fence.wide 0 P Q { a with defers := { target := .collected w.heap.size, args := #[] } :: a.defers } W) :
    (Code.rangeFunc g ps assign body).wpIn Fence.wide 0 P Q a w := by
  refine wpIn_rangeFunc ?_
  intro fn hfn
  obtain ⟨rec, hrec⟩ : ∃ rec : LoopState → Option Code → Loop, rec = fun st pe => { state := st, pending := pe, fn, tmps := a.tmps, params := ps, assign, body, defers := w.heap.size } := ⟨_, rfl⟩
  obtain ⟨W1, hW1⟩ : ∃ W1, (w.alloc (.deferred (some []))).alloc (.loop (rec .ready none)) = W1 := ⟨_, rfl⟩
  have hL1 : W1.heap[w.heap.size + 1]? = some (.loop (rec .ready none)) := by
    rw [← hW1]; have := World.alloc_heap_new (w.alloc (.deferred (some []))) (.loop (rec .ready none)); rwa [World.size_alloc] at this
  have hK1 : W1.heap[w.heap.size]? = some (.deferred (some [])) := by
    rw [← hW1]; exact (Below.heap_alloc _ _ _ (by simp)).trans (World.alloc_heap_new w _)
  have hb1 : Below w.heap.size w W1 := by
    rw [← hW1]; exact ((Below.refl _ w).alloc (Nat.le_refl _) _).alloc (by simp) _
  have hI1 : I [] S0 W1 := hI _ _ _ _ h0 (Oth.of_below hb1)
  refine ⟨w.heap.size + 1, [{ target := .collected w.heap.size, args := #[] }], W1, { target := .fn (.func gf) lb, args := #[.func (.yield (w.heap.size + 1)) #[] #[]] }, W1, gf,
    #[.func (.yield (w.heap.size + 1)) #[] #[]] ++ lb, W1, ?_, ?_, ?_, ?_, fun h => by simp [Fence.wide] at h, ?_⟩
  · rw [← hW1, hrec]; exact run_enterLoop_outer _ _ _ _ _
  · simp only [resolve, hg]
    simp [go_sem]
  · intro f' hf'; trivial
  · simp [invoke, go_sem, eg]
  · refine (hit (w.heap.size + 1)
      (fun pre T W => ∃ S, (T = fun k => S k ∨ k = w.heap.size + 1) ∧ I pre S W ∧ (∀ k, S k → ¬ R k ∧ k < W.heap.size) ∧ ¬ S w.heap.size ∧ ¬ S (w.heap.size + 1) ∧ W.heap[w.heap.size + 1]? = some (.loop (rec .ready none)) ∧ W.heap[w.heap.size]? = some (.deferred (some [])))
      (fun pre T W => ∃ S c, (T = fun k => S k ∨ k = w.heap.size + 1) ∧ ¬ S (w.heap.size + 1) ∧ ¬ S w.heap.size ∧ Ix c pre S W ∧ W.heap[w.heap.size + 1]? = some (.loop (rec .done (some c))) ∧ W.heap[w.heap.size]? = some (.deferred (some [])))
      (fun k => S0 k ∨ k = w.heap.size + 1) W1 hb1 (fun k hk => by
        have hlt1 := (Array.getElem?_eq_some_iff.1 hL1).1
        rcases hk with h | h
        · exact ⟨(hS0 k h).1, by have := (hS0 k h).2; omega⟩
        · exact ⟨fun hr => by have := hR k hr; omega, by omega⟩) ?_ ?_ ?_ ⟨S0, rfl, hI1, fun k h => ⟨(hS0 k h).1, by have := (hS0 k h).2; have := hb1.size; omega⟩, fun h => by have := (hS0 _ h).2; omega, fun h => by have := (hS0 _ h).2; omega, hL1, hK1⟩).mono ?_
    · rintro pre T W W' ⟨S, rfl, hi, h1, h2, h3, hl, hk⟩ hb
      exact ⟨S, rfl, hI _ _ _ _ hi (hb.mono hb1.size (fun k h => .inl h)), fun k hk => ⟨(h1 k hk).1, Nat.lt_of_lt_of_le (h1 k hk).2 hb.size⟩, h2, h3, (hb.same _ (Array.getElem?_eq_some_iff.1 hl).1 (.inr (.inr rfl))).trans hl, (hb.same _ (Array.getElem?_eq_some_iff.1 hk).1 (.inl (Array.getElem?_eq_some_iff.1 hK1).1)).trans hk⟩
    · rintro pre T W W' ⟨S, c, rfl, h3, h4, hi, hl, hk⟩ hb
      exact ⟨S, c, rfl, h3, h4, hIx c _ _ _ _ hi (hb.mono hb1.size (fun k h => .inl h)), (hb.same _ (Array.getElem?_eq_some_iff.1 hl).1 (.inr (.inr rfl))).trans hl, (hb.same _ (Array.getElem?_eq_some_iff.1 hk).1 (.inl (Array.getElem?_eq_some_iff.1 hK1).1)).trans hk⟩
    · -- ONE ROUND
      rintro pre x v T W ⟨S, rfl, hi, hSB, hSD, hSl, hl, hk⟩ henc hpre
      have hlt : w.heap.size + 1 < W.heap.size := (Array.getElem?_eq_some_iff.1 hl).1
      have hy := run_yield (P := P) (args := v) hl (by rw [hrec]; exact hps _ _ _ _ _ henc)
      rw [hrec] at hy
      refine ⟨fn, _, assign, body, hy, roundIn_of_wpIn hfn (hassign _ pre x v S W _ W1.heap.size hb1.size hi (hanti _ _ _ _ _ _ (fun k h => .inl h) henc) hpre ?_)⟩
      clear hy
      intro a' Wa hba hia hax
      have hla := (hba.block _ hlt).trans hl
      have hka := (hba.block w.heap.size (by omega)).trans hk
      have hlta : w.heap.size + 1 < Wa.heap.size := Nat.lt_of_lt_of_le hlt hba.size
      refine ⟨_, run_beginRound hla (by rw [hrec]), ?_⟩
      have hl2 : (Wa.putObj (w.heap.size + 1) (.loop { rec .ready none with state := .busy })).heap[w.heap.size + 1]? = some (.loop { rec .ready none with state := .busy }) := World.putObj_heap_same hlta
      have hk2 : (Wa.putObj (w.heap.size + 1) (.loop { rec .ready none with state := .busy })).heap[w.heap.size]? = some (.deferred (some [])) := (World.putObj_heap_other (by omega)).trans hka
      have hex : Ext w.heap.size Wa (Wa.putObj (w.heap.size + 1) (.loop { rec .ready none with state := .busy })) := Ext.put (by omega) hla rfl
      have hf2 : Foot (fun k => S k ∨ k = w.heap.size + 1) (fun k => S k ∨ k = w.heap.size + 1) W (Wa.putObj (w.heap.size + 1) (.loop { rec .ready none with state := .busy })) :=
        (Foot.of_below hba).trans (Foot.put _ (.inr rfl))
      refine wpIn_mono (hbody _ pre x a' S (AvV v) _ (hI _ _ _ _ hia (Oth.put _ (by omega) hSl)) (hAx _ _ _ _ _ _ hax hex) hpre (fun k hk => ⟨(hSB k hk).1, by have := (hSB k hk).2; have := hba.size; simp; omega⟩)) ?_
      generalize Wa.putObj (w.heap.size + 1) (.loop { rec .ready none with state := .busy }) = W2 at hl2 hk2 hf2 ⊢
      have hlt2 : w.heap.size + 1 < W2.heap.size := (Array.getElem?_eq_some_iff.1 hl2).1
      have hsz1 : W1.heap.size = w.heap.size + 2 := by rw [← hW1]; simp
      have hav9 : ∀ k, AvV v k → w.heap.size + 2 ≤ k := fun k hk => by have := hav _ _ _ _ _ henc k hk; omega
      have hSlA : ¬ (S (w.heap.size + 1) ∨ AvV v (w.heap.size + 1)) := fun h => by rcases h with h | h; exact hSl h; have := hav9 _ h; omega
      have hSDA : ¬ (S w.heap.size ∨ AvV v w.heap.size) := fun h => by rcases h with h | h; exact hSD h; have := hav9 _ h; omega
      have hf2A : Foot (fun k => (S k ∨ k = w.heap.size + 1) ∨ AvV v k) (fun k => (S k ∨ AvV v k) ∨ k = w.heap.size + 1) W W2 := ⟨hf2.os, hf2.tape, hf2.output, hf2.size, fun k hk hs => hf2.same k hk (fun h => hs (.inl h)), fun k hk => .inl (by rcases hk with (h | h) | h; exact .inl (.inl h); exact .inr h; exact .inl (.inr h))⟩
      have fin : ∀ (jump : Option Code) (S' : Nat → Prop) (W3 : World), Foot (fun k => S k ∨ AvV v k) S' W2 W3 →
          (Instr.endRound (w.heap.size + 1) jump).run P W3 = .ok (.bool jump.isNone) (W3.putObj (w.heap.size + 1) (.loop (rec (if jump.isNone then .ready else .done) jump))) ∧
          W3.heap[w.heap.size + 1]? = some (.loop { rec .ready none with state := .busy }) ∧
          (W3.putObj (w.heap.size + 1) (.loop (rec (if jump.isNone then .ready else .done) jump))).heap[w.heap.size + 1]? = some (.loop (rec (if jump.isNone then .ready else .done) jump)) ∧
          (W3.putObj (w.heap.size + 1) (.loop (rec (if jump.isNone then .ready else .done) jump))).heap[w.heap.size]? = some (.deferred (some [])) ∧
          Foot (fun k => (S k ∨ k = w.heap.size + 1) ∨ AvV v k) (fun k => S' k ∨ k = w.heap.size + 1) W (W3.putObj (w.heap.size + 1) (.loop (rec (if jump.isNone then .ready else .done) jump))) ∧
          ¬ S' w.heap.size ∧ ¬ S' (w.heap.size + 1) ∧ (∀ k, S' k → ¬ R k) := fun jump S' W3 hf => by
        have hl3 := (hf.same _ hlt2 hSlA).trans hl2
        have hk3 := (hf.same w.heap.size (by omega) hSDA).trans hk2
        have := run_endRound (P := P) jump hl3
        rw [hrec] at this ⊢
        refine ⟨this, by rw [hrec] at hl3; exact hl3, World.putObj_heap_same (Array.getElem?_eq_some_iff.1 hl3).1, (World.putObj_heap_other (by omega)).trans hk3, ?_, ?_, ?_, ?_⟩
        · exact (hf2A.trans (hf.wide (T := fun k => k = w.heap.size + 1))).trans (Foot.put _ (.inr rfl))
        · intro h; rcases hf.fresh _ h with h1 | h1
          · exact hSDA h1
          · omega
        · intro h; rcases hf.fresh _ h with h1 | h1
          · exact hSlA h1
          · omega
        · intro k h; rcases hf.fresh _ h with h1 | h1
          · rcases h1 with h1 | h1
            · exact (hSB k h1).1
            · intro hr; have := hR k hr; have := hav9 k h1; omega
          · intro hr; have := hR k hr; have := hf2.size; omega
      rintro e a3 W3 hp
      cases e with
      | normal =>
        obtain ⟨S', hi3, hf3, ht3⟩ := hp
        obtain ⟨hr, hl3, hl4, hk4, hft, g1, g2, g3⟩ := fin none S' W3 hf3
        exact ⟨_, _, hr, .inl ⟨rfl, _, ⟨S', rfl, hI _ _ _ _ hi3 (Oth.put _ (by omega) g2), fun k hk => ⟨g3 k hk, by simpa using ht3 k hk⟩, g1, g2, hl4, hk4⟩, hft, fun k hk => by
          rcases hk with h | h
          · simpa using ht3 k h
          · rw [h]; exact (Array.getElem?_eq_some_iff.1 hl4).1⟩⟩
      | ret =>
        obtain ⟨S', hi3, hf3⟩ := hp
        obtain ⟨hr, hl3, hl4, hk4, hft, g1, g2, g3⟩ := fin (some .ret) S' W3 hf3
        exact ⟨_, _, hr, .inr ⟨rfl, _, ⟨S', .ret, rfl, g2, g1, hIx _ _ _ _ _ hi3 (Oth.put _ (by omega) g2), hl4, hk4⟩, hft⟩⟩
      | exit id =>
        obtain ⟨S', hi3, hf3⟩ := hp
        obtain ⟨hr, hl3, hl4, hk4, hft, g1, g2, g3⟩ := fin (some (.exit id)) S' W3 hf3
        exact ⟨_, _, hr, .inr ⟨rfl, _, ⟨S', .exit id, rfl, g2, g1, hIx _ _ _ _ _ hi3 (Oth.put _ (by omega) g2), hl4, hk4⟩, hft⟩⟩
      | goto t =>
        obtain ⟨S', hi3, hf3⟩ := hp
        obtain ⟨hr, hl3, hl4, hk4, hft, g1, g2, g3⟩ := fin (some (.goto t)) S' W3 hf3
        exact ⟨_, _, hr, .inr ⟨rfl, _, ⟨S', .goto t, rfl, g2, g1, hIx _ _ _ _ _ hi3 (Oth.put _ (by omega) g2), hl4, hk4⟩, hft⟩⟩
      | panic ch => exact hp.elim
      | outgrown => exact hp.elim
    · -- BEHIND THE ITERATOR
      rintro e W2 ⟨⟨v, rfl⟩, (⟨T, ⟨S, rfl, hi, hSr, hSd, hn, hl, hk⟩, _⟩ | ⟨pre, T, hp, ⟨S, c, rfl, hn, hSd, hi, hl, hk⟩, _⟩)⟩
      · exact ⟨none, _, by have := run_endLoop (P := P) hl (by rw [hrec]; simp); rw [hrec] at this; exact this, hdone S _ (hI _ _ _ _ hi (Oth.put _ (by omega) hn)) hSd (fun k h => (hSr k h).1) ((World.putObj_heap_other (by omega)).trans hk)⟩
      · exact ⟨some c, _, by have := run_endLoop (P := P) hl (by rw [hrec]; simp); rw [hrec] at this; exact this, hstop c pre S _ hp (hIx _ _ _ _ _ hi (Oth.put _ (by omega) hn)) hSd ((World.putObj_heap_other (by omega)).trans hk)⟩
end Go.Proofs.YtlmjkbdodecbmaaGreatDoor
