/-
  RangeN: the texts RangeA RangeB, one behind the other.
-/
import Derived.RangeFuncNested
import Derived.RangeFuncBound
import Derived.RangeFuncCalls
import Derived.RangeFuncLeaves
import Derived.Shelf.Abstract
import Derived.Test.YtieffhkfefimeaaGreatDoorHeapN
import Derived.OwnWalkIn

/-
  'for x := range seq': a law of our own for a loop over an iterator that keeps cells of its own between two rounds: the body says which blocks it may write (S).
-/
namespace Go.Proofs.YtieffhkfefimeaaGreatDoor
open Go.RowKit
set_option linter.unusedVariables false
set_option linter.unusedSimpArgs false

/-- From W on to W': only blocks of S, and new ones, have turned; S' holds no other old ones. -/
structure Foot (S S' : Nat → Prop) (W W' : World) : Prop where
  os : W'.os = W.os
  tape : W'.tape = W.tape
  output : W'.output = W.output
  size : W.heap.size ≤ W'.heap.size
  same : ∀ k, k < W.heap.size → ¬ S k → W'.heap[k]? = W.heap[k]?
  fresh : ∀ k, S' k → S k ∨ W.heap.size ≤ k

theorem Foot.refl (S : Nat → Prop) (W : World) : Foot S S W W := ⟨rfl, rfl, rfl, Nat.le_refl _, fun _ _ _ => rfl, fun _ h => .inl h⟩
theorem Foot.trans {S S' S'' : Nat → Prop} {A B C : World} (h : Foot S S' A B) (h' : Foot S' S'' B C) : Foot S S'' A C :=
  ⟨h'.os.trans h.os, h'.tape.trans h.tape, h'.output.trans h.output, Nat.le_trans h.size h'.size,
    fun k hk hs => (h'.same k (Nat.lt_of_lt_of_le hk h.size) (fun hs' => by rcases h.fresh k hs' with h1 | h1; exact hs h1; omega)).trans (h.same k hk hs),
    fun k hk => by
      rcases h'.fresh k hk with h1 | h1
      · exact h.fresh k h1
      · exact .inr (Nat.le_trans h.size h1)⟩
theorem Foot.of_below {S : Nat → Prop} {W W' : World} (h : Below W.heap.size W W') : Foot S S W W' :=
  ⟨h.os, h.tape, h.output, h.size, fun k hk _ => h.block k hk, fun _ h => .inl h⟩
theorem Foot.mono {S S' T : Nat → Prop} {W W' : World} (h : Foot S S' W W') (hT : ∀ k, T k → S' k) : Foot S T W W' :=
  ⟨h.os, h.tape, h.output, h.size, h.same, fun k hk => h.fresh k (hT k hk)⟩
theorem Foot.wide {S S' T : Nat → Prop} {W W' : World} (h : Foot S S' W W') : Foot (fun k => S k ∨ T k) (fun k => S' k ∨ T k) W W' :=
  ⟨h.os, h.tape, h.output, h.size, fun k hk hs => h.same k hk (fun h1 => hs (.inl h1)), fun k hk => by
    rcases hk with h1 | h1
    · rcases h.fresh k h1 with h2 | h2
      · exact .inl (.inl h2)
      · exact .inr h2
    · exact .inl (.inr h1)⟩
theorem Foot.put {S : Nat → Prop} {W : World} {l : Nat} (o : Obj) (hl : S l) : Foot S S W (W.putObj l o) :=
  ⟨rfl, rfl, rfl, by simp, fun k _ hs => World.putObj_heap_other (fun e => hs (e ▸ hl)), fun _ h => .inl h⟩

/-- All rows of cells, and all that lies below B, are as they were. -/
structure Ext (B : Nat) (W W' : World) : Prop where
  os : W'.os = W.os
  tape : W'.tape = W.tape
  output : W'.output = W.output
  size : W.heap.size ≤ W'.heap.size
  low : ∀ k, k < B → k < W.heap.size → W'.heap[k]? = W.heap[k]?
  cells : ∀ (k : Nat) (o : Obj), W.heap[k]? = some o → o.isCells = true → W'.heap[k]? = some o
theorem Ext.of_below {B : Nat} {W W' : World} (h : Below W.heap.size W W') : Ext B W W' :=
  ⟨h.os, h.tape, h.output, h.size, fun k _ hk => h.block k hk, fun k o ho _ => (h.block k (Array.getElem?_eq_some_iff.1 ho).1).trans ho⟩
theorem Ext.put {B : Nat} {W : World} {l : Nat} {o o' : Obj} (hl : B ≤ l) (ho : W.heap[l]? = some o) (hc : o.isCells = false) : Ext B W (W.putObj l o') :=
  ⟨rfl, rfl, rfl, by simp, fun k hk _ => World.putObj_heap_other (by omega), fun k o2 h2 hc2 => by
    by_cases e : k = l
    · subst e; rw [ho] at h2; cases h2; rw [hc] at hc2; cases hc2
    · exact (World.putObj_heap_other e).trans h2⟩
theorem Ext.trans {B : Nat} {A C D : World} (h : Ext B A C) (h' : Ext B C D) : Ext B A D :=
  ⟨h'.os.trans h.os, h'.tape.trans h.tape, h'.output.trans h.output, Nat.le_trans h.size h'.size, fun k hk h1 => (h'.low k hk (Nat.lt_of_lt_of_le h1 h.size)).trans (h.low k hk h1), fun k o h1 h2 => h'.cells k o (h.cells k o h1 h2) h2⟩

/-- What abides all that turns no cells. -/
def Stab {α : Type} (B : Nat) (J : List α → (Nat → Prop) → World → Prop) : Prop := ∀ pre S W W', J pre S W → Ext B W W' → J pre S W'

/-- S holds blocks of the world alone. -/
def Top (S : Nat → Prop) (W : World) : Prop := ∀ k, S k → k < W.heap.size

abbrev IterArgs (l : Nat) (lb : Array Value) : Array Value := #[.func (.yield l) #[] #[]] ++ lb

/-- THE CONTRACT OF AN ITERATOR VALUE, called in a world that goes on from w: it tells the elements of xs one by one (Enc: how a value reads as an element), till a round says no more. B: the body's own blocks lie from there on. -/
def Iter {α : Type} (P : Program) (gf : Nat) (lb : Array Value) (Enc : World → Value → α → Prop) (xs : List α) (B : Nat) (Kp : World → World → Prop) (w : World) : Prop :=
  ∀ (l : Nat) (J Jx : List α → (Nat → Prop) → World → Prop) (S0 : Nat → Prop) (W1 : World), Below w.heap.size w W1 → (∀ k, S0 k → B ≤ k ∧ k < W1.heap.size) →
    (∀ pre S W W', J pre S W → Below W.heap.size W W' → J pre S W') → (∀ pre S W W', Jx pre S W → Below W.heap.size W W' → Jx pre S W') →
    (∀ pre x v S W, J pre S W → Enc W v x → pre ++ [x] <+: xs → YieldAt Fence.wide 0 P l #[v] W fun e W' =>
      (e = .returned (.bool true) ∧ ∃ S', J (pre ++ [x]) S' W' ∧ Foot S S' W W' ∧ Top S' W' ∧ Kp W W') ∨ (e = .returned (.bool false) ∧ ∃ S', Jx (pre ++ [x]) S' W' ∧ Foot S S' W W')) →
    J [] S0 W1 →
    CallsIn Fence.wide 0 P gf (IterArgs l lb) W1 fun e W' => (∃ v, e = .returned v) ∧ ((∃ S', J xs S' W' ∧ Foot S0 S' W1 W') ∨ (∃ pre S', pre <+: xs ∧ Jx pre S' W' ∧ Foot S0 S' W1 W'))

/-- What a round's body owes. -/
def postS {α : Type} (Kp : World → World → Prop) (I : List α → (Nat → Prop) → World → Prop) (Ix : Code → List α → (Nat → Prop) → World → Prop) (pre : List α) (S : Nat → Prop) (W : World) : Exit → Act → World → Prop
  | .normal, _, W' => ∃ S', I pre S' W' ∧ Foot S S' W W' ∧ Top S' W' ∧ Kp W W'
  | .ret, _, W' => ∃ S', Ix .ret pre S' W' ∧ Foot S S' W W'
  | .exit id, _, W' => ∃ S', Ix (.exit id) pre S' W' ∧ Foot S S' W W'
  | .goto t, _, W' => ∃ S', Ix (.goto t) pre S' W' ∧ Foot S S' W W'
  | _, _, _ => False

theorem wp_range {α : Type} {P : Program} {g : Operand} {ps : Array Tmp} {assign body : Code} {Q : Exit → Act → World → Prop} {a : Act} {w : World}
    {gf : Nat} {lb : Array Value} (hg : a.eval g = .func (.func gf) #[] lb) (eg : ∀ args w, (callFunc gf args).run P w = .ok (.enter gf args) w)
    {Enc : World → Value → α → Prop} {xs : List α} {B : Nat} {Kp : World → World → Prop} (hit : Iter P gf lb Enc xs B Kp w) (hKt : ∀ A C D, Kp A C → Kp C D → Kp A D) (hKe : ∀ A C, Ext w.heap.size A C → Kp A C) (hps : ps.size = 1) (hB : B ≤ w.heap.size)
    (I : List α → (Nat → Prop) → World → Prop) (Ix : Code → List α → (Nat → Prop) → World → Prop) (hI : Stab w.heap.size I) (hIx : ∀ c, Stab w.heap.size (Ix c))
    (S0 : Nat → Prop) (hS0 : ∀ k, S0 k → B ≤ k ∧ k < w.heap.size) (h0 : I [] S0 w) (Ax : α → Act → World → Prop) (hAx : ∀ x a' W W', Ax x a' W → Ext w.heap.size W W' → Ax x a' W')
    (hassign : ∀ (l : Nat) (pre : List α) (x : α) (v : Value) (S : Nat → Prop) (W : World) (K : Act → World → Prop), I pre S W → Enc W v x → pre ++ [x] <+: xs →
      (∀ a' W', Below W.heap.size W W' → I pre S W' → Ax x a' W' → K a' W') →
      assign.wpIn (Fence.wide.inRound l) 0 P (Exit.then K (fun _ _ _ => False)) { tmps := (ps.zip #[v]).foldl (fun t (p, v) => t.setIfInBounds p v) a.tmps, defers := [] } W)
    (hbody : ∀ (l : Nat) (pre : List α) (x : α) (a' : Act) (S : Nat → Prop) (W : World), I pre S W → Ax x a' W → pre ++ [x] <+: xs → (∀ k, S k → B ≤ k ∧ k < W.heap.size) → body.wpIn (Fence.wide.inRound l) 0 P (postS Kp I Ix (pre ++ [x]) S W) a' W)
    (hdone : ∀ (D : Nat) (S : Nat → Prop) (W : World), w.heap.size ≤ D → I xs S W → W.heap[D]? = some (.deferred (some [])) → Q .normal { a with defers := { target := .collected D, args := #[] } :: a.defers } W)
    (hstop : ∀ (D : Nat) (c : Code) (pre : List α) (S : Nat → Prop) (W : World), w.heap.size ≤ D → pre <+: xs → Ix c pre S W → W.heap[D]? = some (.deferred (some [])) → c.wpIn Fence.wide 0 P Q { a with defers := { target := .collected D, args := #[] } :: a.defers } W) :
    (Code.rangeFunc g ps assign body).wpIn Fence.wide 0 P Q a w := by
  refine wpIn_rangeFunc ?_
  intro fn hfn
  obtain ⟨rec, hrec⟩ : ∃ rec : LoopState → Option Code → Loop, rec = fun st pe => { state := st, pending := pe, fn, tmps := a.tmps, params := ps, assign, body, defers := w.heap.size } := ⟨_, rfl⟩
  obtain ⟨W1, hW1⟩ : ∃ W1, (w.alloc (.deferred (some []))).alloc (.loop (rec .ready none)) = W1 := ⟨_, rfl⟩
  have hL1 : W1.heap[w.heap.size + 1]? = some (.loop (rec .ready none)) := by
    rw [← hW1]; have := World.alloc_heap_new (w.alloc (.deferred (some []))) (.loop (rec .ready none)); rwa [World.size_alloc] at this
  have hK1 : W1.heap[w.heap.size]? = some (.deferred (some [])) := by
    rw [← hW1]; exact (Below.heap_alloc _ _ _ (by simp)).trans (World.alloc_heap_new w _)
  have hb1 : Below w.heap.size w W1 := by
    rw [← hW1]; exact ((Below.refl _ w).alloc (Nat.le_refl _) _).alloc (by simp) _
  have hI1 : I [] S0 W1 := hI _ _ _ _ h0 (Ext.of_below hb1)
  refine ⟨w.heap.size + 1, [{ target := .collected w.heap.size, args := #[] }], W1, { target := .fn (.func gf) lb, args := #[.func (.yield (w.heap.size + 1)) #[] #[]] }, W1, gf,
    #[.func (.yield (w.heap.size + 1)) #[] #[]] ++ lb, W1, ?_, ?_, ?_, ?_, fun h => by simp [Fence.wide] at h, ?_⟩
  · rw [← hW1, hrec]; exact run_enterLoop_outer _ _ _ _ _
  · simp only [resolve, hg]
    simp [go_sem]
  · intro f' hf'; trivial
  · simp [invoke, go_sem, eg]
  · refine (hit (w.heap.size + 1)
      (fun pre T W => ∃ S, (T = fun k => S k ∨ k = w.heap.size + 1) ∧ I pre S W ∧ (∀ k, S k → B ≤ k ∧ k < W.heap.size) ∧ ¬ S w.heap.size ∧ ¬ S (w.heap.size + 1) ∧ W.heap[w.heap.size + 1]? = some (.loop (rec .ready none)) ∧ W.heap[w.heap.size]? = some (.deferred (some [])))
      (fun pre T W => ∃ S c, Ix c pre S W ∧ W.heap[w.heap.size + 1]? = some (.loop (rec .done (some c))) ∧ W.heap[w.heap.size]? = some (.deferred (some [])))
      (fun k => S0 k ∨ k = w.heap.size + 1) W1 hb1 (fun k hk => by
        have hlt1 := (Array.getElem?_eq_some_iff.1 hL1).1
        rcases hk with h | h
        · have := hS0 k h; omega
        · omega) ?_ ?_ ?_ ⟨S0, rfl, hI1, fun k h => ⟨(hS0 k h).1, by have := (hS0 k h).2; have := hb1.size; omega⟩, fun h => by have := (hS0 _ h).2; omega, fun h => by have := (hS0 _ h).2; omega, hL1, hK1⟩).mono ?_
    · rintro pre T W W' ⟨S, rfl, hi, h1, h2, h3, hl, hk⟩ hb
      exact ⟨S, rfl, hI _ _ _ _ hi (Ext.of_below hb), fun k hk => ⟨(h1 k hk).1, Nat.lt_of_lt_of_le (h1 k hk).2 hb.size⟩, h2, h3, (hb.block _ (Array.getElem?_eq_some_iff.1 hl).1).trans hl, (hb.block _ (Array.getElem?_eq_some_iff.1 hk).1).trans hk⟩
    · rintro pre T W W' ⟨S, c, hi, hl, hk⟩ hb
      exact ⟨S, c, hIx c _ _ _ _ hi (Ext.of_below hb), (hb.block _ (Array.getElem?_eq_some_iff.1 hl).1).trans hl, (hb.block _ (Array.getElem?_eq_some_iff.1 hk).1).trans hk⟩
    · -- ONE ROUND
      rintro pre x v T W ⟨S, rfl, hi, hSB, hSD, hSl, hl, hk⟩ henc hpre
      have hlt : w.heap.size + 1 < W.heap.size := (Array.getElem?_eq_some_iff.1 hl).1
      have hy := run_yield (P := P) (args := #[v]) hl (by rw [hrec]; simp [hps])
      rw [hrec] at hy
      refine ⟨fn, _, assign, body, hy, roundIn_of_wpIn hfn (hassign _ pre x v S W _ hi henc hpre ?_)⟩
      clear hy
      intro a' Wa hba hia hax
      have hla := (hba.block _ hlt).trans hl
      have hka := (hba.block w.heap.size (by omega)).trans hk
      have hlta : w.heap.size + 1 < Wa.heap.size := Nat.lt_of_lt_of_le hlt hba.size
      refine ⟨_, run_beginRound hla (by rw [hrec]), ?_⟩
      have hl2 : (Wa.putObj (w.heap.size + 1) (.loop { rec .ready none with state := .busy })).heap[w.heap.size + 1]? = some (.loop { rec .ready none with state := .busy }) := World.putObj_heap_same hlta
      have hk2 : (Wa.putObj (w.heap.size + 1) (.loop { rec .ready none with state := .busy })).heap[w.heap.size]? = some (.deferred (some [])) := (World.putObj_heap_other (by omega)).trans hka
      have hex : Ext w.heap.size Wa (Wa.putObj (w.heap.size + 1) (.loop { rec .ready none with state := .busy })) := Ext.put (by omega) hla rfl
      have hf2 : Foot (fun k => S k ∨ k = w.heap.size + 1) (fun k => S k ∨ k = w.heap.size + 1) W (Wa.putObj (w.heap.size + 1) (.loop { rec .ready none with state := .busy })) :=
        (Foot.of_below hba).trans (Foot.put _ (.inr rfl))
      refine wpIn_mono (hbody _ pre x a' S _ (hI _ _ _ _ hia hex) (hAx _ _ _ _ hax hex) hpre (fun k hk => ⟨(hSB k hk).1, by have := (hSB k hk).2; have := hba.size; simp; omega⟩)) ?_
      have hkp2 : Kp W (Wa.putObj (w.heap.size + 1) (.loop { rec .ready none with state := .busy })) := hKe _ _ ((Ext.of_below hba).trans hex)
      generalize Wa.putObj (w.heap.size + 1) (.loop { rec .ready none with state := .busy }) = W2 at hl2 hk2 hf2 hkp2 ⊢
      have hlt2 : w.heap.size + 1 < W2.heap.size := (Array.getElem?_eq_some_iff.1 hl2).1
      have fin : ∀ (jump : Option Code) (S' : Nat → Prop) (W3 : World), Foot S S' W2 W3 →
          (Instr.endRound (w.heap.size + 1) jump).run P W3 = .ok (.bool jump.isNone) (W3.putObj (w.heap.size + 1) (.loop (rec (if jump.isNone then .ready else .done) jump))) ∧
          W3.heap[w.heap.size + 1]? = some (.loop { rec .ready none with state := .busy }) ∧
          (W3.putObj (w.heap.size + 1) (.loop (rec (if jump.isNone then .ready else .done) jump))).heap[w.heap.size + 1]? = some (.loop (rec (if jump.isNone then .ready else .done) jump)) ∧
          (W3.putObj (w.heap.size + 1) (.loop (rec (if jump.isNone then .ready else .done) jump))).heap[w.heap.size]? = some (.deferred (some [])) ∧
          Foot (fun k => S k ∨ k = w.heap.size + 1) (fun k => S' k ∨ k = w.heap.size + 1) W (W3.putObj (w.heap.size + 1) (.loop (rec (if jump.isNone then .ready else .done) jump))) ∧
          ¬ S' w.heap.size ∧ ¬ S' (w.heap.size + 1) ∧ (∀ k, S' k → B ≤ k) ∧ Kp W3 (W3.putObj (w.heap.size + 1) (.loop (rec (if jump.isNone then .ready else .done) jump))) := fun jump S' W3 hf => by
        have hl3 := (hf.same _ hlt2 hSl).trans hl2
        have hk3 := (hf.same w.heap.size (by omega) hSD).trans hk2
        have := run_endRound (P := P) jump hl3
        rw [hrec] at this ⊢
        refine ⟨this, by rw [hrec] at hl3; exact hl3, World.putObj_heap_same (Array.getElem?_eq_some_iff.1 hl3).1, (World.putObj_heap_other (by omega)).trans hk3, ?_, ?_, ?_, ?_, hKe _ _ (Ext.put (by omega) hl3 (by rw [hrec]; rfl))⟩
        · exact (hf2.trans (hf.wide (T := fun k => k = w.heap.size + 1))).trans (Foot.put _ (.inr rfl))
        · intro h; rcases hf.fresh _ h with h1 | h1
          · exact hSD h1
          · omega
        · intro h; rcases hf.fresh _ h with h1 | h1
          · exact hSl h1
          · omega
        · intro k h; rcases hf.fresh _ h with h1 | h1
          · exact (hSB k h1).1
          · have := hf2.size; omega
      rintro e a3 W3 hp
      cases e with
      | normal =>
        obtain ⟨S', hi3, hf3, ht3, hkp3⟩ := hp
        obtain ⟨hr, hl3, hl4, hk4, hft, g1, g2, g3, hkp4⟩ := fin none S' W3 hf3
        exact ⟨_, _, hr, .inl ⟨rfl, _, ⟨S', rfl, hI _ _ _ _ hi3 (Ext.put (by omega) hl3 rfl), fun k hk => ⟨g3 k hk, by simpa using ht3 k hk⟩, g1, g2, hl4, hk4⟩, hft, fun k hk => by
          rcases hk with h | h
          · simpa using ht3 k h
          · rw [h]; exact (Array.getElem?_eq_some_iff.1 hl4).1, hKt _ _ _ (hKt _ _ _ hkp2 hkp3) hkp4⟩⟩
      | ret =>
        obtain ⟨S', hi3, hf3⟩ := hp
        obtain ⟨hr, hl3, hl4, hk4, hft, g1, g2, g3, _⟩ := fin (some .ret) S' W3 hf3
        exact ⟨_, _, hr, .inr ⟨rfl, _, ⟨S', .ret, hIx _ _ _ _ _ hi3 (Ext.put (by omega) hl3 rfl), hl4, hk4⟩, hft⟩⟩
      | exit id =>
        obtain ⟨S', hi3, hf3⟩ := hp
        obtain ⟨hr, hl3, hl4, hk4, hft, g1, g2, g3, _⟩ := fin (some (.exit id)) S' W3 hf3
        exact ⟨_, _, hr, .inr ⟨rfl, _, ⟨S', .exit id, hIx _ _ _ _ _ hi3 (Ext.put (by omega) hl3 rfl), hl4, hk4⟩, hft⟩⟩
      | goto t =>
        obtain ⟨S', hi3, hf3⟩ := hp
        obtain ⟨hr, hl3, hl4, hk4, hft, g1, g2, g3, _⟩ := fin (some (.goto t)) S' W3 hf3
        exact ⟨_, _, hr, .inr ⟨rfl, _, ⟨S', .goto t, hIx _ _ _ _ _ hi3 (Ext.put (by omega) hl3 rfl), hl4, hk4⟩, hft⟩⟩
      | panic ch => exact hp.elim
      | outgrown => exact hp.elim
    · -- BEHIND THE ITERATOR
      rintro e W2 ⟨⟨v, rfl⟩, (⟨T, ⟨S, rfl, hi, _, _, _, hl, hk⟩, _⟩ | ⟨pre, T, hp, ⟨S, c, hi, hl, hk⟩, _⟩)⟩
      · exact ⟨none, _, by have := run_endLoop (P := P) hl (by rw [hrec]; simp); rw [hrec] at this; exact this, hdone _ S _ (Nat.le_refl _) (hI _ _ _ _ hi (Ext.put (by omega) hl rfl)) ((World.putObj_heap_other (by omega)).trans hk)⟩
      · exact ⟨some c, _, by have := run_endLoop (P := P) hl (by rw [hrec]; simp); rw [hrec] at this; exact this, hstop _ c pre S _ (Nat.le_refl _) hp (hIx _ _ _ _ _ hi (Ext.put (by omega) hl rfl)) ((World.putObj_heap_other (by omega)).trans hk)⟩

end Go.Proofs.YtieffhkfefimeaaGreatDoor

/-
  append in the body of a loop over an iterator: where the row then lies.
-/
namespace Go.Proofs.YtieffhkfefimeaaGreatDoor
open Go.RowKit
set_option linter.unusedVariables false
set_option linter.unusedSimpArgs false

/-- All cells of the row are p's. -/
def RowAll (p : Value → Prop) (w : World) (v : Value) : Prop := ∀ g, v.ownBlock = some g → ∀ j c, w.cell? ⟨g, j, none⟩ = some c → p c

theorem cell_mem {w : World} {g j : Nat} {arr : Array Value} {e : TypeId} {fz : Nat × Nat} {c : Value} (h : w.heap[g]? = some (.cells arr e fz)) (hc : w.cell? ⟨g, j, none⟩ = some c) : c ∈ arr := by
  unfold World.cell? at hc
  simp only [h] at hc
  simp at hc
  exact Array.mem_of_getElem? hc

theorem mem_zeroCells {z : Array Value} {n : Nat} {c : Value} (h : c ∈ Builtin.zeroCells z n) : c ∈ z := by
  simp [Builtin.zeroCells] at h
  obtain ⟨i, hi, rfl⟩ := h
  have hz : 0 < z.size := by
    rcases Nat.eq_zero_or_pos z.size with h0 | h0
    · rw [h0] at hi; simp at hi
    · exact h0
  rw [getElem!_pos z (i % z.size) (Nat.mod_lt _ hz)]
  exact Array.getElem_mem _

theorem run_append1 {P : Program} {t e : TypeId} {z : Value} {bytes : Nat} (E : Elem P t e z bytes) (ty : TypeId) {w : World} {base : Nat} {v : Value} {xs : List Value} (hown : Owns base e w v xs)
    (ad : Addr) (c : Nat) (u : Value) (hu : w.cell? ad = some u) (h1 : u.oneCell' = true) (hl : (xs.length + 1) * bytes ≤ 140737488355328) (hm : xs.length + 1 ≤ maxLen) (hbase : base ≤ w.heap.size) :
    ∃ v' w', (Builtin.append_ #[t, t] ty #[v, .slice (some ad) 1 c]).run P w = .ok v' w' ∧ Owns base e w' v' (xs ++ [u]) ∧ w.grownBy w' v.ownBlock ∧
      (∀ g, v'.ownBlock = some g → v.ownBlock = some g ∨ w.heap.size ≤ g) ∧
      ∀ p : Value → Prop, RowAll p w v → p u → (∀ c ∈ z.cells, p c) → RowAll p w' v' := by
  obtain ⟨i, hi, hz, h4, h5⟩ := E.info
  have hnews : ∀ j u', [u][j]? = some u' → w.cell? (ad.add j) = some u' := by
    intro j u' hj
    match j, hj with
    | 0, hj => simp at hj; subst hj; simpa [Addr.add] using hu
  obtain ⟨v', w', hrun, r1, r2, r3⟩ := run_append_own (P := P) w base t ty e i z 1 bytes E.und hi hz h4 h5 E.one (by decide) v xs.length xs hown ad 1 c [u] rfl hnews (by simpa using h1) hm hl hbase
  rcases hown.2 with ⟨rfl, hn0⟩ | ⟨g0, cap, cur, rfl, k1, k2, k3, k4, k5, k6⟩
  · have hxs : xs = [] := List.eq_nil_of_length_eq_zero hn0
    subst hxs
    have hr := run_append_nil (P := P) w t ty e i z E.und hi hz ad 1 c [u] (by simp [h4]) hnews (by omega) (by omega) (by rw [h5]; simp at hl; omega)
    rw [hr] at hrun
    injection hrun with e1 e2
    refine ⟨v', w', by rw [hr, e1, e2], by unfold Owns; simpa using r1, r2, ?_, ?_⟩
    · intro g hg
      subst e1
      simp [Value.ownBlock] at hg
      exact .inr (by omega)
    · intro p _ hp hpz g hg j c' hc'
      subst e1
      subst e2
      simp [Value.ownBlock] at hg
      subst hg
      have hm' := cell_mem (heap_alloc_new w.drew _) hc'
      simp only [List.mem_toArray, Array.mem_append, List.mem_singleton, List.mem_cons, List.not_mem_nil, or_false] at hm'
      rcases hm' with rfl | hm'
      · exact hp
      · exact hpz _ (mem_zeroCells hm')
  · have hxl : cur.toList.take xs.length = xs := by rw [← Nat.mul_one xs.length]; exact k6
    by_cases hroom : xs.length + 1 ≤ cap
    · have hr := run_append_room (P := P) w t ty e i E.und hi g0 xs.length cap cur k2 ad 1 c [u] (by simp [h4]) hnews (by simpa using h1) hroom (by simp [h4]; omega)
      rw [hr] at hrun
      injection hrun with e1 e2
      refine ⟨v', w', by rw [hr, e1, e2], by unfold Owns; simpa using r1, r2, ?_, ?_⟩
      · intro g hg
        subst e1
        exact .inl hg
      · intro p ha hp hpz g hg j c' hc'
        subst e1
        subst e2
        simp [Value.ownBlock] at hg
        subst hg
        have hm' := cell_mem (setRow_heap w g0 cur _ e _ k2) hc'
        have old : ∀ c'' ∈ cur.toList, p c'' := by
          intro c'' hc''
          obtain ⟨j', hj', rfl⟩ := List.mem_iff_getElem.1 hc''
          refine ha g0 rfl j' _ ?_
          unfold World.cell?
          simp [k2]
        simp only [List.mem_toArray, List.mem_append, List.mem_singleton] at hm'
        rcases hm' with (hm' | rfl) | hm'
        · exact old _ (List.mem_of_mem_take hm')
        · exact hp
        · exact old _ (List.mem_of_mem_drop hm')
    · have hr := run_append_grow (P := P) w t ty e i z E.und hi hz ⟨g0, 0, none⟩ xs.length cap xs (by simp [h4]) (World.ownsRow.cells hown (g := g0) rfl) ad 1 c [u] (by simp [h4]) hnews (by omega) (by simp only [maxLen] at hm; omega) (growslice_fits (by omega) (by rw [h5]; exact hl))
      rw [hr] at hrun
      injection hrun with e1 e2
      refine ⟨v', w', by rw [hr, e1, e2], by unfold Owns; simpa using r1, r2, ?_, ?_⟩
      · intro g hg
        subst e1
        simp [Value.ownBlock] at hg
        exact .inr (by omega)
      · intro p ha hp hpz g hg j c' hc'
        subst e1
        subst e2
        simp [Value.ownBlock] at hg
        subst hg
        have hm' := cell_mem (heap_alloc_new w.drew _) hc'
        have old : ∀ c'' ∈ cur.toList, p c'' := by
          intro c'' hc''
          obtain ⟨j', hj', rfl⟩ := List.mem_iff_getElem.1 hc''
          refine ha g0 rfl j' _ ?_
          unfold World.cell?
          simp [k2]
        simp only [List.mem_toArray, Array.mem_append, List.mem_singleton, List.mem_cons, List.not_mem_nil, or_false] at hm'
        rcases hm' with (hm' | rfl) | hm'
        · exact old _ (by rw [← hxl] at hm'; exact List.mem_of_mem_take hm')
        · exact hp
        · exact hpz _ (mem_zeroCells hm')

/-- out = append(out, x) in a round. -/
theorem append1In {F : Fence} {n : Nat} {P : Program} {t e : TypeId} {z : Value} {bytes : Nat} (E : Elem P t e z bytes) {w : World} {ops : Array Oper} {rest : List Oper} {o : Oper} {a : Act} {Q : Exit → Act → World → Prop} {s x : Operand} {u : Value} {base : Nat} {v : Value} {xs : List Value}
    (hown : Owns base e w v xs) (hgd : o.guard = none) (ho : o.op = .call { callee := .builtin .append, args := #[s, x], argTypes := #[t, t] }) (hs : a.eval s = v)
    (hx : a.eval x = .slice (some ⟨w.heap.size, 0, none⟩) 1 1) (h1 : u.oneCell' = true) (hl : (xs.length + 1) * bytes ≤ 140737488355328) (hm : xs.length + 1 ≤ maxLen) (hbase : base ≤ w.heap.size)
    (h : ∀ v' w', Owns base e w' v' (xs ++ [u]) → Below base w w' → w.grownBy w' v.ownBlock → (∀ g, v'.ownBlock = some g → v.ownBlock = some g ∨ w.heap.size ≤ g) → (∀ p : Value → Prop, RowAll p w v → p u → (∀ c ∈ z.cells, p c) → RowAll p w' v') → wpListIn F n P ops Q rest (a.put o.dst v') w') :
    wpListIn F n P ops Q (o :: rest) a (w.alloc (.cells #[u] e)) := by
  have hc : (w.alloc (.cells #[u] e)).cell? ⟨w.heap.size, 0, none⟩ = some u := by
    go_simp
  obtain ⟨v', w', hrun, r1, r2, r3, r4⟩ := run_append1 E o.type (w := w.alloc (.cells #[u] e)) (World.ownsRow.alloc hown _) ⟨w.heap.size, 0, none⟩ 1 u hc h1 hl hm (by simp; omega)
  refine wpListIn_plain hgd fun K hK' => ?_
  unfold Oper.wpIn
  refine ⟨?_, ?_⟩
  · simp [Oper.about, ho, resolve, Target.leads, Sem.run_pure]
  · rw [Oper.semAt_plain F _ _ (by rw [ho]; intro c hc'; cases hc')]
    simp [execOp, ho, resolve, invoke, builtin, hs, hx, hrun, Result.andThen]
    have hg : w.grownBy w' v.ownBlock := ⟨r2.os, r2.tape, r2.output, Nat.le_trans (by simp) r2.size, fun k hk hne => (r2.block k (by simp; omega) hne).trans (Below.heap_alloc _ _ _ hk)⟩
    refine hK' _ _ (h v' w' r1 ⟨hg.os, hg.tape, hg.output, hg.size, fun k hk => hg.block k (by omega) (fun e' => ?_)⟩ hg ?_ ?_)
    · have := World.ownsRow.lt hown k e'.symm
      omega
    · intro g hg'
      rcases r3 g hg' with h2 | h2
      · exact .inl h2
      · exact .inr (by simp at h2; omega)
    · intro p ha hp hpz
      refine r4 p (fun g hg' j c' hc' => ha g hg' j c' ?_) hp hpz
      have hlt := (World.ownsRow.lt hown g hg').2
      rw [← hc']
      exact (World.cell?_of_block (a := ⟨g, j, none⟩) (Below.heap_alloc _ _ _ hlt)).symm
end Go.Proofs.YtieffhkfefimeaaGreatDoor
