/-
  Pi17: RangeP RangeW PrdB (what is needed of them).
-/
import Derived.Test.YtlmjkbdodecbmaaGreatDoorPi01
import Derived.Test.YtlmjkbdodecbmaaGreatDoorPi05
import Derived.Test.YtlmjkbdodecbmaaGreatDoorPi06
import Derived.Test.YtlmjkbdodecbmaaGreatDoorPi15
import Derived.OwnWalkIn
import Derived.Sort.LoopGhostIn

namespace Go.Proofs.YtlmjkbdodecbmaaGreatDoor
open Go.RowKit
set_option linter.unusedVariables false
set_option linter.unusedSimpArgs false
/-- THE CONTRACT OF AN ITERATOR VALUE, called in a world that goes on from w: it tells the elements of xs one by one (Enc: how a value reads as an element), till a round says no more. B: the body's own blocks lie from there on. -/
def IterA {α : Type} (P : Program) (gf : Nat) (lb : Array Value) (Enc : World → Array Value → α → Prop) (xs : List α) (B : Nat) (Kp : World → World → Prop) (w : World) : Prop :=
  ∀ (l : Nat) (J Jx : List α → (Nat → Prop) → World → Prop) (S0 : Nat → Prop) (W1 : World), Below w.heap.size w W1 → (∀ k, S0 k → B ≤ k ∧ k < W1.heap.size) →
    (∀ pre S W W', J pre S W → Below W.heap.size W W' → J pre S W') → (∀ pre S W W', Jx pre S W → Below W.heap.size W W' → Jx pre S W') →
    (∀ pre x v S W, J pre S W → Enc W v x → pre ++ [x] <+: xs → YieldAt Fence.wide 0 P l v W fun e W' =>
      (e = .returned (.bool true) ∧ ∃ S', J (pre ++ [x]) S' W' ∧ Foot S S' W W' ∧ Top S' W' ∧ Kp W W') ∨ (e = .returned (.bool false) ∧ ∃ S', Jx (pre ++ [x]) S' W' ∧ Foot S S' W W')) →
    J [] S0 W1 →
    CallsIn Fence.wide 0 P gf (IterArgs l lb) W1 fun e W' => (∃ v, e = .returned v) ∧ ((∃ S', J xs S' W' ∧ Foot S0 S' W1 W') ∨ (∃ pre S', pre <+: xs ∧ Jx pre S' W' ∧ Foot S0 S' W1 W'))
theorem wp_rangeA {α : Type} {P : Program} {g : Operand} {ps : Array Tmp} {assign body : Code} {Q : Exit → Act → World → Prop} {a : Act} {w : World}
    {gf : Nat} {lb : Array Value} (hg : a.eval g = .func (.func gf) #[] lb) (eg : ∀ args w, (callFunc gf args).run P w = .ok (.enter gf args) w)
    {Enc : World → Array Value → α → Prop} {xs : List α} {B : Nat} {Kp : World → World → Prop} (hit : IterA P gf lb Enc xs B Kp w) (hKt : ∀ A C D, Kp A C → Kp C D → Kp A D) (hKe : ∀ A C, Ext w.heap.size A C → Kp A C) (hps : ∀ W v x, Enc W v x → v.size = ps.size) (hB : B ≤ w.heap.size)
    (I : List α → (Nat → Prop) → World → Prop) (Ix : Code → List α → (Nat → Prop) → World → Prop) (hI : Stab w.heap.size I) (hIx : ∀ c, Stab w.heap.size (Ix c))
    (S0 : Nat → Prop) (hS0 : ∀ k, S0 k → B ≤ k ∧ k < w.heap.size) (h0 : I [] S0 w) (Ax : α → Act → World → Prop) (hAx : ∀ x a' W W', Ax x a' W → Ext w.heap.size W W' → Ax x a' W')
    (hassign : ∀ (l : Nat) (pre : List α) (x : α) (v : Array Value) (S : Nat → Prop) (W : World) (K : Act → World → Prop), I pre S W → Enc W v x → pre ++ [x] <+: xs →
      (∀ a' W', Below W.heap.size W W' → I pre S W' → Ax x a' W' → K a' W') →
      assign.wpIn (Fence.wide.inRound l) 0 P (Exit.then K (fun _ _ _ => False)) { tmps := (ps.zip v).foldl (fun t (p, v) => t.setIfInBounds p v) a.tmps, defers := [] } W)
    (hbody : ∀ (l : Nat) (pre : List α) (x : α) (a' : Act) (S : Nat → Prop) (W : World), I pre S W → Ax x a' W → pre ++ [x] <+: xs → (∀ k, S k → B ≤ k ∧ k < W.heap.size) → body.wpIn (Fence.wide.inRound l) 0 P (postS Kp I Ix (pre ++ [x]) S W) a' W)
    (hdone : ∀ (D : Nat) (S : Nat → Prop) (W : World), w.heap.size ≤ D → I xs S W → W.heap[D]? = some (.deferred (some [])) → Q .normal { a with defers := { target := .collected D, args := #[] } :: a.defers } W)
    (hstop : ∀ (D : Nat) (c : Code) (pre : List α) (S : Nat → Prop) (W : World), w.heap.size ≤ D → pre <+: xs → Ix c pre S W → W.heap[D]? = some (.deferred (some [])) → c.wpIn Fence.wide 0 P Q { a with defers := { target := .collected D, args := #[] } :: a.defers } W) :
    (Code.rangeFunc g ps assign body).wpIn Fence.wide 0 P Q a w := by
  refine wpIn_rangeFunc ?_
  intro fn hfn
  obtain ⟨rec, hrec⟩ : ∃ rec : LoopState → Option Code → Loop, rec = fun st pe => { state := st, pending := pe, fn, tmps := a.tmps, params := ps, assign, body, defers := w.heap.size } := ⟨_, rfl⟩
  obtain ⟨W1, hW1⟩ : ∃ W1, (w.alloc (.deferred (some []))).alloc (.loop (rec .ready none)) = W1 := ⟨_, rfl⟩
  have hL1 : W1.heap[w.heap.size + 1]? = some (.loop (rec .ready none)) := by
    rw [← hW1]; have := World.alloc_heap_new (w.alloc (.deferred (some []))) (.loop (rec .ready none)); rwa [World.size_alloc] at this
  have hK1 : W1.heap[w.heap.size]? = some (.deferred (some [])) := by
    rw [← hW1]; exact (Below.heap_alloc _ _ _ (by simp)).trans (World.alloc_heap_new w _)
  have hb1 : Below w.heap.size w W1 := by
    rw [← hW1]; exact ((Below.refl _ w).alloc (Nat.le_refl _) _).alloc (by simp) _
  have hI1 : I [] S0 W1 := hI _ _ _ _ h0 (Ext.of_below hb1)
  refine ⟨w.heap.size + 1, [{ target := .collected w.heap.size, args := #[] }], W1, { target := .fn (.func gf) lb, args := #[.func (.yield (w.heap.size + 1)) #[] #[]] }, W1, gf,
    #[.func (.yield (w.heap.size + 1)) #[] #[]] ++ lb, W1, ?_, ?_, ?_, ?_, fun h => by simp [Fence.wide] at h, ?_⟩
  · rw [← hW1, hrec]; exact run_enterLoop_outer _ _ _ _ _
  · simp only [resolve, hg]
    simp [go_sem]
  · intro f' hf'; trivial
  · simp [invoke, go_sem, eg]
  · refine (hit (w.heap.size + 1)
      (fun pre T W => ∃ S, (T = fun k => S k ∨ k = w.heap.size + 1) ∧ I pre S W ∧ (∀ k, S k → B ≤ k ∧ k < W.heap.size) ∧ ¬ S w.heap.size ∧ ¬ S (w.heap.size + 1) ∧ W.heap[w.heap.size + 1]? = some (.loop (rec .ready none)) ∧ W.heap[w.heap.size]? = some (.deferred (some [])))
      (fun pre T W => ∃ S c, Ix c pre S W ∧ W.heap[w.heap.size + 1]? = some (.loop (rec .done (some c))) ∧ W.heap[w.heap.size]? = some (.deferred (some [])))
      (fun k => S0 k ∨ k = w.heap.size + 1) W1 hb1 (fun k hk => by
        have hlt1 := (Array.getElem?_eq_some_iff.1 hL1).1
        rcases hk with h | h
        · have := hS0 k h; omega
        · omega) ?_ ?_ ?_ ⟨S0, rfl, hI1, fun k h => ⟨(hS0 k h).1, by have := (hS0 k h).2; have := hb1.size; omega⟩, fun h => by have := (hS0 _ h).2; omega, fun h => by have := (hS0 _ h).2; omega, hL1, hK1⟩).mono ?_
    · rintro pre T W W' ⟨S, rfl, hi, h1, h2, h3, hl, hk⟩ hb
      exact ⟨S, rfl, hI _ _ _ _ hi (Ext.of_below hb), fun k hk => ⟨(h1 k hk).1, Nat.lt_of_lt_of_le (h1 k hk).2 hb.size⟩, h2, h3, (hb.block _ (Array.getElem?_eq_some_iff.1 hl).1).trans hl, (hb.block _ (Array.getElem?_eq_some_iff.1 hk).1).trans hk⟩
    · rintro pre T W W' ⟨S, c, hi, hl, hk⟩ hb
      exact ⟨S, c, hIx c _ _ _ _ hi (Ext.of_below hb), (hb.block _ (Array.getElem?_eq_some_iff.1 hl).1).trans hl, (hb.block _ (Array.getElem?_eq_some_iff.1 hk).1).trans hk⟩
    · -- ONE ROUND
      rintro pre x v T W ⟨S, rfl, hi, hSB, hSD, hSl, hl, hk⟩ henc hpre
      have hlt : w.heap.size + 1 < W.heap.size := (Array.getElem?_eq_some_iff.1 hl).1
      have hy := run_yield (P := P) (args := v) hl (by rw [hrec]; exact hps _ _ _ henc)
      rw [hrec] at hy
      refine ⟨fn, _, assign, body, hy, roundIn_of_wpIn hfn (hassign _ pre x v S W _ hi henc hpre ?_)⟩
      clear hy
      intro a' Wa hba hia hax
      have hla := (hba.block _ hlt).trans hl
      have hka := (hba.block w.heap.size (by omega)).trans hk
      have hlta : w.heap.size + 1 < Wa.heap.size := Nat.lt_of_lt_of_le hlt hba.size
      refine ⟨_, run_beginRound hla (by rw [hrec]), ?_⟩
      have hl2 : (Wa.putObj (w.heap.size + 1) (.loop { rec .ready none with state := .busy })).heap[w.heap.size + 1]? = some (.loop { rec .ready none with state := .busy }) := World.putObj_heap_same hlta
      have hk2 : (Wa.putObj (w.heap.size + 1) (.loop { rec .ready none with state := .busy })).heap[w.heap.size]? = some (.deferred (some [])) := (World.putObj_heap_other (by omega)).trans hka
      have hex : Ext w.heap.size Wa (Wa.putObj (w.heap.size + 1) (.loop { rec .ready none with state := .busy })) := Ext.put (by omega) hla rfl
      have hf2 : Foot (fun k => S k ∨ k = w.heap.size + 1) (fun k => S k ∨ k = w.heap.size + 1) W (Wa.putObj (w.heap.size + 1) (.loop { rec .ready none with state := .busy })) :=
        (Foot.of_below hba).trans (Foot.put _ (.inr rfl))
      refine wpIn_mono (hbody _ pre x a' S _ (hI _ _ _ _ hia hex) (hAx _ _ _ _ hax hex) hpre (fun k hk => ⟨(hSB k hk).1, by have := (hSB k hk).2; have := hba.size; simp; omega⟩)) ?_
      have hkp2 : Kp W (Wa.putObj (w.heap.size + 1) (.loop { rec .ready none with state := .busy })) := hKe _ _ ((Ext.of_below hba).trans hex)
      generalize Wa.putObj (w.heap.size + 1) (.loop { rec .ready none with state := .busy }) = W2 at hl2 hk2 hf2 hkp2 ⊢
      have hlt2 : w.heap.size + 1 < W2.heap.size := (Array.getElem?_eq_some_iff.1 hl2).1
      have fin : ∀ (jump : Option Code) (S' : Nat → Prop) (W3 : World), Foot S S' W2 W3 →
          (Instr.endRound (w.heap.size + 1) jump).run P W3 = .ok (.bool jump.isNone) (W3.putObj (w.heap.size + 1) (.loop (rec (if jump.isNone then .ready else .done) jump))) ∧
          W3.heap[w.heap.size + 1]? = some (.loop { rec .ready none with state := .busy }) ∧
          (W3.putObj (w.heap.size + 1) (.loop (rec (if jump.isNone then .ready else .done) jump))).heap[w.heap.size + 1]? = some (.loop (rec (if jump.isNone then .ready else .done) jump)) ∧
          (W3.putObj (w.heap.size + 1) (.loop (rec (if jump.isNone then .ready else .done) jump))).heap[w.heap.size]? = some (.deferred (some [])) ∧
          Foot (fun k => S k ∨ k = w.heap.size + 1) (fun k => S' k ∨ k = w.heap.size + 1) W (W3.putObj (w.heap.size + 1) (.loop (rec (if jump.isNone then .ready else .done) jump))) ∧
          ¬ S' w.heap.size ∧ ¬ S' (w.heap.size + 1) ∧ (∀ k, S' k → B ≤ k) ∧ Kp W3 (W3.putObj (w.heap.size + 1) (.loop (rec (if jump.isNone then .ready else .done) jump))) := fun jump S' W3 hf => by
        have hl3 := (hf.same _ hlt2 hSl).trans hl2
        have hk3 := (hf.same w.heap.size (by omega) hSD).trans hk2
        have := run_endRound (P := P) jump hl3
        rw [hrec] at this ⊢
        refine ⟨this, by rw [hrec] at hl3; exact hl3, World.putObj_heap_same (Array.getElem?_eq_some_iff.1 hl3).1, (World.putObj_heap_other (by omega)).trans hk3, ?_, ?_, ?_, ?_, hKe _ _ (Ext.put (by omega) hl3 (by rw [hrec]; rfl))⟩
        · exact (hf2.trans (hf.wide (T := fun k => k = w.heap.size + 1))).trans (Foot.put _ (.inr rfl))
        · intro h; rcases hf.fresh _ h with h1 | h1
          · exact hSD h1
          · omega
        · intro h; rcases hf.fresh _ h with h1 | h1
          · exact hSl h1
          · omega
        · intro k h; rcases hf.fresh _ h with h1 | h1
          · exact (hSB k h1).1
          · have := hf2.size; omega
      rintro e a3 W3 hp
      cases e with
      | normal =>
        obtain ⟨S', hi3, hf3, ht3, hkp3⟩ := hp
        obtain ⟨hr, hl3, hl4, hk4, hft, g1, g2, g3, hkp4⟩ := fin none S' W3 hf3
        exact ⟨_, _, hr, .inl ⟨rfl, _, ⟨S', rfl, hI _ _ _ _ hi3 (Ext.put (by omega) hl3 rfl), fun k hk => ⟨g3 k hk, by simpa using ht3 k hk⟩, g1, g2, hl4, hk4⟩, hft, fun k hk => by
          rcases hk with h | h
          · simpa using ht3 k h
          · rw [h]; exact (Array.getElem?_eq_some_iff.1 hl4).1, hKt _ _ _ (hKt _ _ _ hkp2 hkp3) hkp4⟩⟩
      | ret =>
        obtain ⟨S', hi3, hf3⟩ := hp
        obtain ⟨hr, hl3, hl4, hk4, hft, g1, g2, g3, _⟩ := fin (some .ret) S' W3 hf3
        exact ⟨_, _, hr, .inr ⟨rfl, _, ⟨S', .ret, hIx _ _ _ _ _ hi3 (Ext.put (by omega) hl3 rfl), hl4, hk4⟩, hft⟩⟩
      | exit id =>
        obtain ⟨S', hi3, hf3⟩ := hp
        obtain ⟨hr, hl3, hl4, hk4, hft, g1, g2, g3, _⟩ := fin (some (.exit id)) S' W3 hf3
        exact ⟨_, _, hr, .inr ⟨rfl, _, ⟨S', .exit id, hIx _ _ _ _ _ hi3 (Ext.put (by omega) hl3 rfl), hl4, hk4⟩, hft⟩⟩
      | goto t =>
        obtain ⟨S', hi3, hf3⟩ := hp
        obtain ⟨hr, hl3, hl4, hk4, hft, g1, g2, g3, _⟩ := fin (some (.goto t)) S' W3 hf3
        exact ⟨_, _, hr, .inr ⟨rfl, _, ⟨S', .goto t, hIx _ _ _ _ _ hi3 (Ext.put (by omega) hl3 rfl), hl4, hk4⟩, hft⟩⟩
      | panic ch => exact hp.elim
      | outgrown => exact hp.elim
    · -- BEHIND THE ITERATOR
      rintro e W2 ⟨⟨v, rfl⟩, (⟨T, ⟨S, rfl, hi, _, _, _, hl, hk⟩, _⟩ | ⟨pre, T, hp, ⟨S, c, hi, hl, hk⟩, _⟩)⟩
      · exact ⟨none, _, by have := run_endLoop (P := P) hl (by rw [hrec]; simp); rw [hrec] at this; exact this, hdone _ S _ (Nat.le_refl _) (hI _ _ _ _ hi (Ext.put (by omega) hl rfl)) ((World.putObj_heap_other (by omega)).trans hk)⟩
      · exact ⟨some c, _, by have := run_endLoop (P := P) hl (by rw [hrec]; simp); rw [hrec] at this; exact this, hstop _ c pre S _ (Nat.le_refl _) hp (hIx _ _ _ _ _ hi (Ext.put (by omega) hl rfl)) ((World.putObj_heap_other (by omega)).trans hk)⟩
theorem IterA.mono {α : Type} {P : Program} {gf : Nat} {lb : Array Value} {Enc : World → Array Value → α → Prop} {xs : List α} {B : Nat} {Kp : World → World → Prop} {w w' : World} (h : IterA P gf lb Enc xs B Kp w) (hb : Below w.heap.size w w') :
    IterA P gf lb Enc xs B Kp w' := fun l J Jx S0 W1 hW1 => h l J Jx S0 W1 (hb.trans (hW1.mono hb.size))
theorem Ext.blockP {B : Nat} {A C : World} (h : Ext B A C) {p : Addr} {v : Value} (hp : A.cell? p = some v) : C.heap[p.block]? = A.heap[p.block]? := by
  unfold World.cell? at hp
  split at hp
  · rename_i hb
    rw [hb]; exact h.cells _ _ hb rfl
  · cases hp
theorem Ext.cellP {B : Nat} {A C : World} (h : Ext B A C) {p : Addr} {v : Value} (hp : A.cell? p = some v) : C.cell? p = some v :=
  (World.cell?_of_block (h.blockP hp)).trans hp
/-- A cell stays as it is. -/
def KeepC (bx : Nat) (A C : World) : Prop := ∀ v, A.cell? ⟨bx, 0, none⟩ = some v → C.cell? ⟨bx, 0, none⟩ = some v
theorem KeepC.trans {bx : Nat} {A C D : World} (h : KeepC bx A C) (h' : KeepC bx C D) : KeepC bx A D := fun v hv => h' v (h v hv)
theorem KeepC.ext {bx B : Nat} {A C : World} (h : Ext B A C) : KeepC bx A C := fun v hv => h.cellP hv
end Go.Proofs.YtlmjkbdodecbmaaGreatDoor

namespace Go.Proofs.YtlmjkbdodecbmaaGreatDoor
open Go.RowKit
set_option linter.unusedVariables false
set_option linter.unusedSimpArgs false
/-- All that lay below D, and all blocks of S, are as they were. -/
structure Oth (D : Nat) (S : Nat → Prop) (W W' : World) : Prop where
  os : W'.os = W.os
  tape : W'.tape = W.tape
  output : W'.output = W.output
  size : W.heap.size ≤ W'.heap.size
  same : ∀ k, k < W.heap.size → (k < D ∨ S k) → W'.heap[k]? = W.heap[k]?
theorem Oth.refl (D : Nat) (S : Nat → Prop) (W : World) : Oth D S W W := ⟨rfl, rfl, rfl, Nat.le_refl _, fun _ _ _ => rfl⟩
theorem Oth.of_below {D : Nat} {S : Nat → Prop} {W W' : World} (h : Below W.heap.size W W') : Oth D S W W' := ⟨h.os, h.tape, h.output, h.size, fun k hk _ => h.block k hk⟩
theorem Oth.trans {D : Nat} {S : Nat → Prop} {A B C : World} (h : Oth D S A B) (h' : Oth D S B C) : Oth D S A C :=
  ⟨h'.os.trans h.os, h'.tape.trans h.tape, h'.output.trans h.output, Nat.le_trans h.size h'.size, fun k hk hs => (h'.same k (Nat.lt_of_lt_of_le hk h.size) hs).trans (h.same k hk hs)⟩
theorem Oth.mono {D D' : Nat} {S S' : Nat → Prop} {W W' : World} (h : Oth D S W W') (hD : D' ≤ D) (hS : ∀ k, S' k → S k) : Oth D' S' W W' :=
  ⟨h.os, h.tape, h.output, h.size, fun k hk hs => h.same k hk (hs.imp (fun h => Nat.lt_of_lt_of_le h hD) (hS k))⟩
theorem Oth.put {D l : Nat} {S : Nat → Prop} {W : World} (o : Obj) (hl : D ≤ l) (hs : ¬ S l) : Oth D S W (W.putObj l o) :=
  ⟨rfl, rfl, rfl, by simp, fun k hk h => World.putObj_heap_other (fun e => by subst e; rcases h with h | h; omega; exact hs h)⟩
theorem Oth.set {D b i : Nat} {S : Nat → Prop} {W W' : World} (u : Value) (h : Oth D S W W') (hb : D ≤ b) (hs : ¬ S b) : Oth D S W (W'.setCell ⟨b, i, none⟩ u) := by
  have hk := (Keep.refl (fun k => k = b) W').set b i u (.inl rfl)
  refine h.trans ⟨hk.os, hk.tape, hk.output, hk.size, fun k hk9 h9 => hk.same k hk9 (fun e => ?_)⟩
  have e2 : k = b := e
  subst e2
  rcases h9 with h9 | h9
  · omega
  · exact hs h9
theorem Oth.grown {D : Nat} {S : Nat → Prop} {W W' : World} {g : Option Nat} (h : W.grownBy W' g) (hg : ∀ k, g = some k → D ≤ k ∧ ¬ S k) : Oth D S W W' :=
  ⟨h.os, h.tape, h.output, h.size, fun k hk h9 => h.block k hk (fun e => by
    have := hg k e.symm
    rcases h9 with h9 | h9
    · omega
    · exact this.2 h9)⟩
/-- What a round's body owes. -/
def postW {α : Type} (I : List α → (Nat → Prop) → World → Prop) (Ix : Code → List α → (Nat → Prop) → World → Prop) (pre : List α) (S : Nat → Prop) (W : World) : Exit → Act → World → Prop
  | .normal, _, W' => ∃ S', I pre S' W' ∧ Foot S S' W W' ∧ Top S' W'
  | .ret, _, W' => ∃ S', Ix .ret pre S' W' ∧ Foot S S' W W'
  | .exit id, _, W' => ∃ S', Ix (.exit id) pre S' W' ∧ Foot S S' W W'
  | .goto t, _, W' => ∃ S', Ix (.goto t) pre S' W' ∧ Foot S S' W W'
  | _, _, _ => False
/-- THE CONTRACT OF AN ITERATOR VALUE, called in a world that goes on from w: it tells the elements of xs one by one (Enc: how a value reads as an element), till a round says no more. R: blocks that are not the body's own. -/
def IterW {α : Type} (P : Program) (gf : Nat) (lb : Array Value) (Enc : World → Array Value → α → Prop) (xs : List α) (R : Nat → Prop) (w : World) : Prop :=
  ∀ (l : Nat) (J Jx : List α → (Nat → Prop) → World → Prop) (S0 : Nat → Prop) (W1 : World), Below w.heap.size w W1 → (∀ k, S0 k → ¬ R k ∧ k < W1.heap.size) →
    (∀ pre S W W', J pre S W → Oth W1.heap.size S W W' → J pre S W') → (∀ pre S W W', Jx pre S W → Oth W1.heap.size S W W' → Jx pre S W') →
    (∀ pre x v S W, J pre S W → Enc W v x → pre ++ [x] <+: xs → YieldAt Fence.wide 0 P l v W fun e W' =>
      (e = .returned (.bool true) ∧ ∃ S', J (pre ++ [x]) S' W' ∧ Foot S S' W W' ∧ Top S' W') ∨ (e = .returned (.bool false) ∧ ∃ S', Jx (pre ++ [x]) S' W' ∧ Foot S S' W W')) →
    J [] S0 W1 →
    CallsIn Fence.wide 0 P gf (IterArgs l lb) W1 fun e W' => (∃ v, e = .returned v) ∧ ((∃ S', J xs S' W' ∧ Foot S0 S' W1 W') ∨ (∃ pre S', pre <+: xs ∧ Jx pre S' W' ∧ Foot S0 S' W1 W'))
theorem wp_rangeW {α : Type} {P : Program} {g : Operand} {ps : Array Tmp} {assign body : Code} {Q : Exit → Act → World → Prop} {a : Act} {w : World}
    {gf : Nat} {lb : Array Value} (hg : a.eval g = .func (.func gf) #[] lb) (eg : ∀ args w, (callFunc gf args).run P w = .ok (.enter gf args) w)
    {Enc : World → Array Value → α → Prop} {xs : List α} {R : Nat → Prop} (hit : IterW P gf lb Enc xs R w) (hps : ∀ W v x, Enc W v x → v.size = ps.size) (hR : ∀ k, R k → k < w.heap.size)
    (I : List α → (Nat → Prop) → World → Prop) (Ix : Code → List α → (Nat → Prop) → World → Prop) (hI : ∀ pre S W W', I pre S W → Oth w.heap.size S W W' → I pre S W') (hIx : ∀ c pre S W W', Ix c pre S W → Oth w.heap.size S W W' → Ix c pre S W')
    (S0 : Nat → Prop) (hS0 : ∀ k, S0 k → ¬ R k ∧ k < w.heap.size) (h0 : I [] S0 w) (Ax : α → Act → World → Prop) (hAx : ∀ x a' W W', Ax x a' W → Ext w.heap.size W W' → Ax x a' W')
    (hassign : ∀ (l : Nat) (pre : List α) (x : α) (v : Array Value) (S : Nat → Prop) (W : World) (K : Act → World → Prop), I pre S W → Enc W v x → pre ++ [x] <+: xs →
      (∀ a' W', Below W.heap.size W W' → I pre S W' → Ax x a' W' → K a' W') →
      assign.wpIn (Fence.wide.inRound l) 0 P (Exit.then K (fun _ _ _ => False)) { tmps := (ps.zip v).foldl (fun t (p, v) => t.setIfInBounds p v) a.tmps, defers := [] } W)
    (hbody : ∀ (l : Nat) (pre : List α) (x : α) (a' : Act) (S : Nat → Prop) (W : World), I pre S W → Ax x a' W → pre ++ [x] <+: xs → (∀ k, S k → ¬ R k ∧ k < W.heap.size) → body.wpIn (Fence.wide.inRound l) 0 P (postW I Ix (pre ++ [x]) S W) a' W)
    (hdone : ∀ (D : Nat) (S : Nat → Prop) (W : World), w.heap.size ≤ D → I xs S W → W.heap[D]? = some (.deferred (some [])) → Q .normal { a with defers := { target := .collected D, args := #[] } :: a.defers } W)
    (hstop : ∀ (D : Nat) (c : Code) (pre : List α) (S : Nat → Prop) (W : World), w.heap.size ≤ D → pre <+: xs → Ix c pre S W → W.heap[D]? = some (.deferred (some [])) → c.wpIn Fence.wide 0 P Q { a with defers := { target := .collected D, args := #[] } :: a.defers } W) :
    (Code.rangeFunc g ps assign body).wpIn Fence.wide 0 P Q a w := by
  refine wpIn_rangeFunc ?_
  intro fn hfn
  obtain ⟨rec, hrec⟩ : ∃ rec : LoopState → Option Code → Loop, rec = fun st pe => { state := st, pending := pe, fn, tmps := a.tmps, params := ps, assign, body, defers := w.heap.size } := ⟨_, rfl⟩
  obtain ⟨W1, hW1⟩ : ∃ W1, (w.alloc (.deferred (some []))).alloc (.loop (rec .ready none)) = W1 := ⟨_, rfl⟩
  have hL1 : W1.heap[w.heap.size + 1]? = some (.loop (rec .ready none)) := by
    rw [← hW1]; have := World.alloc_heap_new (w.alloc (.deferred (some []))) (.loop (rec .ready none)); rwa [World.size_alloc] at this
  have hK1 : W1.heap[w.heap.size]? = some (.deferred (some [])) := by
    rw [← hW1]; exact (Below.heap_alloc _ _ _ (by simp)).trans (World.alloc_heap_new w _)
  have hb1 : Below w.heap.size w W1 := by
    rw [← hW1]; exact ((Below.refl _ w).alloc (Nat.le_refl _) _).alloc (by simp) _
  have hI1 : I [] S0 W1 := hI _ _ _ _ h0 (Oth.of_below hb1)
  refine ⟨w.heap.size + 1, [{ target := .collected w.heap.size, args := #[] }], W1, { target := .fn (.func gf) lb, args := #[.func (.yield (w.heap.size + 1)) #[] #[]] }, W1, gf,
    #[.func (.yield (w.heap.size + 1)) #[] #[]] ++ lb, W1, ?_, ?_, ?_, ?_, fun h => by simp [Fence.wide] at h, ?_⟩
  · rw [← hW1, hrec]; exact run_enterLoop_outer _ _ _ _ _
  · simp only [resolve, hg]
    simp [go_sem]
  · intro f' hf'; trivial
  · simp [invoke, go_sem, eg]
  · refine (hit (w.heap.size + 1)
      (fun pre T W => ∃ S, (T = fun k => S k ∨ k = w.heap.size + 1) ∧ I pre S W ∧ (∀ k, S k → ¬ R k ∧ k < W.heap.size) ∧ ¬ S w.heap.size ∧ ¬ S (w.heap.size + 1) ∧ W.heap[w.heap.size + 1]? = some (.loop (rec .ready none)) ∧ W.heap[w.heap.size]? = some (.deferred (some [])))
      (fun pre T W => ∃ S c, (T = fun k => S k ∨ k = w.heap.size + 1) ∧ ¬ S (w.heap.size + 1) ∧ Ix c pre S W ∧ W.heap[w.heap.size + 1]? = some (.loop (rec .done (some c))) ∧ W.heap[w.heap.size]? = some (.deferred (some [])))
      (fun k => S0 k ∨ k = w.heap.size + 1) W1 hb1 (fun k hk => by
        have hlt1 := (Array.getElem?_eq_some_iff.1 hL1).1
        rcases hk with h | h
        · exact ⟨(hS0 k h).1, by have := (hS0 k h).2; omega⟩
        · exact ⟨fun hr => by have := hR k hr; omega, by omega⟩) ?_ ?_ ?_ ⟨S0, rfl, hI1, fun k h => ⟨(hS0 k h).1, by have := (hS0 k h).2; have := hb1.size; omega⟩, fun h => by have := (hS0 _ h).2; omega, fun h => by have := (hS0 _ h).2; omega, hL1, hK1⟩).mono ?_
    · rintro pre T W W' ⟨S, rfl, hi, h1, h2, h3, hl, hk⟩ hb
      exact ⟨S, rfl, hI _ _ _ _ hi (hb.mono hb1.size (fun k h => .inl h)), fun k hk => ⟨(h1 k hk).1, Nat.lt_of_lt_of_le (h1 k hk).2 hb.size⟩, h2, h3, (hb.same _ (Array.getElem?_eq_some_iff.1 hl).1 (.inr (.inr rfl))).trans hl, (hb.same _ (Array.getElem?_eq_some_iff.1 hk).1 (.inl (Array.getElem?_eq_some_iff.1 hK1).1)).trans hk⟩
    · rintro pre T W W' ⟨S, c, rfl, h3, hi, hl, hk⟩ hb
      exact ⟨S, c, rfl, h3, hIx c _ _ _ _ hi (hb.mono hb1.size (fun k h => .inl h)), (hb.same _ (Array.getElem?_eq_some_iff.1 hl).1 (.inr (.inr rfl))).trans hl, (hb.same _ (Array.getElem?_eq_some_iff.1 hk).1 (.inl (Array.getElem?_eq_some_iff.1 hK1).1)).trans hk⟩
    · -- ONE ROUND
      rintro pre x v T W ⟨S, rfl, hi, hSB, hSD, hSl, hl, hk⟩ henc hpre
      have hlt : w.heap.size + 1 < W.heap.size := (Array.getElem?_eq_some_iff.1 hl).1
      have hy := run_yield (P := P) (args := v) hl (by rw [hrec]; exact hps _ _ _ henc)
      rw [hrec] at hy
      refine ⟨fn, _, assign, body, hy, roundIn_of_wpIn hfn (hassign _ pre x v S W _ hi henc hpre ?_)⟩
      clear hy
      intro a' Wa hba hia hax
      have hla := (hba.block _ hlt).trans hl
      have hka := (hba.block w.heap.size (by omega)).trans hk
      have hlta : w.heap.size + 1 < Wa.heap.size := Nat.lt_of_lt_of_le hlt hba.size
      refine ⟨_, run_beginRound hla (by rw [hrec]), ?_⟩
      have hl2 : (Wa.putObj (w.heap.size + 1) (.loop { rec .ready none with state := .busy })).heap[w.heap.size + 1]? = some (.loop { rec .ready none with state := .busy }) := World.putObj_heap_same hlta
      have hk2 : (Wa.putObj (w.heap.size + 1) (.loop { rec .ready none with state := .busy })).heap[w.heap.size]? = some (.deferred (some [])) := (World.putObj_heap_other (by omega)).trans hka
      have hex : Ext w.heap.size Wa (Wa.putObj (w.heap.size + 1) (.loop { rec .ready none with state := .busy })) := Ext.put (by omega) hla rfl
      have hf2 : Foot (fun k => S k ∨ k = w.heap.size + 1) (fun k => S k ∨ k = w.heap.size + 1) W (Wa.putObj (w.heap.size + 1) (.loop { rec .ready none with state := .busy })) :=
        (Foot.of_below hba).trans (Foot.put _ (.inr rfl))
      refine wpIn_mono (hbody _ pre x a' S _ (hI _ _ _ _ hia (Oth.put _ (by omega) hSl)) (hAx _ _ _ _ hax hex) hpre (fun k hk => ⟨(hSB k hk).1, by have := (hSB k hk).2; have := hba.size; simp; omega⟩)) ?_
      generalize Wa.putObj (w.heap.size + 1) (.loop { rec .ready none with state := .busy }) = W2 at hl2 hk2 hf2 ⊢
      have hlt2 : w.heap.size + 1 < W2.heap.size := (Array.getElem?_eq_some_iff.1 hl2).1
      have fin : ∀ (jump : Option Code) (S' : Nat → Prop) (W3 : World), Foot S S' W2 W3 →
          (Instr.endRound (w.heap.size + 1) jump).run P W3 = .ok (.bool jump.isNone) (W3.putObj (w.heap.size + 1) (.loop (rec (if jump.isNone then .ready else .done) jump))) ∧
          W3.heap[w.heap.size + 1]? = some (.loop { rec .ready none with state := .busy }) ∧
          (W3.putObj (w.heap.size + 1) (.loop (rec (if jump.isNone then .ready else .done) jump))).heap[w.heap.size + 1]? = some (.loop (rec (if jump.isNone then .ready else .done) jump)) ∧
          (W3.putObj (w.heap.size + 1) (.loop (rec (if jump.isNone then .ready else .done) jump))).heap[w.heap.size]? = some (.deferred (some [])) ∧
          Foot (fun k => S k ∨ k = w.heap.size + 1) (fun k => S' k ∨ k = w.heap.size + 1) W (W3.putObj (w.heap.size + 1) (.loop (rec (if jump.isNone then .ready else .done) jump))) ∧
          ¬ S' w.heap.size ∧ ¬ S' (w.heap.size + 1) ∧ (∀ k, S' k → ¬ R k) := fun jump S' W3 hf => by
        have hl3 := (hf.same _ hlt2 hSl).trans hl2
        have hk3 := (hf.same w.heap.size (by omega) hSD).trans hk2
        have := run_endRound (P := P) jump hl3
        rw [hrec] at this ⊢
        refine ⟨this, by rw [hrec] at hl3; exact hl3, World.putObj_heap_same (Array.getElem?_eq_some_iff.1 hl3).1, (World.putObj_heap_other (by omega)).trans hk3, ?_, ?_, ?_, ?_⟩
        · exact (hf2.trans (hf.wide (T := fun k => k = w.heap.size + 1))).trans (Foot.put _ (.inr rfl))
        · intro h; rcases hf.fresh _ h with h1 | h1
          · exact hSD h1
          · omega
        · intro h; rcases hf.fresh _ h with h1 | h1
          · exact hSl h1
          · omega
        · intro k h; rcases hf.fresh _ h with h1 | h1
          · exact (hSB k h1).1
          · intro hr; have := hR k hr; have := hf2.size; omega
      rintro e a3 W3 hp
      cases e with
      | normal =>
        obtain ⟨S', hi3, hf3, ht3⟩ := hp
        obtain ⟨hr, hl3, hl4, hk4, hft, g1, g2, g3⟩ := fin none S' W3 hf3
        exact ⟨_, _, hr, .inl ⟨rfl, _, ⟨S', rfl, hI _ _ _ _ hi3 (Oth.put _ (by omega) g2), fun k hk => ⟨g3 k hk, by simpa using ht3 k hk⟩, g1, g2, hl4, hk4⟩, hft, fun k hk => by
          rcases hk with h | h
          · simpa using ht3 k h
          · rw [h]; exact (Array.getElem?_eq_some_iff.1 hl4).1⟩⟩
      | ret =>
        obtain ⟨S', hi3, hf3⟩ := hp
        obtain ⟨hr, hl3, hl4, hk4, hft, g1, g2, g3⟩ := fin (some .ret) S' W3 hf3
        exact ⟨_, _, hr, .inr ⟨rfl, _, ⟨S', .ret, rfl, g2, hIx _ _ _ _ _ hi3 (Oth.put _ (by omega) g2), hl4, hk4⟩, hft⟩⟩
      | exit id =>
        obtain ⟨S', hi3, hf3⟩ := hp
        obtain ⟨hr, hl3, hl4, hk4, hft, g1, g2, g3⟩ := fin (some (.exit id)) S' W3 hf3
        exact ⟨_, _, hr, .inr ⟨rfl, _, ⟨S', .exit id, rfl, g2, hIx _ _ _ _ _ hi3 (Oth.put _ (by omega) g2), hl4, hk4⟩, hft⟩⟩
      | goto t =>
        obtain ⟨S', hi3, hf3⟩ := hp
        obtain ⟨hr, hl3, hl4, hk4, hft, g1, g2, g3⟩ := fin (some (.goto t)) S' W3 hf3
        exact ⟨_, _, hr, .inr ⟨rfl, _, ⟨S', .goto t, rfl, g2, hIx _ _ _ _ _ hi3 (Oth.put _ (by omega) g2), hl4, hk4⟩, hft⟩⟩
      | panic ch => exact hp.elim
      | outgrown => exact hp.elim
    · -- BEHIND THE ITERATOR
      rintro e W2 ⟨⟨v, rfl⟩, (⟨T, ⟨S, rfl, hi, _, _, hn, hl, hk⟩, _⟩ | ⟨pre, T, hp, ⟨S, c, rfl, hn, hi, hl, hk⟩, _⟩)⟩
      · exact ⟨none, _, by have := run_endLoop (P := P) hl (by rw [hrec]; simp); rw [hrec] at this; exact this, hdone _ S _ (Nat.le_refl _) (hI _ _ _ _ hi (Oth.put _ (by omega) hn)) ((World.putObj_heap_other (by omega)).trans hk)⟩
      · exact ⟨some c, _, by have := run_endLoop (P := P) hl (by rw [hrec]; simp); rw [hrec] at this; exact this, hstop _ c pre S _ (Nat.le_refl _) hp (hIx _ _ _ _ _ hi (Oth.put _ (by omega) hn)) ((World.putObj_heap_other (by omega)).trans hk)⟩
theorem IterW.mono {α : Type} {P : Program} {gf : Nat} {lb : Array Value} {Enc : World → Array Value → α → Prop} {xs : List α} {R : Nat → Prop} {w w' : World} (h : IterW P gf lb Enc xs R w) (hb : Below w.heap.size w w') :
    IterW P gf lb Enc xs R w' := fun l J Jx S0 W1 hW1 => h l J Jx S0 W1 (hb.trans (hW1.mono hb.size))
end Go.Proofs.YtlmjkbdodecbmaaGreatDoor

namespace Go.Proofs.YtlmjkbdodecbmaaGreatDoor
open Go.RowKit Go.Shelf
set_option linter.unusedVariables false
set_option linter.unusedSimpArgs false
attribute [local go_sem] Oper.semAt_some field_nat
/-- Blocks that stay as they are. -/
def KeepQ (P : Nat → Prop) (A C : World) : Prop := ∀ k, P k → k < A.heap.size → C.heap[k]? = A.heap[k]?
theorem KeepQ.trans {P : Nat → Prop} {A C D : World} (h : KeepQ P A C) (h' : KeepQ P C D) : KeepQ P A D := fun k hk hlt => by
  have e := h k hk hlt
  have hlt2 : k < C.heap.size := by
    rcases Nat.lt_or_ge k C.heap.size with h9 | h9
    · exact h9
    · rw [Array.getElem?_eq_none h9, Array.getElem?_eq_getElem hlt] at e; cases e
  exact (h' k hk hlt2).trans e
theorem KeepQ.ext {P : Nat → Prop} {B : Nat} {A C : World} (hP : ∀ k, P k → k < B) (h : Ext B A C) : KeepQ P A C := fun k hk hlt => h.low k (hP k hk) hlt
abbrev backPF : Nat := 153
/-- A predicate as a value. -/
abbrev predV (p : PT) (vo : Option Addr) (vc : Nat) (ko : Option Addr) (kc : Nat) : Value := .agg #[.int .i64 p.op, .int .i64 p.fld, .slice vo p.vals.length vc, .slice ko p.kids.length kc]
def BkEnc (B : Nat) (W : World) (v : Array Value) (x : PT) : Prop := ∃ (i : Int) (vo : Option Addr) (vc : Nat) (ko : Option Addr) (kc : Nat), v = #[.int .i64 i, predV x vo vc ko kc] ∧ PtIs B W x vo vc ko kc
theorem enters_backP : ∀ args w, (callFunc backPF args).run Tryz.prog w = .ok (.enter backPF args) w := enters_of Tryz.func153 (by kernel_rfl) rfl
theorem backP_any (ao : Option Addr) (n cap : Nat) (w : World) : Calls Tryz.prog 132 #[.slice ao n cap] w fun e w' => e = .returned (.func (.func backPF) #[] #[.pointer (some ⟨w.heap.size, 0, none⟩)]) ∧ w' = w.alloc (.cells #[.slice ao n cap] 32) := by
  go_enter Tryz.func132, Tryz.ntmps132
  go_wp2_with fail
  go_ret
  exact ⟨rfl, rfl⟩
theorem drop_revP {α : Type} {l : List α} {i : Nat} (h : i < l.length) : (l.drop i).reverse = (l.drop (i + 1)).reverse ++ [l[i]'h] := by
  rw [List.drop_eq_getElem_cons h, List.reverse_cons]
theorem rev_prefixP {α : Type} (l : List α) (i : Nat) : (l.drop i).reverse <+: l.reverse := by
  refine ⟨(l.take i).reverse, ?_⟩
  rw [← List.reverse_append, List.take_append_drop]
set_option maxRecDepth 100000 in
set_option maxHeartbeats 4000000 in
theorem backP_iter (B : Nat) (p : PT) (vo : Option Addr) (vc : Nat) (ko : Option Addr) (kc : Nat) (bs B2 : Nat) (w : World) (hP : PtIs B w p vo vc ko kc) (hBw : B ≤ w.heap.size) (hcs : w.cell? ⟨bs, 0, none⟩ = some (.slice ko p.kids.length kc)) :
    IterA Tryz.prog backPF #[.pointer (some ⟨bs, 0, none⟩)] (BkEnc B) p.kids.reverse B2 (KeepQ fun k => k < B ∨ k = bs) w := by
  intro l9 J Jx S0 W1 hW1 hS0 hJ hJx hY h0
  have hc1 := (hW1.cell (p := ⟨bs, 0, none⟩) (World.block_lt_of_cell? w ⟨bs, 0, none⟩ hcs)).trans hcs
  have hlbs := World.block_lt_of_cell? W1 ⟨bs, 0, none⟩ hc1
  replace hP := hP.low (Low.of_below hW1 hBw)
  have hBw1 : B ≤ W1.heap.size := Nat.le_trans hBw hW1.size
  have hkl := Nat.le_trans hP.kcap.1 hP.kcap.2
  obtain ⟨ks, hks⟩ : ∃ ks, ks = p.kids := ⟨_, rfl⟩
  rw [← hks] at hc1 hkl hY ⊢
  have HKS := Lib.hid hks
  clear hcs hks
  refine callsIn_of_wp Tryz.func153 rfl (by trivial) ?_ rfl
  simp only [IterArgs, Tryz.ntmps153, List.size_toArray, List.length_cons, List.length_nil, Nat.reduceAdd, Nat.reduceSub, Array.replicate_succ, Array.replicate_zero, List.push_toArray, List.append_toArray, List.nil_append, List.cons_append]
  gi_wp2_with fail
  gi_loopg [3] ks.length (fun g iv wr => ∃ (j : Int) (S : Nat → Prop), iv = .int .i64 j ∧ j + 1 = (g : Int) ∧ g ≤ ks.length ∧ J (ks.drop g).reverse S wr ∧ Top S wr ∧ Foot S0 S W1 wr ∧ KeepQ (fun k => k < B ∨ k = bs) W1 wr)
  case atStart => exact ⟨(ks.length : Int) - 1, S0, by go_num, by omega, Nat.le_refl _, by rw [List.drop_of_length_le (Nat.le_refl _)]; exact h0, fun k hk => (hS0 k hk).2, Foot.refl _ _, fun _ _ _ => rfl⟩
  case round =>
    obtain ⟨j, S, rfl, hj, hgl, hJs, hT, hF, hK⟩ := hrel
    have hsk : wr.heap[bs]? = W1.heap[bs]? := hK bs (.inr rfl) hlbs
    have es := (World.cell?_of_block (a := ⟨bs, 0, none⟩) hsk).trans hc1
    rcases Nat.eq_zero_or_pos gk with hz | hz
    · subst hz
      obtain rfl : j = -1 := by omega
      rw [List.drop_zero] at hJs
      gi_wp2_with fail
      (try simp only [Exit.inBlock, Exit.then])
      refine bodyPost_end (results_none rfl _ _ _) rfl ?_
      exact ⟨⟨_, rfl⟩, .inl ⟨S, hJs, hF⟩⟩
    · obtain ⟨i, rfl⟩ : ∃ i, gk = i + 1 := ⟨gk - 1, by omega⟩
      obtain rfl : j = (i : Int) := by omega
      have hil : i < ks.length := by omega
      have hlow : Low B W1 wr := fun k hk => hK k (.inl hk) (by omega)
      have hPr := hP.low hlow
      have HD := Lib.hid (drop_revP hil)
      have HPX := Lib.hid (rev_prefixP ks i)
      obtain ⟨x, hx⟩ : ∃ x, x = ks[i]'hil := ⟨_, rfl⟩
      have hxi : p.kids[i]? = some x := by rw [← HKS.out, List.getElem?_eq_getElem hil, hx]
      obtain ⟨g, off, rfl, hgB, kvo, kvc, kko, kkc, hX, hA⟩ := hPr.kid hxi
      rw [← hx] at HD
      obtain ⟨e0, e1, e2, e3⟩ := hA
      clear hx hxi hsk hPr
      have q1 : (i : Int) < (ks.length : Int) := by omega
      have q2 : (0 : Int) ≤ (i : Int) := by omega
      obtain ⟨fn, tmps, assign, body, hy, hR⟩ := hY (ks.drop (i + 1)).reverse x #[.int .i64 (i : Int), predV x kvo kvc kko kkc] S wr hJs ⟨_, _, _, _, _, rfl, hX⟩ (by rw [← HD.out]; exact HPX.out)
      have HR := Lib.hid hR
      clear hR hX
      dsimp only [predV] at hy
      generalize x.op = xo at *
      generalize x.fld = xf at *
      generalize x.vals.length = xv at *
      generalize x.kids.length = xk at *
      replace hy : (Instr.yield l9 #[.int .i64 (i : Int), .agg #[.int .i64 xo, .int .i64 xf, .slice kvo xv kvc, .slice kko xk kkc]]).run Tryz.prog wr = _ := hy
      gi_wp2_with fail
      refine ⟨rfl, HR.out.mono ?_⟩
      rintro e W3 (⟨rfl, S3, hJ3, hF3, hT3, hK3⟩ | ⟨rfl, S3, hJ3, hF3⟩)
      · clear e0 e1 e2 e3 es
        gi_wp2
        gi_roundg i
        case measure => omega
        case rel => exact ⟨(i : Int) - 1, S3, by go_num, by omega, by omega, by rw [HD.out]; exact hJ3, hT3, hF.trans hF3, hK.trans hK3⟩
      · clear e0 e1 e2 e3 es
        gi_wp2
        (try simp only [Exit.inBlock, Exit.then])
        refine bodyPost_ret (results_none rfl _ _ _) rfl ?_
        exact ⟨⟨_, rfl⟩, .inr ⟨_, S3, by rw [← HD.out]; exact HPX.out, hJ3, hF.trans hF3⟩⟩
/-- Marks of ranges that are done. -/
def Marks (D0 : Nat) (S : Nat → Prop) (W : World) (ds : List Deferred) : Prop := ∃ l : List Nat, ds = l.map (fun D => { target := .collected D, args := #[] }) ∧ l.Nodup ∧ ∀ D ∈ l, D0 ≤ D ∧ ¬ S D ∧ W.heap[D]? = some (.deferred (some []))
theorem Marks.nil (D0 : Nat) (S : Nat → Prop) (W : World) : Marks D0 S W [] := ⟨[], rfl, by simp, by simp⟩
theorem Marks.cons {D0 D : Nat} {S : Nat → Prop} {W : World} {ds : List Deferred} (h : Marks D0 S W ds) (hD : D0 ≤ D) (hS : ¬ S D) (hd : W.heap[D]? = some (.deferred (some []))) (hn : ∀ l : List Nat, ds = l.map (fun D => { target := .collected D, args := #[] }) → D ∉ l) : Marks D0 S W ({ target := .collected D, args := #[] } :: ds) := by
  obtain ⟨l, rfl, h1, h2⟩ := h
  refine ⟨D :: l, rfl, List.nodup_cons.2 ⟨hn l rfl, h1⟩, fun k hk => ?_⟩
  rcases List.mem_cons.1 hk with rfl | hk
  · exact ⟨hD, hS, hd⟩
  · exact h2 k hk
/-- What turns no mark. -/
theorem Marks.keep {D0 : Nat} {S S' : Nat → Prop} {W W' : World} {ds : List Deferred} (h : Marks D0 S W ds) (hs : ∀ k, k < W.heap.size → S' k → S k) (hk : ∀ k, W.heap[k]? = some (.deferred (some [])) → D0 ≤ k → ¬ S k → W'.heap[k]? = W.heap[k]?) : Marks D0 S' W' ds := by
  obtain ⟨l, rfl, h1, h2⟩ := h
  refine ⟨l, rfl, h1, fun D hD => ?_⟩
  obtain ⟨a, b, c⟩ := h2 D hD
  exact ⟨a, fun h => b (hs D (Array.getElem?_eq_some_iff.1 c).1 h), (hk D c a b).trans c⟩
theorem Marks.out {D0 : Nat} {S : Nat → Prop} {W : World} {ds : List Deferred} (h : Marks D0 S W ds) {D : Nat} (hD : W.heap.size ≤ D) : ∀ l : List Nat, ds = l.map (fun D => { target := .collected D, args := #[] }) → D ∉ l := by
  obtain ⟨l, rfl, h1, h2⟩ := h
  intro l' e hm
  have e2 : l = l' := by
    have := congrArg (List.map (fun d : Deferred => match d.target with | .collected D => D | _ => 0)) e
    simpa [List.map_map, Function.comp_def] using this
  subst e2
  have := (Array.getElem?_eq_some_iff.1 (h2 D hm).2.2).1
  omega
/-- A function without results leaves over its marks. -/
theorem leaves_marks {F : Fence} {n : Nat} {P : Program} {fn : Func} {tmps : Array Value} {R : Ending → World → Prop} (hres : fn.results = #[]) {D0 : Nat} {S : Nat → Prop} : ∀ (ds : List Deferred) (W : World), Marks D0 S W ds → (∀ W', Oth D0 S W W' → R (.returned (.tuple #[])) W') → LeavesInM F n P fn tmps R ds .returning W := by
  intro ds
  induction ds with
  | nil => intro W _ h; exact ⟨_, results_none hres _ _ _, h W (Oth.refl _ _ _)⟩
  | cons d ds ih =>
    intro W hm h
    obtain ⟨l, e, h1, h2⟩ := hm
    cases l with
    | nil => simp at e
    | cons D l =>
      rw [List.map_cons] at e
      injection e with e1 e2
      subst e1
      obtain ⟨a, b, c⟩ := h2 D (by simp)
      refine ⟨by simp, .inl ⟨D, _, rfl, run_takeDeferred c, ih _ ⟨l, e2, (List.nodup_cons.1 h1).2, fun k hk => ?_⟩ fun W' hW' => h W' ((Oth.put _ a b).trans hW')⟩⟩
      obtain ⟨a', b', c'⟩ := h2 k (by simp [hk])
      exact ⟨a', b', (World.putObj_heap_other (fun e => (List.nodup_cons.1 h1).1 (by rw [← e]; exact hk))).trans c'⟩
theorem logicWalk_any (op fld : Int) (vo : Option Addr) (vl vc : Nat) (ko : Option Addr) (kl kc : Nat) (w : World) : Calls Tryz.prog 111 #[.agg #[.int .i64 op, .int .i64 fld, .slice vo vl vc, .slice ko kl kc]] w fun e w' => e = .returned (.func (.func 131) #[] #[.pointer (some ⟨w.heap.size, 0, none⟩)]) ∧ w' = w.alloc (.cells #[.int .i64 op, .int .i64 fld, .slice vo vl vc, .slice ko kl kc] 34) := by
  go_enter Tryz.func111, Tryz.ntmps111
  go_wp2_with fail
  go_ret
  exact ⟨rfl, rfl⟩
end Go.Proofs.YtlmjkbdodecbmaaGreatDoor
