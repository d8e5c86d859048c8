/-
  Pe04: RangeW HeapL HeapO PrdB BookI (what is needed of them).
-/
import Derived.Test.YtlmjkbdodecbmaaDoorPe00
import Derived.Test.YtlmjkbdodecbmaaDoorPe02
import Derived.Test.YtlmjkbdodecbmaaDoorPe03
import Derived.OwnWalkIn
import Derived.Sort.LoopGhostIn
import Derived.BigQuiet
import Derived.Deep.LoopGhost
import Derived.Deep.Cut
import Derived.BigRegion
import Derived.WalkKit
import Derived.ProofKit
import Derived.OpenShut
import Derived.Carry
import Derived.ChangeSlices

namespace Go.Proofs.YtlmjkbdodecbmaaDoor
open Go.RowKit
set_option linter.unusedVariables false
set_option linter.unusedSimpArgs false
/-- All that lay below D, and all blocks of S, are as they were. -/
structure Oth (D : Nat) (S : Nat → Prop) (W W' : World) : Prop where
  os : W'.os = W.os
  tape : W'.tape = W.tape
  output : W'.output = W.output
  size : W.heap.size ≤ W'.heap.size
  same : ∀ k, k < W.heap.size → (k < D ∨ S k) → W'.heap[k]? = W.heap[k]?
theorem Oth.refl (D : Nat) (S : Nat → Prop) (W : World) : Oth D S W W := ⟨rfl, rfl, rfl, Nat.le_refl _, fun _ _ _ => rfl⟩
theorem Oth.of_below {D : Nat} {S : Nat → Prop} {W W' : World} (h : Below W.heap.size W W') : Oth D S W W' := ⟨h.os, h.tape, h.output, h.size, fun k hk _ => h.block k hk⟩
theorem Oth.trans {D : Nat} {S : Nat → Prop} {A B C : World} (h : Oth D S A B) (h' : Oth D S B C) : Oth D S A C :=
  ⟨h'.os.trans h.os, h'.tape.trans h.tape, h'.output.trans h.output, Nat.le_trans h.size h'.size, fun k hk hs => (h'.same k (Nat.lt_of_lt_of_le hk h.size) hs).trans (h.same k hk hs)⟩
theorem Oth.mono {D D' : Nat} {S S' : Nat → Prop} {W W' : World} (h : Oth D S W W') (hD : D' ≤ D) (hS : ∀ k, S' k → S k) : Oth D' S' W W' :=
  ⟨h.os, h.tape, h.output, h.size, fun k hk hs => h.same k hk (hs.imp (fun h => Nat.lt_of_lt_of_le h hD) (hS k))⟩
theorem Oth.put {D l : Nat} {S : Nat → Prop} {W : World} (o : Obj) (hl : D ≤ l) (hs : ¬ S l) : Oth D S W (W.putObj l o) :=
  ⟨rfl, rfl, rfl, by simp, fun k hk h => World.putObj_heap_other (fun e => by subst e; rcases h with h | h; omega; exact hs h)⟩
theorem Oth.set {D b i : Nat} {S : Nat → Prop} {W W' : World} (u : Value) (h : Oth D S W W') (hb : D ≤ b) (hs : ¬ S b) : Oth D S W (W'.setCell ⟨b, i, none⟩ u) := by
  have hk := (Keep.refl (fun k => k = b) W').set b i u (.inl rfl)
  refine h.trans ⟨hk.os, hk.tape, hk.output, hk.size, fun k hk9 h9 => hk.same k hk9 (fun e => ?_)⟩
  have e2 : k = b := e
  subst e2
  rcases h9 with h9 | h9
  · omega
  · exact hs h9
/-- What a round's body owes. -/
def postW {α : Type} (I : List α → (Nat → Prop) → World → Prop) (Ix : Code → List α → (Nat → Prop) → World → Prop) (pre : List α) (S : Nat → Prop) (W : World) : Exit → Act → World → Prop
  | .normal, _, W' => ∃ S', I pre S' W' ∧ Foot S S' W W' ∧ Top S' W'
  | .ret, _, W' => ∃ S', Ix .ret pre S' W' ∧ Foot S S' W W'
  | .exit id, _, W' => ∃ S', Ix (.exit id) pre S' W' ∧ Foot S S' W W'
  | .goto t, _, W' => ∃ S', Ix (.goto t) pre S' W' ∧ Foot S S' W W'
  | _, _, _ => False
/-- THE CONTRACT OF AN ITERATOR VALUE, called in a world that goes on from w: it tells the elements of xs one by one (Enc: how a value reads as an element), till a round says no more. B: the body's own blocks lie from there on. -/
def IterW {α : Type} (P : Program) (gf : Nat) (lb : Array Value) (Enc : World → Array Value → α → Prop) (xs : List α) (B : Nat) (w : World) : Prop :=
  ∀ (l : Nat) (J Jx : List α → (Nat → Prop) → World → Prop) (S0 : Nat → Prop) (W1 : World), Below w.heap.size w W1 → (∀ k, S0 k → B ≤ k ∧ k < W1.heap.size) →
    (∀ pre S W W', J pre S W → Oth W1.heap.size S W W' → J pre S W') → (∀ pre S W W', Jx pre S W → Oth W1.heap.size S W W' → Jx pre S W') →
    (∀ pre x v S W, J pre S W → Enc W v x → pre ++ [x] <+: xs → YieldAt Fence.wide 0 P l v W fun e W' =>
      (e = .returned (.bool true) ∧ ∃ S', J (pre ++ [x]) S' W' ∧ Foot S S' W W' ∧ Top S' W') ∨ (e = .returned (.bool false) ∧ ∃ S', Jx (pre ++ [x]) S' W' ∧ Foot S S' W W')) →
    J [] S0 W1 →
    CallsIn Fence.wide 0 P gf (IterArgs l lb) W1 fun e W' => (∃ v, e = .returned v) ∧ ((∃ S', J xs S' W' ∧ Foot S0 S' W1 W') ∨ (∃ pre S', pre <+: xs ∧ Jx pre S' W' ∧ Foot S0 S' W1 W'))
theorem wp_rangeW {α : Type} {P : Program} {g : Operand} {ps : Array Tmp} {assign body : Code} {Q : Exit → Act → World → Prop} {a : Act} {w : World}
    {gf : Nat} {lb : Array Value} (hg : a.eval g = .func (.func gf) #[] lb) (eg : ∀ args w, (callFunc gf args).run P w = .ok (.enter gf args) w)
    {Enc : World → Array Value → α → Prop} {xs : List α} {B : Nat} (hit : IterW P gf lb Enc xs B w) (hps : ∀ W v x, Enc W v x → v.size = ps.size) (hB : B ≤ w.heap.size)
    (I : List α → (Nat → Prop) → World → Prop) (Ix : Code → List α → (Nat → Prop) → World → Prop) (hI : ∀ pre S W W', I pre S W → Oth w.heap.size S W W' → I pre S W') (hIx : ∀ c pre S W W', Ix c pre S W → Oth w.heap.size S W W' → Ix c pre S W')
    (S0 : Nat → Prop) (hS0 : ∀ k, S0 k → B ≤ k ∧ k < w.heap.size) (h0 : I [] S0 w) (Ax : α → Act → World → Prop) (hAx : ∀ x a' W W', Ax x a' W → Ext w.heap.size W W' → Ax x a' W')
    (hassign : ∀ (l : Nat) (pre : List α) (x : α) (v : Array Value) (S : Nat → Prop) (W : World) (K : Act → World → Prop), I pre S W → Enc W v x → pre ++ [x] <+: xs →
      (∀ a' W', Below W.heap.size W W' → I pre S W' → Ax x a' W' → K a' W') →
      assign.wpIn (Fence.wide.inRound l) 0 P (Exit.then K (fun _ _ _ => False)) { tmps := (ps.zip v).foldl (fun t (p, v) => t.setIfInBounds p v) a.tmps, defers := [] } W)
    (hbody : ∀ (l : Nat) (pre : List α) (x : α) (a' : Act) (S : Nat → Prop) (W : World), I pre S W → Ax x a' W → pre ++ [x] <+: xs → (∀ k, S k → B ≤ k ∧ k < W.heap.size) → body.wpIn (Fence.wide.inRound l) 0 P (postW I Ix (pre ++ [x]) S W) a' W)
    (hdone : ∀ (D : Nat) (S : Nat → Prop) (W : World), w.heap.size ≤ D → I xs S W → W.heap[D]? = some (.deferred (some [])) → Q .normal { a with defers := { target := .collected D, args := #[] } :: a.defers } W)
    (hstop : ∀ (D : Nat) (c : Code) (pre : List α) (S : Nat → Prop) (W : World), w.heap.size ≤ D → pre <+: xs → Ix c pre S W → W.heap[D]? = some (.deferred (some [])) → c.wpIn Fence.wide 0 P Q { a with defers := { target := .collected D, args := #[] } :: a.defers } W) :
    (Code.rangeFunc g ps assign body).wpIn Fence.wide 0 P Q a w := by
  refine wpIn_rangeFunc ?_
  intro fn hfn
  obtain ⟨rec, hrec⟩ : ∃ rec : LoopState → Option Code → Loop, rec = fun st pe => { state := st, pending := pe, fn, tmps := a.tmps, params := ps, assign, body, defers := w.heap.size } := ⟨_, rfl⟩
  obtain ⟨W1, hW1⟩ : ∃ W1, (w.alloc (.deferred (some []))).alloc (.loop (rec .ready none)) = W1 := ⟨_, rfl⟩
  have hL1 : W1.heap[w.heap.size + 1]? = some (.loop (rec .ready none)) := by
    rw [← hW1]; have := World.alloc_heap_new (w.alloc (.deferred (some []))) (.loop (rec .ready none)); rwa [World.size_alloc] at this
  have hK1 : W1.heap[w.heap.size]? = some (.deferred (some [])) := by
    rw [← hW1]; exact (Below.heap_alloc _ _ _ (by simp)).trans (World.alloc_heap_new w _)
  have hb1 : Below w.heap.size w W1 := by
    rw [← hW1]; exact ((Below.refl _ w).alloc (Nat.le_refl _) _).alloc (by simp) _
  have hI1 : I [] S0 W1 := hI _ _ _ _ h0 (Oth.of_below hb1)
  refine ⟨w.heap.size + 1, [{ target := .collected w.heap.size, args := #[] }], W1, { target := .fn (.func gf) lb, args := #[.func (.yield (w.heap.size + 1)) #[] #[]] }, W1, gf,
    #[.func (.yield (w.heap.size + 1)) #[] #[]] ++ lb, W1, ?_, ?_, ?_, ?_, fun h => by simp [Fence.wide] at h, ?_⟩
  · rw [← hW1, hrec]; exact run_enterLoop_outer _ _ _ _ _
  · simp only [resolve, hg]
    simp [go_sem]
  · intro f' hf'; trivial
  · simp [invoke, go_sem, eg]
  · refine (hit (w.heap.size + 1)
      (fun pre T W => ∃ S, (T = fun k => S k ∨ k = w.heap.size + 1) ∧ I pre S W ∧ (∀ k, S k → B ≤ k ∧ k < W.heap.size) ∧ ¬ S w.heap.size ∧ ¬ S (w.heap.size + 1) ∧ W.heap[w.heap.size + 1]? = some (.loop (rec .ready none)) ∧ W.heap[w.heap.size]? = some (.deferred (some [])))
      (fun pre T W => ∃ S c, (T = fun k => S k ∨ k = w.heap.size + 1) ∧ ¬ S (w.heap.size + 1) ∧ Ix c pre S W ∧ W.heap[w.heap.size + 1]? = some (.loop (rec .done (some c))) ∧ W.heap[w.heap.size]? = some (.deferred (some [])))
      (fun k => S0 k ∨ k = w.heap.size + 1) W1 hb1 (fun k hk => by
        have hlt1 := (Array.getElem?_eq_some_iff.1 hL1).1
        rcases hk with h | h
        · have := hS0 k h; omega
        · omega) ?_ ?_ ?_ ⟨S0, rfl, hI1, fun k h => ⟨(hS0 k h).1, by have := (hS0 k h).2; have := hb1.size; omega⟩, fun h => by have := (hS0 _ h).2; omega, fun h => by have := (hS0 _ h).2; omega, hL1, hK1⟩).mono ?_
    · rintro pre T W W' ⟨S, rfl, hi, h1, h2, h3, hl, hk⟩ hb
      exact ⟨S, rfl, hI _ _ _ _ hi (hb.mono hb1.size (fun k h => .inl h)), fun k hk => ⟨(h1 k hk).1, Nat.lt_of_lt_of_le (h1 k hk).2 hb.size⟩, h2, h3, (hb.same _ (Array.getElem?_eq_some_iff.1 hl).1 (.inr (.inr rfl))).trans hl, (hb.same _ (Array.getElem?_eq_some_iff.1 hk).1 (.inl (Array.getElem?_eq_some_iff.1 hK1).1)).trans hk⟩
    · rintro pre T W W' ⟨S, c, rfl, h3, hi, hl, hk⟩ hb
      exact ⟨S, c, rfl, h3, hIx c _ _ _ _ hi (hb.mono hb1.size (fun k h => .inl h)), (hb.same _ (Array.getElem?_eq_some_iff.1 hl).1 (.inr (.inr rfl))).trans hl, (hb.same _ (Array.getElem?_eq_some_iff.1 hk).1 (.inl (Array.getElem?_eq_some_iff.1 hK1).1)).trans hk⟩
    · -- ONE ROUND
      rintro pre x v T W ⟨S, rfl, hi, hSB, hSD, hSl, hl, hk⟩ henc hpre
      have hlt : w.heap.size + 1 < W.heap.size := (Array.getElem?_eq_some_iff.1 hl).1
      have hy := run_yield (P := P) (args := v) hl (by rw [hrec]; exact hps _ _ _ henc)
      rw [hrec] at hy
      refine ⟨fn, _, assign, body, hy, roundIn_of_wpIn hfn (hassign _ pre x v S W _ hi henc hpre ?_)⟩
      clear hy
      intro a' Wa hba hia hax
      have hla := (hba.block _ hlt).trans hl
      have hka := (hba.block w.heap.size (by omega)).trans hk
      have hlta : w.heap.size + 1 < Wa.heap.size := Nat.lt_of_lt_of_le hlt hba.size
      refine ⟨_, run_beginRound hla (by rw [hrec]), ?_⟩
      have hl2 : (Wa.putObj (w.heap.size + 1) (.loop { rec .ready none with state := .busy })).heap[w.heap.size + 1]? = some (.loop { rec .ready none with state := .busy }) := World.putObj_heap_same hlta
      have hk2 : (Wa.putObj (w.heap.size + 1) (.loop { rec .ready none with state := .busy })).heap[w.heap.size]? = some (.deferred (some [])) := (World.putObj_heap_other (by omega)).trans hka
      have hex : Ext w.heap.size Wa (Wa.putObj (w.heap.size + 1) (.loop { rec .ready none with state := .busy })) := Ext.put (by omega) hla rfl
      have hf2 : Foot (fun k => S k ∨ k = w.heap.size + 1) (fun k => S k ∨ k = w.heap.size + 1) W (Wa.putObj (w.heap.size + 1) (.loop { rec .ready none with state := .busy })) :=
        (Foot.of_below hba).trans (Foot.put _ (.inr rfl))
      refine wpIn_mono (hbody _ pre x a' S _ (hI _ _ _ _ hia (Oth.put _ (by omega) hSl)) (hAx _ _ _ _ hax hex) hpre (fun k hk => ⟨(hSB k hk).1, by have := (hSB k hk).2; have := hba.size; simp; omega⟩)) ?_
      generalize Wa.putObj (w.heap.size + 1) (.loop { rec .ready none with state := .busy }) = W2 at hl2 hk2 hf2 ⊢
      have hlt2 : w.heap.size + 1 < W2.heap.size := (Array.getElem?_eq_some_iff.1 hl2).1
      have fin : ∀ (jump : Option Code) (S' : Nat → Prop) (W3 : World), Foot S S' W2 W3 →
          (Instr.endRound (w.heap.size + 1) jump).run P W3 = .ok (.bool jump.isNone) (W3.putObj (w.heap.size + 1) (.loop (rec (if jump.isNone then .ready else .done) jump))) ∧
          W3.heap[w.heap.size + 1]? = some (.loop { rec .ready none with state := .busy }) ∧
          (W3.putObj (w.heap.size + 1) (.loop (rec (if jump.isNone then .ready else .done) jump))).heap[w.heap.size + 1]? = some (.loop (rec (if jump.isNone then .ready else .done) jump)) ∧
          (W3.putObj (w.heap.size + 1) (.loop (rec (if jump.isNone then .ready else .done) jump))).heap[w.heap.size]? = some (.deferred (some [])) ∧
          Foot (fun k => S k ∨ k = w.heap.size + 1) (fun k => S' k ∨ k = w.heap.size + 1) W (W3.putObj (w.heap.size + 1) (.loop (rec (if jump.isNone then .ready else .done) jump))) ∧
          ¬ S' w.heap.size ∧ ¬ S' (w.heap.size + 1) ∧ (∀ k, S' k → B ≤ k) := fun jump S' W3 hf => by
        have hl3 := (hf.same _ hlt2 hSl).trans hl2
        have hk3 := (hf.same w.heap.size (by omega) hSD).trans hk2
        have := run_endRound (P := P) jump hl3
        rw [hrec] at this ⊢
        refine ⟨this, by rw [hrec] at hl3; exact hl3, World.putObj_heap_same (Array.getElem?_eq_some_iff.1 hl3).1, (World.putObj_heap_other (by omega)).trans hk3, ?_, ?_, ?_, ?_⟩
        · exact (hf2.trans (hf.wide (T := fun k => k = w.heap.size + 1))).trans (Foot.put _ (.inr rfl))
        · intro h; rcases hf.fresh _ h with h1 | h1
          · exact hSD h1
          · omega
        · intro h; rcases hf.fresh _ h with h1 | h1
          · exact hSl h1
          · omega
        · intro k h; rcases hf.fresh _ h with h1 | h1
          · exact (hSB k h1).1
          · have := hf2.size; omega
      rintro e a3 W3 hp
      cases e with
      | normal =>
        obtain ⟨S', hi3, hf3, ht3⟩ := hp
        obtain ⟨hr, hl3, hl4, hk4, hft, g1, g2, g3⟩ := fin none S' W3 hf3
        exact ⟨_, _, hr, .inl ⟨rfl, _, ⟨S', rfl, hI _ _ _ _ hi3 (Oth.put _ (by omega) g2), fun k hk => ⟨g3 k hk, by simpa using ht3 k hk⟩, g1, g2, hl4, hk4⟩, hft, fun k hk => by
          rcases hk with h | h
          · simpa using ht3 k h
          · rw [h]; exact (Array.getElem?_eq_some_iff.1 hl4).1⟩⟩
      | ret =>
        obtain ⟨S', hi3, hf3⟩ := hp
        obtain ⟨hr, hl3, hl4, hk4, hft, g1, g2, g3⟩ := fin (some .ret) S' W3 hf3
        exact ⟨_, _, hr, .inr ⟨rfl, _, ⟨S', .ret, rfl, g2, hIx _ _ _ _ _ hi3 (Oth.put _ (by omega) g2), hl4, hk4⟩, hft⟩⟩
      | exit id =>
        obtain ⟨S', hi3, hf3⟩ := hp
        obtain ⟨hr, hl3, hl4, hk4, hft, g1, g2, g3⟩ := fin (some (.exit id)) S' W3 hf3
        exact ⟨_, _, hr, .inr ⟨rfl, _, ⟨S', .exit id, rfl, g2, hIx _ _ _ _ _ hi3 (Oth.put _ (by omega) g2), hl4, hk4⟩, hft⟩⟩
      | goto t =>
        obtain ⟨S', hi3, hf3⟩ := hp
        obtain ⟨hr, hl3, hl4, hk4, hft, g1, g2, g3⟩ := fin (some (.goto t)) S' W3 hf3
        exact ⟨_, _, hr, .inr ⟨rfl, _, ⟨S', .goto t, rfl, g2, hIx _ _ _ _ _ hi3 (Oth.put _ (by omega) g2), hl4, hk4⟩, hft⟩⟩
      | panic ch => exact hp.elim
      | outgrown => exact hp.elim
    · -- BEHIND THE ITERATOR
      rintro e W2 ⟨⟨v, rfl⟩, (⟨T, ⟨S, rfl, hi, _, _, hn, hl, hk⟩, _⟩ | ⟨pre, T, hp, ⟨S, c, rfl, hn, hi, hl, hk⟩, _⟩)⟩
      · exact ⟨none, _, by have := run_endLoop (P := P) hl (by rw [hrec]; simp); rw [hrec] at this; exact this, hdone _ S _ (Nat.le_refl _) (hI _ _ _ _ hi (Oth.put _ (by omega) hn)) ((World.putObj_heap_other (by omega)).trans hk)⟩
      · exact ⟨some c, _, by have := run_endLoop (P := P) hl (by rw [hrec]; simp); rw [hrec] at this; exact this, hstop _ c pre S _ (Nat.le_refl _) hp (hIx _ _ _ _ _ hi (Oth.put _ (by omega) hn)) ((World.putObj_heap_other (by omega)).trans hk)⟩
theorem IterW.mono {α : Type} {P : Program} {gf : Nat} {lb : Array Value} {Enc : World → Array Value → α → Prop} {xs : List α} {B : Nat} {w w' : World} (h : IterW P gf lb Enc xs B w) (hb : Below w.heap.size w w') :
    IterW P gf lb Enc xs B w' := fun l J Jx S0 W1 hW1 => h l J Jx S0 W1 (hb.trans (hW1.mono hb.size))
end Go.Proofs.YtlmjkbdodecbmaaDoor

namespace Go.Proofs.YtlmjkbdodecbmaaDoor
open Go.RowKit
set_option linter.unusedVariables false
set_option linter.unusedSimpArgs false
theorem run_appendK {P : Program} {t e : TypeId} {z : Value} {K bytes : Nat} (E : ElemK P t e z K bytes) (ty : TypeId) {w : World} {base n : Nat} {v : Value} {xs : List Value} (hown : OwnsK K base e w v n xs)
    (ad : Addr) (c : Nat) (us : List Value) (hul : us.length = K) (hu : ∀ j u', us[j]? = some u' → w.cell? (ad.add j) = some u') (h1 : ∀ u ∈ us, u.oneCell' = true) (hl : (n + 1) * bytes ≤ 140737488355328) (hm : n + 1 ≤ maxLen) (hbase : base ≤ w.heap.size) :
    ∃ v' w', (Builtin.append_ #[t, t] ty #[v, .slice (some ad) 1 c]).run P w = .ok v' w' ∧ OwnsK K base e w' v' (n + 1) (xs ++ us) ∧ w.grownBy w' v.ownBlock ∧
      (∀ g, v'.ownBlock = some g → v.ownBlock = some g ∨ w.heap.size ≤ g) ∧
      ∀ p : Value → Prop, RowAll p w v → (∀ u ∈ us, p u) → (∀ c ∈ z.cells, p c) → RowAll p w' v' := by
  obtain ⟨i, hi, hz, h4, h5⟩ := E.info
  have hxn := hown.1
  obtain ⟨v', w', hrun, r1, r2, r3⟩ := run_append_own (P := P) w base t ty e i z K bytes E.und hi hz h4 h5 E.many E.pos v n xs hown ad 1 c us (by omega) hu h1 hm hl hbase
  rcases hown.2 with ⟨rfl, hn0⟩ | ⟨g0, cap, cur, rfl, k1, k2, k3, k4, k5, k6⟩
  · subst hn0
    have hxs : xs = [] := List.eq_nil_of_length_eq_zero (by omega)
    subst hxs
    have hr := run_append_nil (P := P) w t ty e i z E.und hi hz ad 1 c us (by rw [h4]; omega) hu (by omega) (by omega) (by rw [h5]; simp at hl; omega)
    rw [hr] at hrun
    injection hrun with e1 e2
    refine ⟨v', w', by rw [hr, e1, e2], r1, r2, ?_, ?_⟩
    · intro g hg
      subst e1
      simp [Value.ownBlock] at hg
      exact .inr (by omega)
    · intro p _ hp hpz g hg j c' hc'
      subst e1
      subst e2
      simp [Value.ownBlock] at hg
      subst hg
      have hm' := cell_mem (heap_alloc_new w.drew _) hc'
      simp only [List.mem_toArray, Array.mem_append] at hm'
      rcases hm' with hm' | hm'
      · exact hp _ hm'
      · exact hpz _ (mem_zeroCells hm')
  · by_cases hroom : n + 1 ≤ cap
    · have hr := run_append_room (P := P) w t ty e i E.und hi g0 n cap cur k2 ad 1 c us (by rw [h4]; omega) hu h1 hroom (by rw [h4]; have h9 := Nat.mul_le_mul_right K hroom; rw [Nat.add_mul] at h9; omega)
      rw [hr] at hrun
      injection hrun with e1 e2
      refine ⟨v', w', by rw [hr, e1, e2], r1, r2, ?_, ?_⟩
      · intro g hg
        subst e1
        exact .inl hg
      · intro p ha hp hpz g hg j c' hc'
        subst e1
        subst e2
        simp [Value.ownBlock] at hg
        subst hg
        have hm' := cell_mem (setRow_heap w g0 cur _ e _ k2) hc'
        have old : ∀ c'' ∈ cur.toList, p c'' := by
          intro c'' hc''
          obtain ⟨j', hj', rfl⟩ := List.mem_iff_getElem.1 hc''
          refine ha g0 rfl j' _ ?_
          unfold World.cell?
          simp [k2]
        simp only [List.mem_toArray, List.mem_append] at hm'
        rcases hm' with (hm' | hm') | hm'
        · exact old _ (List.mem_of_mem_take hm')
        · exact hp _ hm'
        · exact old _ (List.mem_of_mem_drop hm')
    · have hr := run_append_grow (P := P) w t ty e i z E.und hi hz ⟨g0, 0, none⟩ n cap xs (by rw [h4]; omega) (World.ownsRow.cells hown (g := g0) rfl) ad 1 c us (by rw [h4]; omega) hu (by omega) (by simp only [maxLen] at hm; omega) (growslice_fits (by omega) (by rw [h5]; exact hl))
      rw [hr] at hrun
      injection hrun with e1 e2
      refine ⟨v', w', by rw [hr, e1, e2], r1, r2, ?_, ?_⟩
      · intro g hg
        subst e1
        simp [Value.ownBlock] at hg
        exact .inr (by omega)
      · intro p ha hp hpz g hg j c' hc'
        subst e1
        subst e2
        simp [Value.ownBlock] at hg
        subst hg
        have hm' := cell_mem (heap_alloc_new w.drew _) hc'
        have old : ∀ c'' ∈ cur.toList, p c'' := by
          intro c'' hc''
          obtain ⟨j', hj', rfl⟩ := List.mem_iff_getElem.1 hc''
          refine ha g0 rfl j' _ ?_
          unfold World.cell?
          simp [k2]
        simp only [List.mem_toArray, Array.mem_append, List.mem_append] at hm'
        rcases hm' with (hm' | hm') | hm'
        · exact old _ (by rw [← k6] at hm'; exact List.mem_of_mem_take hm')
        · exact hp _ hm'
        · exact hpz _ (mem_zeroCells hm')
end Go.Proofs.YtlmjkbdodecbmaaDoor

namespace Go.Proofs.YtlmjkbdodecbmaaDoor
open Go.RowKit
set_option linter.unusedVariables false
set_option linter.unusedSimpArgs false
theorem append1KIn {F : Fence} {m : Nat} {P : Program} {t e : TypeId} {z : Value} {K bytes : Nat} (E : ElemK P t e z K bytes) {w : World} {ops : Array Oper} {rest : List Oper} {o : Oper} {a : Act} {Q : Exit → Act → World → Prop} {s x : Operand} {us : Array Value} {base n : Nat} {v : Value} {xs : List Value}
    (hown : OwnsK K base e w v n xs) (hgd : o.guard = none) (ho : o.op = .call { callee := .builtin .append, args := #[s, x], argTypes := #[t, t] }) (hs : a.eval s = v)
    (hx : a.eval x = .slice (some ⟨w.heap.size, 0, none⟩) 1 1) (hus : us.size = K) (h1 : ∀ u ∈ us.toList, u.oneCell' = true) (hl : (n + 1) * bytes ≤ 140737488355328) (hm : n + 1 ≤ maxLen) (hbase : base ≤ w.heap.size)
    (h : ∀ v' w', OwnsK K base e w' v' (n + 1) (xs ++ us.toList) → Below base w w' → w.grownBy w' v.ownBlock → (∀ g, v'.ownBlock = some g → v.ownBlock = some g ∨ w.heap.size ≤ g) → wpListIn F m P ops Q rest (a.put o.dst v') w') :
    wpListIn F m P ops Q (o :: rest) a (w.alloc (.cells us e)) := by
  obtain ⟨v', w', hrun, r1, r2, r3, r4⟩ := run_appendK (P := P) E o.type (w := w.alloc (.cells us e)) (hown.alloc _) ⟨w.heap.size, 0, none⟩ 1 us.toList (by simp [hus]) (by
    intro j u' hj
    rw [Addr.add_lit, Nat.zero_add]
    unfold World.cell?
    rw [show (w.alloc (.cells us e)).heap[w.heap.size]? = some (.cells us e) from heap_alloc_new w _]
    simpa using hj) h1 hl hm (by simp; omega)
  refine wpListIn_plain hgd fun K' hK' => ?_
  unfold Oper.wpIn
  refine ⟨?_, ?_⟩
  · simp [Oper.about, ho, resolve, Target.leads, Sem.run_pure]
  · rw [Oper.semAt_plain F _ _ (by rw [ho]; intro c hc'; cases hc')]
    simp [execOp, ho, resolve, invoke, builtin, hs, hx, hrun, Result.andThen]
    have hg : w.grownBy w' v.ownBlock := ⟨r2.os, r2.tape, r2.output, Nat.le_trans (by simp) r2.size, fun k hk hne => (r2.block k (by simp; omega) hne).trans (Below.heap_alloc _ _ _ hk)⟩
    refine hK' _ _ (h v' w' r1 ⟨hg.os, hg.tape, hg.output, hg.size, fun k hk => hg.block k (by omega) (fun e' => ?_)⟩ hg ?_)
    · have := World.ownsRow.lt hown k e'.symm
      omega
    · intro g hg'
      rcases r3 g hg' with h2 | h2
      · exact .inl h2
      · exact .inr (by simp at h2; omega)
theorem OwnsK.block {K base : Nat} {e : TypeId} {w w' : World} {v : Value} {n : Nat} {xs : List Value} (h : OwnsK K base e w v n xs) (hb : ∀ g, v.ownBlock = some g → w'.heap[g]? = w.heap[g]?) : OwnsK K base e w' v n xs := by
  obtain ⟨h1, h2 | ⟨g, cap, cur, rfl, h3, h4, h5⟩⟩ := h
  · exact ⟨h1, .inl h2⟩
  · exact ⟨h1, .inr ⟨g, cap, cur, rfl, h3, (hb g rfl).trans h4, h5⟩⟩
theorem OwnsK.lt {K base : Nat} {e : TypeId} {w : World} {v : Value} {n : Nat} {xs : List Value} (h : OwnsK K base e w v n xs) : ∀ g, v.ownBlock = some g → base ≤ g ∧ g < w.heap.size := World.ownsRow.lt h
theorem OwnsK.keep {S : Nat → Prop} {K base : Nat} {e : TypeId} {w w' : World} {v : Value} {n : Nat} {xs : List Value} (h : OwnsK K base e w v n xs) (hk : Keep S w w') (hs : ∀ g, v.ownBlock = some g → ¬ S g) : OwnsK K base e w' v n xs :=
  h.block fun g hg => hk.same g (h.lt g hg).2 (hs g hg)
theorem OwnsK.at_cells {K base : Nat} {e : TypeId} {w : World} {v : Value} {n : Nat} {xs : List Value} (h : OwnsK K base e w v n xs) : ∀ g, v.ownBlock = some g → ∃ o : Obj, w.heap[g]? = some o ∧ o.isCells = true := by
  intro g hg
  obtain ⟨h1, ⟨rfl, _⟩ | ⟨g', cap, cur, rfl, h3, h4, h5⟩⟩ := h
  · simp [Value.ownBlock] at hg
  · simp [Value.ownBlock] at hg; subst hg; exact ⟨_, h4, rfl⟩
theorem OwnsK.ext {K B base : Nat} {e : TypeId} {w w' : World} {v : Value} {n : Nat} {xs : List Value} (h : OwnsK K base e w v n xs) (hx : Ext B w w') : OwnsK K base e w' v n xs :=
  h.block fun g hg => by
    obtain ⟨o, h1, h2⟩ := h.at_cells g hg
    rw [h1]; exact hx.cells g o h1 h2
theorem BoxL.ext {B : Nat} {w w' : World} {b : Nat} {xs : List Value} (h : BoxL w b xs) (hx : Ext B w w') (hne : 0 < xs.length) : BoxL w' b xs := by
  have h0 := h.cell 0 (xs[0]'hne) (List.getElem?_eq_getElem hne)
  have h1 : ∃ o : Obj, w.heap[b]? = some o ∧ o.isCells = true := by
    unfold World.cell? at h0
    split at h0
    · rename_i hb; exact ⟨_, hb, rfl⟩
    · cases h0
  obtain ⟨o, h2, h3⟩ := h1
  exact h.block (by rw [h2]; exact hx.cells b o h2 h3)
theorem OwnsK.slice {K base : Nat} {e : TypeId} {w : World} {v : Value} {n : Nat} {xs : List Value} (h : OwnsK K base e w v n xs) : ∃ ao cap, v = .slice ao n cap ∧ n ≤ cap ∧ cap ≤ maxLen ∧ (ao = none → cap = 0) := by
  rcases h.shape with ⟨rfl, rfl⟩ | ⟨g, cap, rfl, _, _, h4, h5, _, _⟩
  · exact ⟨_, _, rfl, Nat.le_refl _, Nat.zero_le _, fun _ => rfl⟩
  · exact ⟨_, _, rfl, h4, h5, fun h => by cases h⟩
end Go.Proofs.YtlmjkbdodecbmaaDoor

namespace Go.Proofs.YtlmjkbdodecbmaaDoor
open Go.RowKit Go.Shelf
set_option linter.unusedVariables false
set_option linter.unusedSimpArgs false
attribute [local go_sem] Oper.semAt_some field_nat
/-- Blocks that stay as they are. -/
def KeepQ (P : Nat → Prop) (A C : World) : Prop := ∀ k, P k → k < A.heap.size → C.heap[k]? = A.heap[k]?
theorem KeepQ.trans {P : Nat → Prop} {A C D : World} (h : KeepQ P A C) (h' : KeepQ P C D) : KeepQ P A D := fun k hk hlt => by
  have e := h k hk hlt
  have hlt2 : k < C.heap.size := by
    rcases Nat.lt_or_ge k C.heap.size with h9 | h9
    · exact h9
    · rw [Array.getElem?_eq_none h9, Array.getElem?_eq_getElem hlt] at e; cases e
  exact (h' k hk hlt2).trans e
theorem KeepQ.ext {P : Nat → Prop} {B : Nat} {A C : World} (hP : ∀ k, P k → k < B) (h : Ext B A C) : KeepQ P A C := fun k hk hlt => h.low k (hP k hk) hlt
abbrev backPF : Nat := 60
/-- A predicate as a value. -/
abbrev predV (p : PT) (vo : Option Addr) (vc : Nat) (ko : Option Addr) (kc : Nat) : Value := .agg #[.int .i64 p.op, .int .i64 p.fld, .slice vo p.vals.length vc, .slice ko p.kids.length kc]
def BkEnc (B : Nat) (W : World) (v : Array Value) (x : PT) : Prop := ∃ (i : Int) (vo : Option Addr) (vc : Nat) (ko : Option Addr) (kc : Nat), v = #[.int .i64 i, predV x vo vc ko kc] ∧ PtIs B W x vo vc ko kc
theorem enters_backP : ∀ args w, (callFunc backPF args).run Tryd.prog w = .ok (.enter backPF args) w := enters_of Tryd.func60 (by kernel_rfl) rfl
theorem backP_any (ao : Option Addr) (n cap : Nat) (w : World) : Calls Tryd.prog 34 #[.slice ao n cap] w fun e w' => e = .returned (.func (.func backPF) #[] #[.pointer (some ⟨w.heap.size, 0, none⟩)]) ∧ w' = w.alloc (.cells #[.slice ao n cap] 23) := by
  go_enter Tryd.func34, Tryd.ntmps34
  go_wp2_with fail
  go_ret
  exact ⟨rfl, rfl⟩
theorem drop_revP {α : Type} {l : List α} {i : Nat} (h : i < l.length) : (l.drop i).reverse = (l.drop (i + 1)).reverse ++ [l[i]'h] := by
  rw [List.drop_eq_getElem_cons h, List.reverse_cons]
theorem rev_prefixP {α : Type} (l : List α) (i : Nat) : (l.drop i).reverse <+: l.reverse := by
  refine ⟨(l.take i).reverse, ?_⟩
  rw [← List.reverse_append, List.take_append_drop]
set_option maxRecDepth 100000 in
set_option maxHeartbeats 4000000 in
theorem backP_iter (B : Nat) (p : PT) (vo : Option Addr) (vc : Nat) (ko : Option Addr) (kc : Nat) (bs B2 : Nat) (w : World) (hP : PtIs B w p vo vc ko kc) (hBw : B ≤ w.heap.size) (hcs : w.cell? ⟨bs, 0, none⟩ = some (.slice ko p.kids.length kc)) :
    IterA Tryd.prog backPF #[.pointer (some ⟨bs, 0, none⟩)] (BkEnc B) p.kids.reverse B2 (KeepQ fun k => k < B ∨ k = bs) w := by
  intro l9 J Jx S0 W1 hW1 hS0 hJ hJx hY h0
  have hc1 := (hW1.cell (p := ⟨bs, 0, none⟩) (World.block_lt_of_cell? w ⟨bs, 0, none⟩ hcs)).trans hcs
  have hlbs := World.block_lt_of_cell? W1 ⟨bs, 0, none⟩ hc1
  replace hP := hP.low (Low.of_below hW1 hBw)
  have hBw1 : B ≤ W1.heap.size := Nat.le_trans hBw hW1.size
  have hkl := Nat.le_trans hP.kcap.1 hP.kcap.2
  obtain ⟨ks, hks⟩ : ∃ ks, ks = p.kids := ⟨_, rfl⟩
  rw [← hks] at hc1 hkl hY ⊢
  have HKS := Lib.hid hks
  clear hcs hks
  refine callsIn_of_wp Tryd.func60 rfl (by trivial) ?_ rfl
  simp only [IterArgs, Tryd.ntmps60, List.size_toArray, List.length_cons, List.length_nil, Nat.reduceAdd, Nat.reduceSub, Array.replicate_succ, Array.replicate_zero, List.push_toArray, List.append_toArray, List.nil_append, List.cons_append]
  gi_wp2_with fail
  gi_loopg [3] ks.length (fun g iv wr => ∃ (j : Int) (S : Nat → Prop), iv = .int .i64 j ∧ j + 1 = (g : Int) ∧ g ≤ ks.length ∧ J (ks.drop g).reverse S wr ∧ Top S wr ∧ Foot S0 S W1 wr ∧ KeepQ (fun k => k < B ∨ k = bs) W1 wr)
  case atStart => exact ⟨(ks.length : Int) - 1, S0, by go_num, by omega, Nat.le_refl _, by rw [List.drop_of_length_le (Nat.le_refl _)]; exact h0, fun k hk => (hS0 k hk).2, Foot.refl _ _, fun _ _ _ => rfl⟩
  case round =>
    obtain ⟨j, S, rfl, hj, hgl, hJs, hT, hF, hK⟩ := hrel
    have hsk : wr.heap[bs]? = W1.heap[bs]? := hK bs (.inr rfl) hlbs
    have es := (World.cell?_of_block (a := ⟨bs, 0, none⟩) hsk).trans hc1
    rcases Nat.eq_zero_or_pos gk with hz | hz
    · subst hz
      obtain rfl : j = -1 := by omega
      rw [List.drop_zero] at hJs
      gi_wp2_with fail
      (try simp only [Exit.inBlock, Exit.then])
      refine bodyPost_end (results_none rfl _ _ _) rfl ?_
      exact ⟨⟨_, rfl⟩, .inl ⟨S, hJs, hF⟩⟩
    · obtain ⟨i, rfl⟩ : ∃ i, gk = i + 1 := ⟨gk - 1, by omega⟩
      obtain rfl : j = (i : Int) := by omega
      have hil : i < ks.length := by omega
      have hlow : Low B W1 wr := fun k hk => hK k (.inl hk) (by omega)
      have hPr := hP.low hlow
      have HD := Lib.hid (drop_revP hil)
      have HPX := Lib.hid (rev_prefixP ks i)
      obtain ⟨x, hx⟩ : ∃ x, x = ks[i]'hil := ⟨_, rfl⟩
      have hxi : p.kids[i]? = some x := by rw [← HKS.out, List.getElem?_eq_getElem hil, hx]
      obtain ⟨g, off, rfl, hgB, kvo, kvc, kko, kkc, hX, hA⟩ := hPr.kid hxi
      rw [← hx] at HD
      obtain ⟨e0, e1, e2, e3⟩ := hA
      clear hx hxi hsk hPr
      have q1 : (i : Int) < (ks.length : Int) := by omega
      have q2 : (0 : Int) ≤ (i : Int) := by omega
      obtain ⟨fn, tmps, assign, body, hy, hR⟩ := hY (ks.drop (i + 1)).reverse x #[.int .i64 (i : Int), predV x kvo kvc kko kkc] S wr hJs ⟨_, _, _, _, _, rfl, hX⟩ (by rw [← HD.out]; exact HPX.out)
      have HR := Lib.hid hR
      clear hR hX
      dsimp only [predV] at hy
      generalize x.op = xo at *
      generalize x.fld = xf at *
      generalize x.vals.length = xv at *
      generalize x.kids.length = xk at *
      replace hy : (Instr.yield l9 #[.int .i64 (i : Int), .agg #[.int .i64 xo, .int .i64 xf, .slice kvo xv kvc, .slice kko xk kkc]]).run Tryd.prog wr = _ := hy
      gi_wp2_with fail
      refine ⟨rfl, HR.out.mono ?_⟩
      rintro e W3 (⟨rfl, S3, hJ3, hF3, hT3, hK3⟩ | ⟨rfl, S3, hJ3, hF3⟩)
      · clear e0 e1 e2 e3 es
        gi_wp2
        gi_roundg i
        case measure => omega
        case rel => exact ⟨(i : Int) - 1, S3, by go_num, by omega, by omega, by rw [HD.out]; exact hJ3, hT3, hF.trans hF3, hK.trans hK3⟩
      · clear e0 e1 e2 e3 es
        gi_wp2
        (try simp only [Exit.inBlock, Exit.then])
        refine bodyPost_ret (results_none rfl _ _ _) rfl ?_
        exact ⟨⟨_, rfl⟩, .inr ⟨_, S3, by rw [← HD.out]; exact HPX.out, hJ3, hF.trans hF3⟩⟩
/-- Marks of ranges that are done. -/
def Marks (D0 : Nat) (S : Nat → Prop) (W : World) (ds : List Deferred) : Prop := ∃ l : List Nat, ds = l.map (fun D => { target := .collected D, args := #[] }) ∧ l.Nodup ∧ ∀ D ∈ l, D0 ≤ D ∧ ¬ S D ∧ W.heap[D]? = some (.deferred (some []))
theorem Marks.nil (D0 : Nat) (S : Nat → Prop) (W : World) : Marks D0 S W [] := ⟨[], rfl, by simp, by simp⟩
theorem Marks.cons {D0 D : Nat} {S : Nat → Prop} {W : World} {ds : List Deferred} (h : Marks D0 S W ds) (hD : D0 ≤ D) (hS : ¬ S D) (hd : W.heap[D]? = some (.deferred (some []))) (hn : ∀ l : List Nat, ds = l.map (fun D => { target := .collected D, args := #[] }) → D ∉ l) : Marks D0 S W ({ target := .collected D, args := #[] } :: ds) := by
  obtain ⟨l, rfl, h1, h2⟩ := h
  refine ⟨D :: l, rfl, List.nodup_cons.2 ⟨hn l rfl, h1⟩, fun k hk => ?_⟩
  rcases List.mem_cons.1 hk with rfl | hk
  · exact ⟨hD, hS, hd⟩
  · exact h2 k hk
/-- What turns no mark. -/
theorem Marks.keep {D0 : Nat} {S S' : Nat → Prop} {W W' : World} {ds : List Deferred} (h : Marks D0 S W ds) (hs : ∀ k, k < W.heap.size → S' k → S k) (hk : ∀ k, W.heap[k]? = some (.deferred (some [])) → D0 ≤ k → ¬ S k → W'.heap[k]? = W.heap[k]?) : Marks D0 S' W' ds := by
  obtain ⟨l, rfl, h1, h2⟩ := h
  refine ⟨l, rfl, h1, fun D hD => ?_⟩
  obtain ⟨a, b, c⟩ := h2 D hD
  exact ⟨a, fun h => b (hs D (Array.getElem?_eq_some_iff.1 c).1 h), (hk D c a b).trans c⟩
theorem Marks.out {D0 : Nat} {S : Nat → Prop} {W : World} {ds : List Deferred} (h : Marks D0 S W ds) {D : Nat} (hD : W.heap.size ≤ D) : ∀ l : List Nat, ds = l.map (fun D => { target := .collected D, args := #[] }) → D ∉ l := by
  obtain ⟨l, rfl, h1, h2⟩ := h
  intro l' e hm
  have e2 : l = l' := by
    have := congrArg (List.map (fun d : Deferred => match d.target with | .collected D => D | _ => 0)) e
    simpa [List.map_map, Function.comp_def] using this
  subst e2
  have := (Array.getElem?_eq_some_iff.1 (h2 D hm).2.2).1
  omega
/-- A function without results leaves over its marks. -/
theorem leaves_marks {F : Fence} {n : Nat} {P : Program} {fn : Func} {tmps : Array Value} {R : Ending → World → Prop} (hres : fn.results = #[]) {D0 : Nat} {S : Nat → Prop} : ∀ (ds : List Deferred) (W : World), Marks D0 S W ds → (∀ W', Oth D0 S W W' → R (.returned (.tuple #[])) W') → LeavesInM F n P fn tmps R ds .returning W := by
  intro ds
  induction ds with
  | nil => intro W _ h; exact ⟨_, results_none hres _ _ _, h W (Oth.refl _ _ _)⟩
  | cons d ds ih =>
    intro W hm h
    obtain ⟨l, e, h1, h2⟩ := hm
    cases l with
    | nil => simp at e
    | cons D l =>
      rw [List.map_cons] at e
      injection e with e1 e2
      subst e1
      obtain ⟨a, b, c⟩ := h2 D (by simp)
      refine ⟨by simp, .inl ⟨D, _, rfl, run_takeDeferred c, ih _ ⟨l, e2, (List.nodup_cons.1 h1).2, fun k hk => ?_⟩ fun W' hW' => h W' ((Oth.put _ a b).trans hW')⟩⟩
      obtain ⟨a', b', c'⟩ := h2 k (by simp [hk])
      exact ⟨a', b', (World.putObj_heap_other (fun e => (List.nodup_cons.1 h1).1 (by rw [← e]; exact hk))).trans c'⟩
theorem logicWalk_any (op fld : Int) (vo : Option Addr) (vl vc : Nat) (ko : Option Addr) (kl kc : Nat) (w : World) : Calls Tryd.prog 10 #[.agg #[.int .i64 op, .int .i64 fld, .slice vo vl vc, .slice ko kl kc]] w fun e w' => e = .returned (.func (.func 33) #[] #[.pointer (some ⟨w.heap.size, 0, none⟩)]) ∧ w' = w.alloc (.cells #[.int .i64 op, .int .i64 fld, .slice vo vl vc, .slice ko kl kc] 25) := by
  go_enter Tryd.func10, Tryd.ntmps10
  go_wp2_with fail
  go_ret
  exact ⟨rfl, rfl⟩
end Go.Proofs.YtlmjkbdodecbmaaDoor

namespace Go.Proofs.YtlmjkbdodecbmaaDoor
open Go.ChangeShapes Go.WideShapes Go.ChangeAt Go.RowKit
set_option linter.unusedVariables false
set_option linter.unusedSimpArgs false
/-- A list of ints in memory. -/
def IntsI (k : IntKind) (w : World) (v : Value) (ns : List Int) : Prop :=
  ∃ ao cap, v = .slice ao ns.length cap ∧ ns.length ≤ cap ∧ cap ≤ maxLen ∧ (ns = [] ∨ ∃ b off, ao = some ⟨b, off, none⟩ ∧ b < w.heap.size ∧ ∀ i, i < ns.length → w.cell? ⟨b, off + i, none⟩ = some (.int k (ns[i]?.getD 0)))
theorem IntsI.below {k : IntKind} {w w' : World} {v : Value} {ns : List Int} (h : IntsI k w v ns) (hb : Below w.heap.size w w') : IntsI k w' v ns := by
  obtain ⟨ao, cap, h1, h2, h3, h4⟩ := h
  refine ⟨ao, cap, h1, h2, h3, ?_⟩
  rcases h4 with h4 | ⟨b, off, h5, h6, h7⟩
  · exact .inl h4
  · exact .inr ⟨b, off, h5, Nat.lt_of_lt_of_le h6 hb.size, fun i hi => (hb.cell (p := ⟨b, off + i, none⟩) h6).trans (h7 i hi)⟩
/-- A list of ints that came in: a nil one has no room. -/
def IntsN (k : IntKind) (w : World) (v : Value) (ns : List Int) : Prop := IntsI k w v ns ∧ ∀ l c, v = .slice none l c → c = 0
theorem IntsN.below {k : IntKind} {w w' : World} {v : Value} {ns : List Int} (h : IntsN k w v ns) (hb : Below w.heap.size w w') : IntsN k w' v ns := ⟨h.1.below hb, h.2⟩
/-- A list of the call's own with a mark behind it. -/
structure LentI (k : IntKind) (mark : Int) (B : Nat) (W : World) (v : Value) (ns : List Int) : Prop where
  row : ∃ g cap, v = .slice (some ⟨g, 0, none⟩) ns.length cap ∧ B ≤ g ∧ g < W.heap.size ∧ ns.length + 1 ≤ cap ∧ cap ≤ maxLen ∧ (∀ i, i < ns.length → W.cell? ⟨g, i, none⟩ = some (.int k (ns[i]?.getD 0))) ∧ W.cell? ⟨g, ns.length, none⟩ = some (.int k mark)
theorem LentI.below {k : IntKind} {mark : Int} {B : Nat} {w w' : World} {v : Value} {ns : List Int} (h : LentI k mark B w v ns) (hb : Below w.heap.size w w') : LentI k mark B w' v ns := by
  obtain ⟨g, cap, h1, h2, h3, h4, h5, h6, h7⟩ := h.row
  exact ⟨g, cap, h1, h2, Nat.lt_of_lt_of_le h3 hb.size, h4, h5, fun i hi => (hb.cell (p := ⟨g, i, none⟩) h3).trans (h6 i hi), (hb.cell (p := ⟨g, ns.length, none⟩) h3).trans h7⟩
theorem LentI.ints {k : IntKind} {mark : Int} {B : Nat} {w : World} {v : Value} {ns : List Int} (h : LentI k mark B w v ns) : IntsI k w v ns := by
  obtain ⟨g, cap, h1, h2, h3, h4, h5, h6, h7⟩ := h.row
  exact ⟨some ⟨g, 0, none⟩, cap, h1, by omega, h5, .inr ⟨g, 0, rfl, h3, fun i hi => by rw [Nat.zero_add]; exact h6 i hi⟩⟩
set_option maxRecDepth 100000 in
set_option maxHeartbeats 1000000 in
/-- SameInts, of one list twice. -/
theorem same_ints (va vb : Value) (ns : List Int) (w : World) (ha : IntsI .i64 w va ns) (hb : IntsI .i64 w vb ns) :
    Calls Tryd.prog 12 #[va, vb] w fun e w' => e = .returned (.bool true) ∧ Below w.heap.size w w' := by
  obtain ⟨ao, ca, rfl, ha1, ha2, ha3⟩ := ha
  obtain ⟨bo, cb, rfl, hb1, hb2, hb3⟩ := hb
  unfold maxLen at ha2 hb2
  go_enter Tryd.func12, Tryd.ntmps12
  go_wp2_with fail
  go_loopg [5] ns.length (fun gg iv wr => ∃ i : Nat, i + gg = ns.length ∧ iv = .int .i64 (i : Int) ∧ Below w.heap.size w wr)
  case atStart => exact ⟨0, by omega, rfl, Below.refl _ _⟩
  case round =>
    obtain ⟨i, hi, rfl, hbr⟩ := hrel
    by_cases hil : i < ns.length
    · rcases ha3 with h | ⟨ga, oa, rfl, hga, hca⟩
      · rw [h] at hil; simp at hil
      rcases hb3 with h | ⟨gb, ob, rfl, hgb, hcb⟩
      · rw [h] at hil; simp at hil
      have ea := (hbr.cell (p := ⟨ga, oa + i, none⟩) hga).trans (hca i hil)
      have eb := (hbr.cell (p := ⟨gb, ob + i, none⟩) hgb).trans (hcb i hil)
      clear hca hcb
      generalize ns[i]?.getD 0 = s at *
      have hss : (s == s) = true := beq_self_eq_true _
      have q1 : (i : Int) < (ns.length : Int) := by omega
      have q2 : (0 : Int) ≤ (i : Int) := by omega
      go_wp2_with fail
      go_quiet (fail)
      go_wp2_with fail
      go_roundg (gk - 1)
      case measure => omega
      case rel => exact ⟨i + 1, by omega, by first | rfl | go_num, ⟨hbr.os, hbr.tape, hbr.output, hbr.size, hbr.block⟩⟩
    · have q1 : ¬ (i : Int) < (ns.length : Int) := by omega
      go_wp2_with fail
      go_ret
      exact ⟨rfl, hbr⟩
end Go.Proofs.YtlmjkbdodecbmaaDoor
