/-
  A loop over an iterator that counts its rounds in a cell that lay before (block pn): RangeN's law, turned to it.
-/
import Derived.Test.YtieffhkfefimeaaGreatDoorRangeN
namespace Go.Proofs.YtieffhkfefimeaaGreatDoor
open Go.RowKit
set_option linter.unusedVariables false
set_option linter.unusedSimpArgs false

/-- The block holds an int. -/
def IntAt (W : World) (k : Nat) : Prop := ∃ (n : Int) (t : TypeId), W.heap[k]? = some (.cells #[.int .i64 n] t)
structure BelowX (pn B : Nat) (w w' : World) : Prop where
  os : w'.os = w.os
  tape : w'.tape = w.tape
  output : w'.output = w.output
  size : w.heap.size ≤ w'.heap.size
  block : ∀ k, k < B → k ≠ pn → w'.heap[k]? = w.heap[k]?
  own : IntAt w pn → IntAt w' pn
theorem BelowX.of {pn : Nat} {w w' : World} (h : Below w.heap.size w w') : BelowX pn w.heap.size w w' :=
  ⟨h.os, h.tape, h.output, h.size, fun k hk _ => h.block k hk, fun ⟨n, t, hn⟩ => ⟨n, t, (h.block pn (Array.getElem?_eq_some_iff.1 hn).1).trans hn⟩⟩
theorem BelowX.set {pn : Nat} {w : World} (n : Int) : BelowX pn w.heap.size w (w.setCell ⟨pn, 0, none⟩ (.int .i64 n)) :=
  ⟨rfl, rfl, rfl, by simp [World.setCell], fun k hk hne => Below.heap_setCell _ _ _ _ (fun e => hne e), fun ⟨m, t, hm⟩ => ⟨n, t, by simp [World.setCell, Array.getElem?_modify, hm]⟩⟩
theorem BelowX.trans {pn : Nat} {A C D : World} (h : BelowX pn A.heap.size A C) (h' : BelowX pn C.heap.size C D) : BelowX pn A.heap.size A D :=
  ⟨h'.os.trans h.os, h'.tape.trans h.tape, h'.output.trans h.output, Nat.le_trans h.size h'.size, fun k hk hne => (h'.block k (Nat.lt_of_lt_of_le hk h.size) hne).trans (h.block k hk hne), fun hn => h'.own (h.own hn)⟩
/-- All rows of cells but the count, and all that lies below B but it, are as they were. -/
structure ExtX (pn B : Nat) (W W' : World) : Prop where
  os : W'.os = W.os
  tape : W'.tape = W.tape
  output : W'.output = W.output
  size : W.heap.size ≤ W'.heap.size
  low : ∀ k, k < B → k < W.heap.size → k ≠ pn → W'.heap[k]? = W.heap[k]?
  cells : ∀ (k : Nat) (o : Obj), k ≠ pn → W.heap[k]? = some o → o.isCells = true → W'.heap[k]? = some o
  own : IntAt W pn → IntAt W' pn
theorem ExtX.of_belowX {pn B : Nat} {W W' : World} (h : BelowX pn W.heap.size W W') : ExtX pn B W W' :=
  ⟨h.os, h.tape, h.output, h.size, fun k _ hk hne => h.block k hk hne, fun k o hne ho _ => (h.block k (Array.getElem?_eq_some_iff.1 ho).1 hne).trans ho, h.own⟩
theorem ExtX.of_below {pn B : Nat} {W W' : World} (h : Below W.heap.size W W') : ExtX pn B W W' := ExtX.of_belowX (BelowX.of h)
theorem ExtX.of_ext {pn B : Nat} {W W' : World} (h : Ext B W W') : ExtX pn B W W' :=
  ⟨h.os, h.tape, h.output, h.size, fun k h1 h2 _ => h.low k h1 h2, fun k o _ h1 h2 => h.cells k o h1 h2, fun ⟨n, t, hn⟩ => ⟨n, t, h.cells _ _ hn rfl⟩⟩
theorem ExtX.put {pn B : Nat} {W : World} {l : Nat} {o o' : Obj} (hl : B ≤ l) (ho : W.heap[l]? = some o) (hc : o.isCells = false) : ExtX pn B W (W.putObj l o') := ExtX.of_ext (Ext.put hl ho hc)
theorem ExtX.trans {pn B : Nat} {A C D : World} (h : ExtX pn B A C) (h' : ExtX pn B C D) : ExtX pn B A D :=
  ⟨h'.os.trans h.os, h'.tape.trans h.tape, h'.output.trans h.output, Nat.le_trans h.size h'.size, fun k hk h1 hne => (h'.low k hk (Nat.lt_of_lt_of_le h1 h.size) hne).trans (h.low k hk h1 hne), fun k o hne h1 h2 => h'.cells k o hne (h.cells k o hne h1 h2) h2, fun hn => h'.own (h.own hn)⟩

/-- What abides all that turns no cells. -/
def StabX (pn : Nat) {α : Type} (B : Nat) (J : List α → (Nat → Prop) → World → Prop) : Prop := ∀ pre S W W', J pre S W → ExtX pn B W W' → J pre S W'

/-- THE CONTRACT OF AN ITERATOR VALUE, called in a world that goes on from w: it tells the elements of xs one by one (Enc: how a value reads as an element), till a round says no more. B: the body's own blocks lie from there on. -/
def IterX (pn : Nat) (c0 : Int) {α : Type} (P : Program) (gf : Nat) (lb : Array Value) (Enc : World → Value → α → Prop) (xs : List α) (B : Nat) (Kp : World → World → Prop) (w : World) : Prop :=
  ∀ (l : Nat) (J Jx : List α → (Nat → Prop) → World → Prop) (S0 : Nat → Prop) (W1 : World), Below w.heap.size w W1 → (∀ k, S0 k → B ≤ k ∧ k < W1.heap.size) →
    (∀ pre S W W', J pre S W → BelowX pn W.heap.size W W' → J pre S W') → (∀ pre S W W', Jx pre S W → BelowX pn W.heap.size W W' → Jx pre S W') →
    (∀ pre x v S W, J pre S W → Enc W v x → pre ++ [x] <+: xs → YieldAt Fence.wide 0 P l #[v] W fun e W' =>
      (e = .returned (.bool true) ∧ ∃ S', J (pre ++ [x]) S' W' ∧ Foot S S' W W' ∧ Top S' W' ∧ Kp W W') ∨ (e = .returned (.bool false) ∧ ∃ S', Jx (pre ++ [x]) S' W' ∧ Foot S S' W W')) →
    J [] S0 W1 → W1.cell? ⟨pn, 0, none⟩ = some (.int .i64 c0) → IntAt W1 pn →
    CallsIn Fence.wide 0 P gf (IterArgs l lb) W1 fun e W' => (∃ v, e = .returned v) ∧ ((∃ S', J xs S' W' ∧ W'.cell? ⟨pn, 0, none⟩ = some (.int .i64 (c0 + (xs.length : Int)))) ∨ (∃ pre S', pre <+: xs ∧ Jx pre S' W'))

theorem wp_rangeX {α : Type} {P : Program} {g : Operand} {ps : Array Tmp} {assign body : Code} {Q : Exit → Act → World → Prop} {a : Act} {w : World}
    {gf : Nat} {lb : Array Value} (hg : a.eval g = .func (.func gf) #[] lb) (eg : ∀ args w, (callFunc gf args).run P w = .ok (.enter gf args) w)
    {Enc : World → Value → α → Prop} {xs : List α} {B pn : Nat} {c0 : Int} {Kp : World → World → Prop} (hit : IterX pn c0 P gf lb Enc xs B Kp w) (hKt : ∀ A C D, Kp A C → Kp C D → Kp A D) (hKe : ∀ A C, ExtX pn w.heap.size A C → Kp A C) (hps : ps.size = 1) (hB : B ≤ w.heap.size) (hpn : pn < B) (hc0 : w.cell? ⟨pn, 0, none⟩ = some (.int .i64 c0)) (hn0 : IntAt w pn)
    (I : List α → (Nat → Prop) → World → Prop) (Ix : Code → List α → (Nat → Prop) → World → Prop) (hI : StabX pn w.heap.size I) (hIx : ∀ c, StabX pn w.heap.size (Ix c))
    (S0 : Nat → Prop) (hS0 : ∀ k, S0 k → B ≤ k ∧ k < w.heap.size) (h0 : I [] S0 w) (Ax : α → Act → World → Prop) (hAx : ∀ x a' W W', Ax x a' W → ExtX pn w.heap.size W W' → Ax x a' W')
    (hassign : ∀ (l : Nat) (pre : List α) (x : α) (v : Value) (S : Nat → Prop) (W : World) (K : Act → World → Prop), I pre S W → Enc W v x → pre ++ [x] <+: xs →
      (∀ a' W', Below W.heap.size W W' → I pre S W' → Ax x a' W' → K a' W') →
      assign.wpIn (Fence.wide.inRound l) 0 P (Exit.then K (fun _ _ _ => False)) { tmps := (ps.zip #[v]).foldl (fun t (p, v) => t.setIfInBounds p v) a.tmps, defers := [] } W)
    (hbody : ∀ (l : Nat) (pre : List α) (x : α) (a' : Act) (S : Nat → Prop) (W : World), I pre S W → Ax x a' W → pre ++ [x] <+: xs → (∀ k, S k → B ≤ k ∧ k < W.heap.size) → body.wpIn (Fence.wide.inRound l) 0 P (postS Kp I Ix (pre ++ [x]) S W) a' W)
    (hdone : ∀ (D : Nat) (S : Nat → Prop) (W : World), w.heap.size ≤ D → I xs S W → W.cell? ⟨pn, 0, none⟩ = some (.int .i64 (c0 + (xs.length : Int))) → W.heap[D]? = some (.deferred (some [])) → Q .normal { a with defers := { target := .collected D, args := #[] } :: a.defers } W)
    (hstop : ∀ (D : Nat) (c : Code) (pre : List α) (S : Nat → Prop) (W : World), w.heap.size ≤ D → pre <+: xs → Ix c pre S W → W.heap[D]? = some (.deferred (some [])) → c.wpIn Fence.wide 0 P Q { a with defers := { target := .collected D, args := #[] } :: a.defers } W) :
    (Code.rangeFunc g ps assign body).wpIn Fence.wide 0 P Q a w := by
  refine wpIn_rangeFunc ?_
  intro fn hfn
  obtain ⟨rec, hrec⟩ : ∃ rec : LoopState → Option Code → Loop, rec = fun st pe => { state := st, pending := pe, fn, tmps := a.tmps, params := ps, assign, body, defers := w.heap.size } := ⟨_, rfl⟩
  obtain ⟨W1, hW1⟩ : ∃ W1, (w.alloc (.deferred (some []))).alloc (.loop (rec .ready none)) = W1 := ⟨_, rfl⟩
  have hL1 : W1.heap[w.heap.size + 1]? = some (.loop (rec .ready none)) := by
    rw [← hW1]; have := World.alloc_heap_new (w.alloc (.deferred (some []))) (.loop (rec .ready none)); rwa [World.size_alloc] at this
  have hK1 : W1.heap[w.heap.size]? = some (.deferred (some [])) := by
    rw [← hW1]; exact (Below.heap_alloc _ _ _ (by simp)).trans (World.alloc_heap_new w _)
  have hb1 : Below w.heap.size w W1 := by
    rw [← hW1]; exact ((Below.refl _ w).alloc (Nat.le_refl _) _).alloc (by simp) _
  have hI1 : I [] S0 W1 := hI _ _ _ _ h0 (ExtX.of_below hb1)
  refine ⟨w.heap.size + 1, [{ target := .collected w.heap.size, args := #[] }], W1, { target := .fn (.func gf) lb, args := #[.func (.yield (w.heap.size + 1)) #[] #[]] }, W1, gf,
    #[.func (.yield (w.heap.size + 1)) #[] #[]] ++ lb, W1, ?_, ?_, ?_, ?_, fun h => by simp [Fence.wide] at h, ?_⟩
  · rw [← hW1, hrec]; exact run_enterLoop_outer _ _ _ _ _
  · simp only [resolve, hg]
    simp [go_sem]
  · intro f' hf'; trivial
  · simp [invoke, go_sem, eg]
  · refine (hit (w.heap.size + 1)
      (fun pre T W => ∃ S, (T = fun k => S k ∨ k = w.heap.size + 1) ∧ I pre S W ∧ (∀ k, S k → B ≤ k ∧ k < W.heap.size) ∧ ¬ S w.heap.size ∧ ¬ S (w.heap.size + 1) ∧ W.heap[w.heap.size + 1]? = some (.loop (rec .ready none)) ∧ W.heap[w.heap.size]? = some (.deferred (some [])))
      (fun pre T W => ∃ S c, Ix c pre S W ∧ W.heap[w.heap.size + 1]? = some (.loop (rec .done (some c))) ∧ W.heap[w.heap.size]? = some (.deferred (some [])))
      (fun k => S0 k ∨ k = w.heap.size + 1) W1 hb1 (fun k hk => by
        have hlt1 := (Array.getElem?_eq_some_iff.1 hL1).1
        rcases hk with h | h
        · have := hS0 k h; omega
        · omega) ?_ ?_ ?_ ⟨S0, rfl, hI1, fun k h => ⟨(hS0 k h).1, by have := (hS0 k h).2; have := hb1.size; omega⟩, fun h => by have := (hS0 _ h).2; omega, fun h => by have := (hS0 _ h).2; omega, hL1, hK1⟩ ((hb1.cell (p := ⟨pn, 0, none⟩) (by show pn < _; omega)).trans hc0) (by obtain ⟨n, t, hn⟩ := hn0; exact ⟨n, t, (hb1.block pn (by omega)).trans hn⟩)).mono ?_
    · rintro pre T W W' ⟨S, rfl, hi, h1, h2, h3, hl, hk⟩ hb
      exact ⟨S, rfl, hI _ _ _ _ hi (ExtX.of_belowX hb), fun k hk => ⟨(h1 k hk).1, Nat.lt_of_lt_of_le (h1 k hk).2 hb.size⟩, h2, h3, (hb.block _ (Array.getElem?_eq_some_iff.1 hl).1 (by omega)).trans hl, (hb.block _ (Array.getElem?_eq_some_iff.1 hk).1 (by omega)).trans hk⟩
    · rintro pre T W W' ⟨S, c, hi, hl, hk⟩ hb
      exact ⟨S, c, hIx c _ _ _ _ hi (ExtX.of_belowX hb), (hb.block _ (Array.getElem?_eq_some_iff.1 hl).1 (by omega)).trans hl, (hb.block _ (Array.getElem?_eq_some_iff.1 hk).1 (by omega)).trans hk⟩
    · -- ONE ROUND
      rintro pre x v T W ⟨S, rfl, hi, hSB, hSD, hSl, hl, hk⟩ henc hpre
      have hlt : w.heap.size + 1 < W.heap.size := (Array.getElem?_eq_some_iff.1 hl).1
      have hy := run_yield (P := P) (args := #[v]) hl (by rw [hrec]; simp [hps])
      rw [hrec] at hy
      refine ⟨fn, _, assign, body, hy, roundIn_of_wpIn hfn (hassign _ pre x v S W _ hi henc hpre ?_)⟩
      clear hy
      intro a' Wa hba hia hax
      have hla := (hba.block _ hlt).trans hl
      have hka := (hba.block w.heap.size (by omega)).trans hk
      have hlta : w.heap.size + 1 < Wa.heap.size := Nat.lt_of_lt_of_le hlt hba.size
      refine ⟨_, run_beginRound hla (by rw [hrec]), ?_⟩
      have hl2 : (Wa.putObj (w.heap.size + 1) (.loop { rec .ready none with state := .busy })).heap[w.heap.size + 1]? = some (.loop { rec .ready none with state := .busy }) := World.putObj_heap_same hlta
      have hk2 : (Wa.putObj (w.heap.size + 1) (.loop { rec .ready none with state := .busy })).heap[w.heap.size]? = some (.deferred (some [])) := (World.putObj_heap_other (by omega)).trans hka
      have hex : ExtX pn w.heap.size Wa (Wa.putObj (w.heap.size + 1) (.loop { rec .ready none with state := .busy })) := ExtX.put (by omega) hla rfl
      have hf2 : Foot (fun k => S k ∨ k = w.heap.size + 1) (fun k => S k ∨ k = w.heap.size + 1) W (Wa.putObj (w.heap.size + 1) (.loop { rec .ready none with state := .busy })) :=
        (Foot.of_below hba).trans (Foot.put _ (.inr rfl))
      refine wpIn_mono (hbody _ pre x a' S _ (hI _ _ _ _ hia hex) (hAx _ _ _ _ hax hex) hpre (fun k hk => ⟨(hSB k hk).1, by have := (hSB k hk).2; have := hba.size; simp; omega⟩)) ?_
      have hkp2 : Kp W (Wa.putObj (w.heap.size + 1) (.loop { rec .ready none with state := .busy })) := hKe _ _ ((ExtX.of_below hba).trans hex)
      generalize Wa.putObj (w.heap.size + 1) (.loop { rec .ready none with state := .busy }) = W2 at hl2 hk2 hf2 hkp2 ⊢
      have hlt2 : w.heap.size + 1 < W2.heap.size := (Array.getElem?_eq_some_iff.1 hl2).1
      have fin : ∀ (jump : Option Code) (S' : Nat → Prop) (W3 : World), Foot S S' W2 W3 →
          (Instr.endRound (w.heap.size + 1) jump).run P W3 = .ok (.bool jump.isNone) (W3.putObj (w.heap.size + 1) (.loop (rec (if jump.isNone then .ready else .done) jump))) ∧
          W3.heap[w.heap.size + 1]? = some (.loop { rec .ready none with state := .busy }) ∧
          (W3.putObj (w.heap.size + 1) (.loop (rec (if jump.isNone then .ready else .done) jump))).heap[w.heap.size + 1]? = some (.loop (rec (if jump.isNone then .ready else .done) jump)) ∧
          (W3.putObj (w.heap.size + 1) (.loop (rec (if jump.isNone then .ready else .done) jump))).heap[w.heap.size]? = some (.deferred (some [])) ∧
          Foot (fun k => S k ∨ k = w.heap.size + 1) (fun k => S' k ∨ k = w.heap.size + 1) W (W3.putObj (w.heap.size + 1) (.loop (rec (if jump.isNone then .ready else .done) jump))) ∧
          ¬ S' w.heap.size ∧ ¬ S' (w.heap.size + 1) ∧ (∀ k, S' k → B ≤ k) ∧ Kp W3 (W3.putObj (w.heap.size + 1) (.loop (rec (if jump.isNone then .ready else .done) jump))) := fun jump S' W3 hf => by
        have hl3 := (hf.same _ hlt2 hSl).trans hl2
        have hk3 := (hf.same w.heap.size (by omega) hSD).trans hk2
        have := run_endRound (P := P) jump hl3
        rw [hrec] at this ⊢
        refine ⟨this, by rw [hrec] at hl3; exact hl3, World.putObj_heap_same (Array.getElem?_eq_some_iff.1 hl3).1, (World.putObj_heap_other (by omega)).trans hk3, ?_, ?_, ?_, ?_, hKe _ _ (ExtX.put (by omega) hl3 (by rw [hrec]; rfl))⟩
        · exact (hf2.trans (hf.wide (T := fun k => k = w.heap.size + 1))).trans (Foot.put _ (.inr rfl))
        · intro h; rcases hf.fresh _ h with h1 | h1
          · exact hSD h1
          · omega
        · intro h; rcases hf.fresh _ h with h1 | h1
          · exact hSl h1
          · omega
        · intro k h; rcases hf.fresh _ h with h1 | h1
          · exact (hSB k h1).1
          · have := hf2.size; omega
      rintro e a3 W3 hp
      cases e with
      | normal =>
        obtain ⟨S', hi3, hf3, ht3, hkp3⟩ := hp
        obtain ⟨hr, hl3, hl4, hk4, hft, g1, g2, g3, hkp4⟩ := fin none S' W3 hf3
        exact ⟨_, _, hr, .inl ⟨rfl, _, ⟨S', rfl, hI _ _ _ _ hi3 (ExtX.put (by omega) hl3 rfl), fun k hk => ⟨g3 k hk, by simpa using ht3 k hk⟩, g1, g2, hl4, hk4⟩, hft, fun k hk => by
          rcases hk with h | h
          · simpa using ht3 k h
          · rw [h]; exact (Array.getElem?_eq_some_iff.1 hl4).1, hKt _ _ _ (hKt _ _ _ hkp2 hkp3) hkp4⟩⟩
      | ret =>
        obtain ⟨S', hi3, hf3⟩ := hp
        obtain ⟨hr, hl3, hl4, hk4, hft, g1, g2, g3, _⟩ := fin (some .ret) S' W3 hf3
        exact ⟨_, _, hr, .inr ⟨rfl, _, ⟨S', .ret, hIx _ _ _ _ _ hi3 (ExtX.put (by omega) hl3 rfl), hl4, hk4⟩, hft⟩⟩
      | exit id =>
        obtain ⟨S', hi3, hf3⟩ := hp
        obtain ⟨hr, hl3, hl4, hk4, hft, g1, g2, g3, _⟩ := fin (some (.exit id)) S' W3 hf3
        exact ⟨_, _, hr, .inr ⟨rfl, _, ⟨S', .exit id, hIx _ _ _ _ _ hi3 (ExtX.put (by omega) hl3 rfl), hl4, hk4⟩, hft⟩⟩
      | goto t =>
        obtain ⟨S', hi3, hf3⟩ := hp
        obtain ⟨hr, hl3, hl4, hk4, hft, g1, g2, g3, _⟩ := fin (some (.goto t)) S' W3 hf3
        exact ⟨_, _, hr, .inr ⟨rfl, _, ⟨S', .goto t, hIx _ _ _ _ _ hi3 (ExtX.put (by omega) hl3 rfl), hl4, hk4⟩, hft⟩⟩
      | panic ch => exact hp.elim
      | outgrown => exact hp.elim
    · -- BEHIND THE ITERATOR
      rintro e W2 ⟨⟨v, rfl⟩, (⟨T, ⟨S, rfl, hi, _, _, _, hl, hk⟩, hcn⟩ | ⟨pre, T, hp, ⟨S, c, hi, hl, hk⟩⟩)⟩
      · exact ⟨none, _, by have := run_endLoop (P := P) hl (by rw [hrec]; simp); rw [hrec] at this; exact this, hdone _ S _ (Nat.le_refl _) (hI _ _ _ _ hi (ExtX.put (by omega) hl rfl)) ((World.cell?_of_block (a := ⟨pn, 0, none⟩) (World.putObj_heap_other (by show pn ≠ _; omega))).trans hcn) ((World.putObj_heap_other (by omega)).trans hk)⟩
      · exact ⟨some c, _, by have := run_endLoop (P := P) hl (by rw [hrec]; simp); rw [hrec] at this; exact this, hstop _ c pre S _ (Nat.le_refl _) hp (hIx _ _ _ _ _ hi (ExtX.put (by omega) hl rfl)) ((World.putObj_heap_other (by omega)).trans hk)⟩

end Go.Proofs.YtieffhkfefimeaaGreatDoor
