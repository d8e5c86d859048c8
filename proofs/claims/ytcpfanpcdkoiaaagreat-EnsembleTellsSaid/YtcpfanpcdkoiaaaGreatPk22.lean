/-
  Pk22: RunP IeeeC IeeeD StrQ RatD IeeeE RefQ RefR (what is needed of them).
-/
import Derived.Test.YtcpfanpcdkoiaaaGreatPk01
import Derived.Test.YtcpfanpcdkoiaaaGreatPk07
import Derived.Test.YtcpfanpcdkoiaaaGreatPk10
import Derived.Test.YtcpfanpcdkoiaaaGreatPk12
import Derived.Test.YtcpfanpcdkoiaaaGreatPk15
import Derived.Test.YtcpfanpcdkoiaaaGreatPk17
import Derived.Test.YtcpfanpcdkoiaaaGreatPk18
import Derived.Test.YtcpfanpcdkoiaaaGreatPk20
import Derived.Test.YtcpfanpcdkoiaaaGreatPk21
import Derived.Lib.Bytealg
import Derived.BigCall
set_option maxRecDepth 100000
set_option linter.unusedVariables false
set_option linter.unusedSimpArgs false

namespace Go.Proofs.YtcpfanpcdkoiaaaGreat

end Go.Proofs.YtcpfanpcdkoiaaaGreat
namespace Go.Proofs.YtcpfanpcdkoiaaaGreat

def hU (up : List Int) : Nat → Int → Nat
 | 0, _ => 0
 | f + 1, x => if x = -1 then 0 else hU up f (up[x.toNat]?.getD (-1)) + 1
end Go.Proofs.YtcpfanpcdkoiaaaGreat
namespace Go.Proofs.YtcpfanpcdkoiaaaGreat
open Go.RowKit


end Go.Proofs.YtcpfanpcdkoiaaaGreat
namespace Go.Proofs.YtcpfanpcdkoiaaaGreat
open Go.RowKit


end Go.Proofs.YtcpfanpcdkoiaaaGreat
namespace Go.Proofs.YtcpfanpcdkoiaaaGreat
open Go.RowKit


def IterU {α : Type} (P : Program) (gf : Nat) (lb : Array Value) (Enc : World → Value → α → Prop) (xs : List α) (U : Nat → Prop) (Kp : World → World → Prop) (w : World) : Prop :=
 ∀ (l : Nat) (J Jx : List α → (Nat → Prop) → World → Prop) (S0 : Nat → Prop) (W1 : World), Below w.heap.size w W1 → (∀ k, S0 k → U k ∧ k < W1.heap.size) →
  (∀ pre S W W', J pre S W → Below W.heap.size W W' → J pre S W') → (∀ pre S W W', Jx pre S W → Below W.heap.size W W' → Jx pre S W') →
  (∀ pre x v S W, J pre S W → Enc W v x → pre ++ [x] <+: xs → YieldAt Fence.wide 0 P l #[v] W fun e W' =>
   (e = .returned (.bool true) ∧ ∃ S', J (pre ++ [x]) S' W' ∧ Foot S S' W W' ∧ Top S' W' ∧ Kp W W') ∨ (e = .returned (.bool false) ∧ ∃ S', Jx (pre ++ [x]) S' W' ∧ Foot S S' W W')) →
  J [] S0 W1 →
  CallsIn Fence.wide 0 P gf (IterArgs l lb) W1 fun e W' => (∃ v, e = .returned v) ∧ ((∃ S', J xs S' W' ∧ Foot S0 S' W1 W') ∨ (∃ pre S', pre <+: xs ∧ Jx pre S' W' ∧ Foot S0 S' W1 W'))
theorem wp_rangeU {α : Type} {P : Program} {g : Operand} {ps : Array Tmp} {assign body : Code} {Q : Exit → Act → World → Prop} {a : Act} {w : World}
  {gf : Nat} {lb : Array Value} (hg : a.eval g = .func (.func gf) #[] lb) (eg : ∀ args w, (callFunc gf args).run P w = .ok (.enter gf args) w)
  {Enc : World → Value → α → Prop} {xs : List α} {U : Nat → Prop} {Kp : World → World → Prop} (hit : IterU P gf lb Enc xs U Kp w) (hKt : ∀ A C D, Kp A C → Kp C D → Kp A D) (hKe : ∀ A C, Ext w.heap.size A C → Kp A C) (hps : ps.size = 1) (hB : ∀ k, w.heap.size ≤ k → U k)
  (I : List α → (Nat → Prop) → World → Prop) (Ix : Code → List α → (Nat → Prop) → World → Prop) (hI : Stab w.heap.size I) (hIx : ∀ c, Stab w.heap.size (Ix c))
  (S0 : Nat → Prop) (hS0 : ∀ k, S0 k → U k ∧ k < w.heap.size) (h0 : I [] S0 w) (Ax : α → Act → World → Prop) (hAx : ∀ x a' W W', Ax x a' W → Ext w.heap.size W W' → Ax x a' W')
  (hassign : ∀ (l : Nat) (pre : List α) (x : α) (v : Value) (S : Nat → Prop) (W : World) (K : Act → World → Prop), I pre S W → Enc W v x → pre ++ [x] <+: xs →
   (∀ a' W', Below W.heap.size W W' → I pre S W' → Ax x a' W' → K a' W') →
   assign.wpIn (Fence.wide.inRound l) 0 P (Exit.then K (fun _ _ _ => False)) { tmps := (ps.zip #[v]).foldl (fun t (p, v) => t.setIfInBounds p v) a.tmps, defers := [] } W)
  (hbody : ∀ (l : Nat) (pre : List α) (x : α) (a' : Act) (S : Nat → Prop) (W : World), I pre S W → Ax x a' W → pre ++ [x] <+: xs → (∀ k, S k → U k ∧ k < W.heap.size) → body.wpIn (Fence.wide.inRound l) 0 P (postS Kp I Ix (pre ++ [x]) S W) a' W)
  (hdone : ∀ (D : Nat) (S : Nat → Prop) (W : World), w.heap.size ≤ D → I xs S W → W.heap[D]? = some (.deferred (some [])) → Q .normal { a with defers := { target := .collected D, args := #[] } :: a.defers } W)
  (hstop : ∀ (D : Nat) (c : Code) (pre : List α) (S : Nat → Prop) (W : World), w.heap.size ≤ D → pre <+: xs → Ix c pre S W → W.heap[D]? = some (.deferred (some [])) → c.wpIn Fence.wide 0 P Q { a with defers := { target := .collected D, args := #[] } :: a.defers } W) :
  (Code.rangeFunc g ps assign body).wpIn Fence.wide 0 P Q a w := by
 refine wpIn_rangeFunc ?_
 intro fn hfn
 obtain ⟨rec, hrec⟩ : ∃ rec : LoopState → Option Code → Loop, rec = fun st pe => { state := st, pending := pe, fn, tmps := a.tmps, params := ps, assign, body, defers := w.heap.size } := ⟨_, rfl⟩
 obtain ⟨W1, hW1⟩ : ∃ W1, (w.alloc (.deferred (some []))).alloc (.loop (rec .ready none)) = W1 := ⟨_, rfl⟩
 have hL1 : W1.heap[w.heap.size + 1]? = some (.loop (rec .ready none)) := by
  rw [← hW1]; have := World.alloc_heap_new (w.alloc (.deferred (some []))) (.loop (rec .ready none)); rwa [World.size_alloc] at this
 have hK1 : W1.heap[w.heap.size]? = some (.deferred (some [])) := by
  rw [← hW1]; exact (Below.heap_alloc _ _ _ (by simp)).trans (World.alloc_heap_new w _)
 have hb1 : Below w.heap.size w W1 := by
  rw [← hW1]; exact ((Below.refl _ w).alloc (Nat.le_refl _) _).alloc (by simp) _
 have hI1 : I [] S0 W1 := hI _ _ _ _ h0 (Ext.of_below hb1)
 refine ⟨w.heap.size + 1, [{ target := .collected w.heap.size, args := #[] }], W1, { target := .fn (.func gf) lb, args := #[.func (.yield (w.heap.size + 1)) #[] #[]] }, W1, gf,
  #[.func (.yield (w.heap.size + 1)) #[] #[]] ++ lb, W1, ?_, ?_, ?_, ?_, fun h => by simp [Fence.wide] at h, ?_⟩
 ·rw [← hW1, hrec]; exact run_enterLoop_outer _ _ _ _ _
 ·simp only [resolve, hg]
  simp [go_sem]
 ·intro f' hf'; trivial
 ·simp [invoke, go_sem, eg]
 ·refine (hit (w.heap.size + 1)
   (fun pre T W => ∃ S, (T = fun k => S k ∨ k = w.heap.size + 1) ∧ I pre S W ∧ (∀ k, S k → U k ∧ k < W.heap.size) ∧ ¬ S w.heap.size ∧ ¬ S (w.heap.size + 1) ∧ W.heap[w.heap.size + 1]? = some (.loop (rec .ready none)) ∧ W.heap[w.heap.size]? = some (.deferred (some [])))
   (fun pre T W => ∃ S c, Ix c pre S W ∧ W.heap[w.heap.size + 1]? = some (.loop (rec .done (some c))) ∧ W.heap[w.heap.size]? = some (.deferred (some [])))
   (fun k => S0 k ∨ k = w.heap.size + 1) W1 hb1 (fun k hk => by
    have hlt1 := (Array.getElem?_eq_some_iff.1 hL1).1
    rcases hk with h | h
    ·exact ⟨(hS0 k h).1, by have := (hS0 k h).2; have := hb1.size; omega⟩
    ·subst h; exact ⟨hB _ (Nat.le_succ _), hlt1⟩) ?_ ?_ ?_ ⟨S0, rfl, hI1, fun k h => ⟨(hS0 k h).1, by have := (hS0 k h).2; have := hb1.size; omega⟩, fun h => by have := (hS0 _ h).2; omega, fun h => by have := (hS0 _ h).2; omega, hL1, hK1⟩).mono ?_
  ·rintro pre T W W' ⟨S, rfl, hi, h1, h2, h3, hl, hk⟩ hb
   exact ⟨S, rfl, hI _ _ _ _ hi (Ext.of_below hb), fun k hk => ⟨(h1 k hk).1, Nat.lt_of_lt_of_le (h1 k hk).2 hb.size⟩, h2, h3, (hb.block _ (Array.getElem?_eq_some_iff.1 hl).1).trans hl, (hb.block _ (Array.getElem?_eq_some_iff.1 hk).1).trans hk⟩
  ·rintro pre T W W' ⟨S, c, hi, hl, hk⟩ hb
   exact ⟨S, c, hIx c _ _ _ _ hi (Ext.of_below hb), (hb.block _ (Array.getElem?_eq_some_iff.1 hl).1).trans hl, (hb.block _ (Array.getElem?_eq_some_iff.1 hk).1).trans hk⟩
  ·-- ONE ROUND
   rintro pre x v T W ⟨S, rfl, hi, hSB, hSD, hSl, hl, hk⟩ henc hpre
   have hlt : w.heap.size + 1 < W.heap.size := (Array.getElem?_eq_some_iff.1 hl).1
   have hy := run_yield (P := P) (args := #[v]) hl (by rw [hrec]; simp [hps])
   rw [hrec] at hy
   refine ⟨fn, _, assign, body, hy, roundIn_of_wpIn hfn (hassign _ pre x v S W _ hi henc hpre ?_)⟩
   clear hy
   intro a' Wa hba hia hax
   have hla := (hba.block _ hlt).trans hl
   have hka := (hba.block w.heap.size (by omega)).trans hk
   have hlta : w.heap.size + 1 < Wa.heap.size := Nat.lt_of_lt_of_le hlt hba.size
   refine ⟨_, run_beginRound hla (by rw [hrec]), ?_⟩
   have hl2 : (Wa.putObj (w.heap.size + 1) (.loop { rec .ready none with state := .busy })).heap[w.heap.size + 1]? = some (.loop { rec .ready none with state := .busy }) := World.putObj_heap_same hlta
   have hk2 : (Wa.putObj (w.heap.size + 1) (.loop { rec .ready none with state := .busy })).heap[w.heap.size]? = some (.deferred (some [])) := (World.putObj_heap_other (by omega)).trans hka
   have hex : Ext w.heap.size Wa (Wa.putObj (w.heap.size + 1) (.loop { rec .ready none with state := .busy })) := Ext.put (by omega) hla rfl
   have hf2 : Foot (fun k => S k ∨ k = w.heap.size + 1) (fun k => S k ∨ k = w.heap.size + 1) W (Wa.putObj (w.heap.size + 1) (.loop { rec .ready none with state := .busy })) :=
    (Foot.of_below hba).trans (Foot.put _ (.inr rfl))
   refine wpIn_mono (hbody _ pre x a' S _ (hI _ _ _ _ hia hex) (hAx _ _ _ _ hax hex) hpre (fun k hk => ⟨(hSB k hk).1, by have := (hSB k hk).2; have := hba.size; simp; omega⟩)) ?_
   have hkp2 : Kp W (Wa.putObj (w.heap.size + 1) (.loop { rec .ready none with state := .busy })) := hKe _ _ ((Ext.of_below hba).trans hex)
   generalize Wa.putObj (w.heap.size + 1) (.loop { rec .ready none with state := .busy }) = W2 at hl2 hk2 hf2 hkp2 ⊢
   have hlt2 : w.heap.size + 1 < W2.heap.size := (Array.getElem?_eq_some_iff.1 hl2).1
   have fin : ∀ (jump : Option Code) (S' : Nat → Prop) (W3 : World), Foot S S' W2 W3 →
     (Instr.endRound (w.heap.size + 1) jump).run P W3 = .ok (.bool jump.isNone) (W3.putObj (w.heap.size + 1) (.loop (rec (if jump.isNone then .ready else .done) jump))) ∧
     W3.heap[w.heap.size + 1]? = some (.loop { rec .ready none with state := .busy }) ∧
     (W3.putObj (w.heap.size + 1) (.loop (rec (if jump.isNone then .ready else .done) jump))).heap[w.heap.size + 1]? = some (.loop (rec (if jump.isNone then .ready else .done) jump)) ∧
     (W3.putObj (w.heap.size + 1) (.loop (rec (if jump.isNone then .ready else .done) jump))).heap[w.heap.size]? = some (.deferred (some [])) ∧
     Foot (fun k => S k ∨ k = w.heap.size + 1) (fun k => S' k ∨ k = w.heap.size + 1) W (W3.putObj (w.heap.size + 1) (.loop (rec (if jump.isNone then .ready else .done) jump))) ∧
     ¬ S' w.heap.size ∧ ¬ S' (w.heap.size + 1) ∧ (∀ k, S' k → U k) ∧ Kp W3 (W3.putObj (w.heap.size + 1) (.loop (rec (if jump.isNone then .ready else .done) jump))) := fun jump S' W3 hf => by
    have hl3 := (hf.same _ hlt2 hSl).trans hl2
    have hk3 := (hf.same w.heap.size (by omega) hSD).trans hk2
    have := run_endRound (P := P) jump hl3
    rw [hrec] at this ⊢
    refine ⟨this, by rw [hrec] at hl3; exact hl3, World.putObj_heap_same (Array.getElem?_eq_some_iff.1 hl3).1, (World.putObj_heap_other (by omega)).trans hk3, ?_, ?_, ?_, ?_, hKe _ _ (Ext.put (by omega) hl3 (by rw [hrec]; rfl))⟩
    ·exact (hf2.trans (hf.wide (T := fun k => k = w.heap.size + 1))).trans (Foot.put _ (.inr rfl))
    ·intro h; rcases hf.fresh _ h with h1 | h1
     ·exact hSD h1
     ·omega
    ·intro h; rcases hf.fresh _ h with h1 | h1
     ·exact hSl h1
     ·omega
    ·intro k h; rcases hf.fresh _ h with h1 | h1
     ·exact (hSB k h1).1
     ·exact hB _ (by have := hf2.size; omega)
   rintro e a3 W3 hp
   cases e with
   | normal =>
    obtain ⟨S', hi3, hf3, ht3, hkp3⟩ := hp
    obtain ⟨hr, hl3, hl4, hk4, hft, g1, g2, g3, hkp4⟩ := fin none S' W3 hf3
    exact ⟨_, _, hr, .inl ⟨rfl, _, ⟨S', rfl, hI _ _ _ _ hi3 (Ext.put (by omega) hl3 rfl), fun k hk => ⟨g3 k hk, by simpa using ht3 k hk⟩, g1, g2, hl4, hk4⟩, hft, fun k hk => by
     rcases hk with h | h
     ·simpa using ht3 k h
     ·rw [h]; exact (Array.getElem?_eq_some_iff.1 hl4).1, hKt _ _ _ (hKt _ _ _ hkp2 hkp3) hkp4⟩⟩
   | ret =>
    obtain ⟨S', hi3, hf3⟩ := hp
    obtain ⟨hr, hl3, hl4, hk4, hft, g1, g2, g3, _⟩ := fin (some .ret) S' W3 hf3
    exact ⟨_, _, hr, .inr ⟨rfl, _, ⟨S', .ret, hIx _ _ _ _ _ hi3 (Ext.put (by omega) hl3 rfl), hl4, hk4⟩, hft⟩⟩
   | exit id =>
    obtain ⟨S', hi3, hf3⟩ := hp
    obtain ⟨hr, hl3, hl4, hk4, hft, g1, g2, g3, _⟩ := fin (some (.exit id)) S' W3 hf3
    exact ⟨_, _, hr, .inr ⟨rfl, _, ⟨S', .exit id, hIx _ _ _ _ _ hi3 (Ext.put (by omega) hl3 rfl), hl4, hk4⟩, hft⟩⟩
   | goto t =>
    obtain ⟨S', hi3, hf3⟩ := hp
    obtain ⟨hr, hl3, hl4, hk4, hft, g1, g2, g3, _⟩ := fin (some (.goto t)) S' W3 hf3
    exact ⟨_, _, hr, .inr ⟨rfl, _, ⟨S', .goto t, hIx _ _ _ _ _ hi3 (Ext.put (by omega) hl3 rfl), hl4, hk4⟩, hft⟩⟩
   | panic ch => exact hp.elim
   | outgrown => exact hp.elim
  ·-- BEHIND THE ITERATOR
   rintro e W2 ⟨⟨v, rfl⟩, (⟨T, ⟨S, rfl, hi, _, _, _, hl, hk⟩, _⟩ | ⟨pre, T, hp, ⟨S, c, hi, hl, hk⟩, _⟩)⟩
   ·exact ⟨none, _, by have := run_endLoop (P := P) hl (by rw [hrec]; simp); rw [hrec] at this; exact this, hdone _ S _ (Nat.le_refl _) (hI _ _ _ _ hi (Ext.put (by omega) hl rfl)) ((World.putObj_heap_other (by omega)).trans hk)⟩
   ·exact ⟨some c, _, by have := run_endLoop (P := P) hl (by rw [hrec]; simp); rw [hrec] at this; exact this, hstop _ c pre S _ (Nat.le_refl _) hp (hIx _ _ _ _ _ hi (Ext.put (by omega) hl rfl)) ((World.putObj_heap_other (by omega)).trans hk)⟩
end Go.Proofs.YtcpfanpcdkoiaaaGreat
namespace Go.Proofs.YtcpfanpcdkoiaaaGreat
open Go.RowKit


end Go.Proofs.YtcpfanpcdkoiaaaGreat
namespace Go.Proofs.YtcpfanpcdkoiaaaGreat
open Go.RowKit Go.Shelf


attribute [local go_sem] Oper.semAt_some field_nat
end Go.Proofs.YtcpfanpcdkoiaaaGreat
namespace Go.Proofs.YtcpfanpcdkoiaaaGreat
open Go.RowKit Go.Shelf


attribute [local go_sem] Oper.semAt_some field_nat
theorem weightsE_succ {ls : List EL} {i : Nat} {y : EL} {t n g : Int} {hil : i < ls.length} (hy : ls[i] = y) : weightsE (ls.take (i + 1)) t n g = if y.tree = t ∧ y.node = n ∧ y.tgt = g then weightsE (ls.take i) t n g ++ [y.wt] else weightsE (ls.take i) t n g := by
 unfold weightsE
 rw [List.take_add_one, List.getElem?_eq_getElem hil, hy, List.filter_append, List.map_append]
 by_cases h : y.tree = t ∧ y.node = n ∧ y.tgt = g
 ·rw [if_pos h]
  obtain ⟨h1, h2, h3⟩ := h
  simp [h1, h2, h3]
 ·rw [if_neg h]
  have h9 : (decide (y.tree = t) && (decide (y.node = n) && decide (y.tgt = g))) = false := by
   rw [Bool.eq_false_iff]; intro h2; simp at h2; exact h h2
  simp [h9]
theorem weightsE_pre {ls : List EL} (i : Nat) (t n g : Int) : weightsE (ls.take i) t n g <+: weightsE ls t n g := by
 unfold weightsE
 refine ⟨((ls.drop i).filter (fun l => decide (l.tree = t) && (decide (l.node = n) && decide (l.tgt = g)))).map (·.wt), ?_⟩
 rw [← List.map_append, ← List.filter_append, List.take_append_drop]
set_option maxHeartbeats 2000000 in
theorem weights_it (e : EE) (bo : Option Addr) (bc : Nat) (no : Option Addr) (nc : Nat) (lo : Option Addr) (lc : Nat) (t n g : Int) (pe pt pn pg : Nat) (U : Nat → Prop) (w : World) (hbe : BoxL w pe [.int .i64 e.feats, .int .i64 e.tgts, .string ⟨e.agg.toArray⟩, .string ⟨e.post.toArray⟩, .slice bo e.base.length bc, .slice no e.nodes.length nc, .slice lo e.leaves.length lc])
  (ht : w.cell? ⟨pt, 0, none⟩ = some (.int .i64 t)) (hn : w.cell? ⟨pn, 0, none⟩ = some (.int .i64 n)) (hg : w.cell? ⟨pg, 0, none⟩ = some (.int .i64 g)) (hrow : RowC 4 elC w lo e.leaves) (hll : e.leaves.length ≤ maxLen)
  (hU1 : ∀ k, U k → k ≠ pe ∧ k ≠ pt ∧ k ≠ pn ∧ k ≠ pg) (hU2 : ∀ b off, lo = some ⟨b, off, none⟩ → e.leaves ≠ [] → ¬ U b) :
  IterU Tryz.prog 107 #[.pointer (some ⟨pe, 0, none⟩), .pointer (some ⟨pt, 0, none⟩), .pointer (some ⟨pn, 0, none⟩), .pointer (some ⟨pg, 0, none⟩)] (fun _ v (x : Nat) => v = .int .u64 (x : Int)) (weightsE e.leaves t n g) U (fun _ _ => True) w := by
 intro l J Jx S0 W1 hW1 hS0 hJ hJx hY h00
 have ct := (hW1.cell (p := ⟨pt, 0, none⟩) (World.block_lt_of_cell? w ⟨pt, 0, none⟩ ht)).trans ht
 have cn := (hW1.cell (p := ⟨pn, 0, none⟩) (World.block_lt_of_cell? w ⟨pn, 0, none⟩ hn)).trans hn
 have cg := (hW1.cell (p := ⟨pg, 0, none⟩) (World.block_lt_of_cell? w ⟨pg, 0, none⟩ hg)).trans hg
 have ct1 := World.block_lt_of_cell? W1 ⟨pt, 0, none⟩ ct
 have cn1 := World.block_lt_of_cell? W1 ⟨pn, 0, none⟩ cn
 have cg1 := World.block_lt_of_cell? W1 ⟨pg, 0, none⟩ cg
 have hbe1 := hbe.kept hW1
 have hrow1 := RowC.below (B := 0) hrow hW1
 have ee6 := hbe1.cell 6 _ rfl
 have hl9 := hll
 unfold maxLen at hl9
 clear ht hn hg hrow hbe
 have Hct := Lib.hid ct
 have Hcn := Lib.hid cn
 have Hcg := Lib.hid cg
 clear ct cn cg
 refine callsIn_of_wp Tryz.func107 rfl (by trivial) ?_ rfl
 simp only [IterArgs, Tryz.ntmps107, List.size_toArray, List.length_cons, List.length_nil, Nat.reduceAdd, Nat.reduceSub, Array.replicate_succ, Array.replicate_zero, List.push_toArray, List.append_toArray, List.nil_append, List.cons_append]
 gi_wp2_with fail
 clear ee6
 gi_loopg [11] e.leaves.length (fun gg iv wr => ∃ (i : Nat) (S : Nat → Prop), i + gg = e.leaves.length ∧ iv = .int .i64 (i : Int) ∧ J (weightsE (e.leaves.take i) t n g) S wr ∧ Foot S0 S W1 wr)
 case atStart => exact ⟨0, S0, by omega, rfl, h00, Foot.refl _ _⟩
 case round =>
  obtain ⟨i, S, hi, rfl, hJs, hF0⟩ := hrel
  by_cases hil : i < e.leaves.length
  ·have same := fun (k : Nat) (hk : k < W1.heap.size) (hu : ¬ U k) => hF0.same k hk (fun h => hu (hS0 k h).1)
   have ct2 := (World.cell?_of_block (a := ⟨pt, 0, none⟩) (same pt ct1 (fun h => (hU1 pt h).2.1 rfl))).trans Hct.out
   have cn2 := (World.cell?_of_block (a := ⟨pn, 0, none⟩) (same pn cn1 (fun h => (hU1 pn h).2.2.1 rfl))).trans Hcn.out
   have cg2 := (World.cell?_of_block (a := ⟨pg, 0, none⟩) (same pg cg1 (fun h => (hU1 pg h).2.2.2 rfl))).trans Hcg.out
   have ct3 := World.block_lt_of_cell? wr ⟨pt, 0, none⟩ ct2
   have cn3 := World.block_lt_of_cell? wr ⟨pn, 0, none⟩ cn2
   have cg3 := World.block_lt_of_cell? wr ⟨pg, 0, none⟩ cg2
   obtain ⟨b, off, rfl⟩ := hrow1.addr hil
   obtain ⟨y, hy⟩ : ∃ y, e.leaves[i] = y := ⟨_, rfl⟩
   obtain ⟨k0, k1, k2, k3⟩ := RowC.c4 hrow1 (Below.refl _ _) hil y hy
   have hbU : ¬ U b := hU2 b off rfl (fun h => by rw [h] at hil; simp at hil)
   have blt := (hrow1.get hil).1
   replace k0 := (World.cell?_of_block (a := ⟨b, off + i * 4, none⟩) (same b blt hbU)).trans k0
   replace k1 := (World.cell?_of_block (a := ⟨b, off + i * 4 + 1, none⟩) (same b blt hbU)).trans k1
   replace k2 := (World.cell?_of_block (a := ⟨b, off + i * 4 + 2, none⟩) (same b blt hbU)).trans k2
   replace k3 := (World.cell?_of_block (a := ⟨b, off + i * 4 + 3, none⟩) (same b blt hbU)).trans k3
   have blt2 : b < wr.heap.size := World.block_lt_of_cell? wr ⟨b, off + i * 4, none⟩ k0
   have q1 : (i : Int) < (e.leaves.length : Int) := by omega
   have q2 : (0 : Int) ≤ (i : Int) := by omega
   by_cases m1 : y.tree = t
   case neg =>
    have z1 : (y.tree == t) = false := by simpa using m1
    have hw9 : weightsE (e.leaves.take (i + 1)) t n g = weightsE (e.leaves.take i) t n g := by rw [weightsE_succ hy, if_neg (by intro h; exact m1 h.1)]
    obtain ⟨W2, hW2⟩ : ∃ W2, W2 = wr.alloc (.cells #[.int .i64 y.tree, .int .i64 y.node, .int .i64 y.tgt, .int .u64 (y.wt : Int)] 137) := ⟨_, rfl⟩
    have hb : Below wr.heap.size wr W2 := by rw [hW2]; exact (Below.refl _ wr).alloc (Nat.le_refl _) _
    have hJ2 := hJ _ _ _ _ hJs hb
    have HJ := Lib.hid hJ2
    have HF := Lib.hid (hF0.trans (Foot.of_below (S := S) hb))
    have HW9 := Lib.hid hw9
    clear hJ2 hb hw9 hy hF0 hJs same
    subst hW2
    gi_wp2
    refine ⟨fun _ h => (by cases h), ?_⟩
    gi_wp2
    gi_roundg (gk - 1)
    case measure => omega
    case rel => exact ⟨i + 1, S, by omega, by go_num, by rw [HW9.out]; exact HJ.out, HF.out⟩
   subst m1
   by_cases m2 : y.node = n
   case neg =>
    have z2 : (y.node == n) = false := by simpa using m2
    have hw9 : weightsE (e.leaves.take (i + 1)) y.tree n g = weightsE (e.leaves.take i) y.tree n g := by rw [weightsE_succ hy, if_neg (by intro h; exact m2 h.2.1)]
    obtain ⟨W2, hW2⟩ : ∃ W2, W2 = wr.alloc (.cells #[.int .i64 y.tree, .int .i64 y.node, .int .i64 y.tgt, .int .u64 (y.wt : Int)] 137) := ⟨_, rfl⟩
    have hb : Below wr.heap.size wr W2 := by rw [hW2]; exact (Below.refl _ wr).alloc (Nat.le_refl _) _
    have hJ2 := hJ _ _ _ _ hJs hb
    have HJ := Lib.hid hJ2
    have HF := Lib.hid (hF0.trans (Foot.of_below (S := S) hb))
    have HW9 := Lib.hid hw9
    clear hJ2 hb hw9 hy hF0 hJs same
    subst hW2
    gi_wp2
    refine ⟨fun _ h => (by cases h), ?_⟩
    gi_wp2
    gi_roundg (gk - 1)
    case measure => omega
    case rel => exact ⟨i + 1, S, by omega, by go_num, by rw [HW9.out]; exact HJ.out, HF.out⟩
   subst m2
   by_cases m3 : y.tgt = g
   case neg =>
    have z3 : (y.tgt == g) = false := by simpa using m3
    have hw9 : weightsE (e.leaves.take (i + 1)) y.tree y.node g = weightsE (e.leaves.take i) y.tree y.node g := by rw [weightsE_succ hy, if_neg (by intro h; exact m3 h.2.2)]
    obtain ⟨W2, hW2⟩ : ∃ W2, W2 = wr.alloc (.cells #[.int .i64 y.tree, .int .i64 y.node, .int .i64 y.tgt, .int .u64 (y.wt : Int)] 137) := ⟨_, rfl⟩
    have hb : Below wr.heap.size wr W2 := by rw [hW2]; exact (Below.refl _ wr).alloc (Nat.le_refl _) _
    have hJ2 := hJ _ _ _ _ hJs hb
    have HJ := Lib.hid hJ2
    have HF := Lib.hid (hF0.trans (Foot.of_below (S := S) hb))
    have HW9 := Lib.hid hw9
    clear hJ2 hb hw9 hy hF0 hJs same
    subst hW2
    gi_wp2
    refine ⟨fun _ h => (by cases h), ?_⟩
    gi_wp2
    gi_roundg (gk - 1)
    case measure => omega
    case rel => exact ⟨i + 1, S, by omega, by go_num, by rw [HW9.out]; exact HJ.out, HF.out⟩
   subst m3
   have hw9 : weightsE (e.leaves.take (i + 1)) y.tree y.node y.tgt = weightsE (e.leaves.take i) y.tree y.node y.tgt ++ [y.wt] := by rw [weightsE_succ hy, if_pos ⟨rfl, rfl, rfl⟩]
   obtain ⟨W2, hW2⟩ : ∃ W2, W2 = wr.alloc (.cells #[.int .i64 y.tree, .int .i64 y.node, .int .i64 y.tgt, .int .u64 (y.wt : Int)] 137) := ⟨_, rfl⟩
   have hb : Below wr.heap.size wr W2 := by rw [hW2]; exact (Below.refl _ wr).alloc (Nat.le_refl _) _
   have hJ2 := hJ _ _ _ _ hJs hb
   obtain ⟨fn, tmps, assign, body, hyy, hR⟩ := hY _ y.wt (.int .u64 (y.wt : Int)) _ _ hJ2 rfl (by rw [← hw9]; exact weightsE_pre _ _ _ _)
   have HR := Lib.hid hR
   have HW9 := Lib.hid hw9
   have HF := Lib.hid (hF0.trans (Foot.of_below (S := S) hb))
   clear hR hw9 hy hb hF0 hJ2 hJs same
   subst hW2
   gi_wp2
   refine ⟨rfl, HR.out.mono ?_⟩
   rintro e W3 (⟨rfl, S3, hJ3, hF3, hT3, hK3⟩ | ⟨rfl, S3, hJ3, hF3⟩)
   ·have hFF := HF.out.trans hF3
    rw [← HW9.out] at hJ3
    clear k0 k1 k2 k3 ct2 cn2 cg2
    gi_wp2
    gi_roundg (gk - 1)
    case measure => omega
    case rel => exact ⟨i + 1, S3, by omega, by go_num, hJ3, hFF⟩
   ·have hFF := HF.out.trans hF3
    rw [← HW9.out] at hJ3
    gi_wp2
    refine bodyPost_ret (results_none rfl _ _ _) rfl ?_
    exact ⟨⟨_, rfl⟩, .inr ⟨_, _, weightsE_pre _ _ _ _, hJ3, hFF⟩⟩
  ·have hiq : e.leaves.take i = e.leaves := List.take_of_length_le (by omega)
   rw [hiq] at hJs
   obtain rfl : i = e.leaves.length := by omega
   clear hiq
   gi_wp2
   go_end0
   exact ⟨⟨_, rfl⟩, .inl ⟨_, hJs, hF0⟩⟩
end Go.Proofs.YtcpfanpcdkoiaaaGreat
namespace Go.Proofs.YtcpfanpcdkoiaaaGreat

def BK : Nat := 2 ^ 2101
def DY (K : Nat) (q : Rat) : Prop := ∃ m : Int, q = (m : Rat) / ((2 ^ 149 : Nat) : Rat) ∧ m.natAbs ≤ K * BK
theorem DY.zero (K : Nat) : DY K 0 := ⟨0, by rw [Rat.intCast_zero, Rat.div_def, Rat.zero_mul], by simp⟩
theorem DY.add {K L : Nat} {a b : Rat} (ha : DY K a) (hb : DY L b) : DY (K + L) (a + b) := by
 obtain ⟨m, rfl, hm⟩ := ha
 obtain ⟨n, rfl, hn⟩ := hb
 refine ⟨m + n, by rw [Rat.intCast_add, Rat.div_def, Rat.div_def, Rat.div_def, Rat.add_mul], ?_⟩
 rw [Nat.add_mul]
 omega
theorem DY.mono {K L : Nat} {a : Rat} (ha : DY K a) (h : K ≤ L) : DY L a := by
 obtain ⟨m, rfl, hm⟩ := ha
 exact ⟨m, rfl, Nat.le_trans hm (Nat.mul_le_mul_right _ h)⟩
theorem DY.neg {K : Nat} {a : Rat} (ha : DY K a) : DY K (-a) := by
 obtain ⟨m, rfl, hm⟩ := ha
 exact ⟨-m, by rw [Rat.intCast_neg, Rat.div_def, Rat.div_def, Rat.neg_mul], by rwa [Int.natAbs_neg]⟩
theorem DY.dval (b : Nat) : DY 1 (dval' 8 23 b) := by
 have hv : ∀ n, n < 2 ^ 31 → DY 1 (fval 8 23 n) := fun n hn => by
  refine ⟨(fint 23 n : Int), ?_, ?_⟩
  ·unfold fval
   rw [qOf_frac _ _ (Nat.pow_pos (by decide))]
   rfl
  ·rw [Int.natAbs_natCast, Nat.one_mul]
   unfold BK
   generalize hK : 2101 = K
   exact Nat.le_of_lt (fint_le (E := 8) (by decide) (by decide) hn (Nat.le_of_eq hK))
 unfold dval'
 split
 ·have hlt : b % 2 ^ (8 + 23) < 2 ^ 31 := Nat.mod_lt _ (by decide)
  split
  ·exact (hv _ hlt).neg
  ·exact hv _ hlt
 ·exact DY.zero 1
theorem DY.sum {K : Nat} : ∀ (l : List Rat), (∀ q ∈ l, DY K q) → DY (l.length * K) (qsumL l) := by
 intro l
 suffices h : ∀ (l : List Rat) (a : Rat) (L : Nat), DY L a → (∀ q ∈ l, DY K q) → DY (L + l.length * K) (l.foldl (· + ·) a) by
  intro hq
  have := h l 0 0 (DY.zero 0) hq
  rwa [Nat.zero_add] at this
 intro l
 induction l with
 | nil => intro a L ha _; simpa using ha
 | cons x r ih =>
  intro a L ha hq
  rw [List.foldl_cons]
  have := ih (a + x) (L + K) (ha.add (hq x (List.mem_cons_self ..))) (fun q h => hq q (List.mem_cons_of_mem _ h))
  rw [List.length_cons, Nat.succ_mul]
  rwa [show L + (r.length * K + K) = L + K + r.length * K by omega]
theorem DY.qb {K : Nat} {q : Rat} (h : DY K q) (hK : K ≤ 1000000000) : QB q 67 := by
 obtain ⟨m, rfl, hm⟩ := h
 have hd : (0 : Nat) < 2 ^ 149 := Nat.pow_pos (by decide)
 have e : (m : Rat) / ((2 ^ 149 : Nat) : Rat) = qOf (decide (m < 0)) m.natAbs (2 ^ 149) := by
  rw [qOf_frac _ _ hd]
  congr 2
  unfold sg
  by_cases h0 : m < 0
  ·rw [decide_eq_true h0]; simp; omega
  ·rw [decide_eq_false h0]; simp; omega
 rw [e]
 have hb : m.natAbs < 2 ^ (32 * 67) := by
  refine Nat.lt_of_le_of_lt (Nat.le_trans hm (Nat.mul_le_mul_right _ hK)) ?_
  unfold BK
  decide +kernel
 refine ⟨limbs_bits ?_, limbs_bits ?_⟩
 ·rw [qOf_num hd, sg_natAbs]
  exact Nat.lt_of_le_of_lt (Nat.div_le_self _ _) hb
 ·rw [qOf_den hd]
  exact Nat.lt_of_le_of_lt (Nat.div_le_self _ _) (by decide +kernel)
end Go.Proofs.YtcpfanpcdkoiaaaGreat
namespace Go.Proofs.YtcpfanpcdkoiaaaGreat
open Go.RowKit Go.Shelf


set_option maxHeartbeats 1000000 in
theorem weights_any (v : Value) (e : EE) (bo : Option Addr) (bc : Nat) (no : Option Addr) (nc : Nat) (lo : Option Addr) (lc : Nat) (t n g : Int) (w : World) (h : EnsIs w v e bo bc no nc lo lc) :
  Calls Tryz.prog 38 #[v, .int .i64 t, .int .i64 n, .int .i64 g] w fun e9 w' => ∃ pe pt pn pg : Nat, e9 = .returned (.func (.func 107) #[] #[.pointer (some ⟨pe, 0, none⟩), .pointer (some ⟨pt, 0, none⟩), .pointer (some ⟨pn, 0, none⟩), .pointer (some ⟨pg, 0, none⟩)]) ∧ BoxL w' pe [.int .i64 e.feats, .int .i64 e.tgts, .string ⟨e.agg.toArray⟩, .string ⟨e.post.toArray⟩, .slice bo e.base.length bc, .slice no e.nodes.length nc, .slice lo e.leaves.length lc] ∧
   w'.cell? ⟨pt, 0, none⟩ = some (.int .i64 t) ∧ w'.cell? ⟨pn, 0, none⟩ = some (.int .i64 n) ∧ w'.cell? ⟨pg, 0, none⟩ = some (.int .i64 g) ∧ w.heap.size ≤ pe ∧ pt < w'.heap.size ∧ pn < w'.heap.size ∧ pg < w'.heap.size ∧ pe < pt ∧ pt < pn ∧ pn < pg ∧ Below w.heap.size w w' := by
 obtain ⟨rfl, h1, h2, h4, h5, h3, h6, h7, h8, h9⟩ := h
 obtain ⟨w0, hw0⟩ : ∃ w0, w0 = ((((w.alloc (.cells #[.int .i64 e.feats, .int .i64 e.tgts, .string ⟨e.agg.toArray⟩, .string ⟨e.post.toArray⟩, .slice bo e.base.length bc, .slice no e.nodes.length nc, .slice lo e.leaves.length lc] 75)).alloc (.cells #[.int .i64 t] 3)).alloc (.cells #[.int .i64 n] 3)).alloc (.cells #[.int .i64 g] 3)) := ⟨_, rfl⟩
 have hbf : Below w.heap.size w w0 := by rw [hw0]; exact (((((Below.refl _ w).alloc (Nat.le_refl _) _).alloc (by simp <;> omega) _).alloc (by simp <;> omega) _).alloc (by simp <;> omega) _)
 obtain ⟨pe, hpe⟩ : ∃ p, p = w.heap.size := ⟨_, rfl⟩
 have hbe : BoxL w0 pe [.int .i64 e.feats, .int .i64 e.tgts, .string ⟨e.agg.toArray⟩, .string ⟨e.post.toArray⟩, .slice bo e.base.length bc, .slice no e.nodes.length nc, .slice lo e.leaves.length lc] := by rw [hw0, hpe]; exact BoxL.of7 (by go_simp) (by go_simp) (by go_simp) (by go_simp) (by go_simp) (by go_simp) (by go_simp) (by go_simp) (by go_simp) (by go_simp) (by go_simp) (by go_simp) (by go_simp) (by go_simp)
 obtain ⟨pt, hpt⟩ : ∃ p, p = w.heap.size + 1 := ⟨_, rfl⟩
 have hbt : Box w0 pt (Value.int .i64 t) := by rw [hw0, hpt]; exact ⟨by go_simp, by go_simp, by simp <;> omega⟩
 obtain ⟨pn, hpn⟩ : ∃ p, p = w.heap.size + 1 + 1 := ⟨_, rfl⟩
 have hbn : Box w0 pn (Value.int .i64 n) := by rw [hw0, hpn]; exact ⟨by go_simp, by go_simp, by simp <;> omega⟩
 obtain ⟨pg, hpg⟩ : ∃ p, p = w.heap.size + 1 + 1 + 1 := ⟨_, rfl⟩
 have hbg : Box w0 pg (Value.int .i64 g) := by rw [hw0, hpg]; exact ⟨by go_simp, by go_simp, by simp <;> omega⟩
 have HP : Hid (w.heap.size ≤ pe ∧ pe < pt ∧ pt < pn ∧ pn < pg) := Lib.hid (by omega)
 have HW := Lib.hid hw0; clear hw0
 go_enter Tryz.func38, Tryz.ntmps38
 go_upto_region 1 with fail
 rw [← HW.out, ← hpg, ← hpn, ← hpt, ← hpe]
 clear hpe hpt hpn hpg HW
 have h9 := HP.out
 go_wp2_with fail
 go_ret
 exact ⟨pe, pt, pn, pg, rfl, hbe, hbt.cell, hbn.cell, hbg.cell, h9.1, hbt.lt, hbn.lt, hbg.lt, h9.2.1, h9.2.2.1, h9.2.2.2, hbf⟩
theorem enter_weights : ∀ args w, (callFunc 107 args).run Tryz.prog w = .ok (.enter 107 args) w := enters_of Tryz.func107 (by kernel_rfl) rfl
attribute [local go_sem] Oper.semAt_some field_nat
end Go.Proofs.YtcpfanpcdkoiaaaGreat

namespace Go.Proofs.YtcpfanpcdkoiaaaGreat
open Go.RowKit


attribute [local go_sem] field_nat
theorem trim_r (v : Value) (n : Nat) (w : World) (h : RIs w v n) : Calls Tryz.prog 187 #[v] w fun e w' => e = .returned v ∧ Below w.heap.size w w' :=
 (rtrim_same v n w h).mono fun e w' h => ⟨h.1, h.2 ▸ Below.refl _ _⟩
theorem RIs.len {w : World} {o : Option Addr} {l c n : Nat} (h : RIs w (.slice o l c) n) : l = (rlimbs n).length := by
 obtain ⟨ao, cap, h1, _⟩ := h.open
 injection h1
theorem rlimbs_mono {a b k : Nat} (hab : a ≤ b) (h : (rlimbs b).length ≤ k) : (rlimbs a).length ≤ k := Nat.le_trans (rlimbs_length_mono hab) h
theorem rlimbs_one : (rlimbs 1).length = 1 := by rw [rlimbs_pos (by omega)]; simp [rlimbs_zero]
theorem rlimbs_mul {a b m n : Nat} (ha : (rlimbs a).length ≤ m) (hb : (rlimbs b).length ≤ n) : (rlimbs (a * b)).length ≤ m + n := by
 have h1 := lt_pow_rlimbs a
 have h2 := lt_pow_rlimbs b
 refine rlimbs_length_le ?_
 have h3 : a < 10000 ^ m := Nat.lt_of_lt_of_le h1 (Nat.pow_le_pow_right (by decide) ha)
 have h4 : b < 10000 ^ n := Nat.lt_of_lt_of_le h2 (Nat.pow_le_pow_right (by decide) hb)
 rw [Nat.pow_add]
 exact Nat.mul_lt_mul'' h3 h4
set_option maxHeartbeats 1000000 in
theorem rmake_any (neg : Bool) (vn vd : Value) (n d : Nat) (w : World) (hn : RIs w vn n) (hd : RIs w vd d) (hln : (rlimbs n).length ≤ 1000000) (hld : (rlimbs d).length ≤ 1000000) (hd0 : 0 < d) :
  Calls Tryz.prog 175 #[.bool neg, vn, vd] w (RQPost w (qOf neg n d)) := by
 obtain ⟨nO, nL, nC, rfl⟩ := hn.form
 obtain ⟨dO, dL, dC, rfl⟩ := hd.form
 obtain ⟨w0, hw0⟩ : ∃ w0, w0 = (w.alloc (.cells #[.bool false, .slice none 0 0, .slice none 0 0] 193)) := ⟨_, rfl⟩
 have hbf : Below w.heap.size w w0 := by rw [hw0]; exact ((Below.refl _ w).alloc (Nat.le_refl _) _)
 obtain ⟨pr, hpr⟩ : ∃ p, p = w.heap.size := ⟨_, rfl⟩
 have hbr : Box3 w0 pr (Value.bool false) (Value.slice none 0 0) (Value.slice none 0 0) := by rw [hw0, hpr]; exact ⟨by go_simp, by go_simp, by go_simp, by go_simp, by go_simp, by go_simp⟩
 have HP : Hid (w.heap.size ≤ pr) := Lib.hid (by omega)
 replace hn := hn.below hbf
 replace hd := hd.below hbf
 have HW := Lib.hid hw0; clear hw0
 go_enter Tryz.func175, Tryz.ntmps175
 go_upto_region 1 with fail
 rw [← HW.out, ← hpr]
 clear hpr HW
 have HD := Lib.hid hd0; clear hd0
 go_wp2_with fail
 refine (trim_r _ n _ hn).mono ?_
 rintro e w1 ⟨rfl, hb⟩
 replace hbr := hbr.kept hb
 replace hn := hn.below hb
 replace hd := hd.below hb
 replace hbf := hbf.trans (hb.mono hbf.size)
 clear hb
 go_wp2_with fail
 refine (trim_r _ d _ hd).mono ?_
 rintro e w2 ⟨rfl, hb⟩
 replace hbr := hbr.kept hb
 replace hn := hn.below hb
 replace hd := hd.below hb
 replace hbf := hbf.trans (hb.mono hbf.size)
 clear hb
 go_wp2_with fail
 refine (rgcd_any _ _ n d _ hn hd hln hld).mono ?_
 rintro e w3 ⟨r9, rfl, hg, hb⟩
 replace hbr := hbr.kept hb
 replace hn := hn.below hb
 replace hd := hd.below hb
 replace hbf := hbf.trans (hb.mono hbf.size)
 clear hb
 obtain ⟨gO, gL, gC, rfl⟩ := hg.form
 have HG : Hid (0 < Nat.gcd n d) := Lib.hid (Nat.gcd_pos_of_pos_right _ HD.out)
 have hlg : (rlimbs (Nat.gcd n d)).length ≤ 1000000 := rlimbs_mono (Nat.gcd_le_right _ HD.out) hld
 go_wp2_with fail
 refine (rdivmod_any _ _ n (Nat.gcd n d) _ hn hg hln hlg HG.out).mono ?_
 rintro e w4 ⟨r9, s9, rfl, hx, hs, hb⟩
 replace hbr := hbr.kept hb
 replace hn := hn.below hb
 replace hd := hd.below hb
 replace hg := hg.below hb
 replace hbf := hbf.trans (hb.mono hbf.size)
 clear hb
 obtain ⟨xO, xL, xC, rfl⟩ := hx.form
 obtain ⟨sO, sL, sC, rfl⟩ := hs.form
 clear hs
 go_wp2_with fail
 refine (rdivmod_any _ _ d (Nat.gcd n d) _ hd hg hld hlg HG.out).mono ?_
 rintro e w5 ⟨r9, s9, rfl, hy, hs, hb⟩
 replace hbr := hbr.kept hb
 replace hn := hn.below hb
 replace hd := hd.below hb
 replace hg := hg.below hb
 replace hx := hx.below hb
 replace hbf := hbf.trans (hb.mono hbf.size)
 clear hb
 obtain ⟨yO, yL, yC, rfl⟩ := hy.form
 obtain ⟨tO, tL, tC, rfl⟩ := hs.form
 clear hs
 have hxl := hx.len
 have hx0 : decide ((0 : Int) < (xL : Int)) = decide (0 < n) := by
  rw [hxl]
  by_cases h0 : n = 0
  ·subst h0; simp [rlimbs_zero]
  ·have h1 : 0 < n / Nat.gcd n d := Nat.div_pos (Nat.gcd_le_left _ (by omega)) HG.out
   have h2 : rlimbs (n / Nat.gcd n d) ≠ [] := fun h => by have := rlimbs_eq_nil.1 h; omega
   have h3 : 0 < (rlimbs (n / Nat.gcd n d)).length := List.length_pos_iff.2 h2
   rw [decide_eq_true (by omega), decide_eq_true (by omega)]
 have HX := Lib.hid hx0; clear hx0 hxl
 cases neg
 case false =>
  have er0 := hbr.c0
  have fr0 := hbr.f0
  have er1 := hbr.c1
  have fr1 := hbr.f1
  have er2 := hbr.c2
  have fr2 := hbr.f2
  go_wp2_with fail
  exact end_r rfl rfl rfl hbr (show w.heap.size ≤ pr by have := HP.out; omega) (RQIs.made HD.out (by first | rfl | (rw [← HX.out]; simp)) hx hy) hbf
 case true =>
  have er0 := hbr.c0
  have fr0 := hbr.f0
  have er1 := hbr.c1
  have fr1 := hbr.f1
  have er2 := hbr.c2
  have fr2 := hbr.f2
  go_wp2_with fail
  exact end_r rfl rfl rfl hbr (show w.heap.size ≤ pr by have := HP.out; omega) (RQIs.made HD.out (by first | rfl | (rw [← HX.out]; simp)) hx hy) hbf
end Go.Proofs.YtcpfanpcdkoiaaaGreat

namespace Go.Proofs.YtcpfanpcdkoiaaaGreat
open Go.RowKit


attribute [local go_sem] field_nat
set_option maxHeartbeats 1000000 in
theorem rof_any (v : Nat) (w : World) (hv : v < 18446744073709551616) :
  Calls Tryz.prog 177 #[.int .u64 (v : Int)] w fun e w' => ∃ r, e = .returned r ∧ RIs w' r v ∧ Below w.heap.size w w' := by
 have hlen : (rlimbs v).length ≤ 5 := rlimbs_length_le (Nat.lt_of_lt_of_le hv (by decide))
 have HL := Lib.hid hlen; clear hlen
 go_enter Tryz.func177, Tryz.ntmps177
 go_wp2_with fail
 go_loopg [0, 3] v (fun gg nv av wr => ∃ (zs : List Nat), gg ≤ v ∧ nv = .int .u64 (gg : Int) ∧ Owns w.heap.size 3 wr av (ints .i64 zs) ∧ rlimbs v = zs ++ rlimbs gg ∧ Below w.heap.size w wr)
 case atStart => exact ⟨[], Nat.le_refl _, rfl, Owns.nil _ _ _, rfl, Below.refl _ _⟩
 case round =>
  obtain ⟨zs, hle, rfl, ho, hz, hbr⟩ := hrel
  have hzl : zs.length ≤ 5 := by have := HL.out; rw [hz] at this; simp at this; omega
  have HZ := Lib.hid hz; clear hz
  have HLE := Lib.hid hle; clear hle
  by_cases h0 : 0 < gk
  ·have hg64 : gk < 18446744073709551616 := by have := HLE.out; omega
   go_wp2_with (at_builtin; refine append1 ER ho rfl rfl rfl rfl rfl (by rw [ints_length]; omega) (by rw [ints_length]; unfold maxLen; omega) hbr.size ?_; intro v5 w5 ho5 hb5 hg5)
   go_roundg (gk / 10000)
   case measure => omega
   case rel =>
    refine ⟨zs ++ [gk % 10000], by have := HLE.out; omega, by go_num, ?_, by rw [HZ.out, rlimbs_pos h0]; simp, hbr.trans hb5⟩
    rw [ints_append]
    refine owns_cast ho5 ?_
    simp [ints]
  ·obtain rfl : gk = 0 := by omega
   have hz2 : rlimbs v = zs := by have := HZ.out; rw [rlimbs_zero] at this; simpa using this
   go_wp2
   go_ret
   exact ⟨_, rfl, by show Ints .i64 _ _ (rlimbs v); rw [hz2]; exact ho.toInts, hbr⟩
theorem QB.small {neg : Bool} {n d k : Nat} (hn : n < 4294967296) (hd : d < 4294967296) (h0 : 0 < d) (hk : 1 ≤ k) : QB (qOf neg n d) k := QB.of _ (limbs_bound hn hk) (limbs_bound hd hk) h0
theorem QB.int {v : Int} {k : Nat} (h : v.natAbs < 18446744073709551616) (hk : 2 ≤ k) : QB (v : Rat) k := by
 have hl : (limbs v.natAbs).length ≤ k := Nat.le_trans (limbs_length_le (k := 2) (by omega)) hk
 rcases (show v < 0 ∨ 0 ≤ v by omega) with h0 | h0
 ·rw [← of_neg v h0]; exact QB.of _ hl (limbs_bound (by decide) (by omega)) (by decide)
 ·rw [← of_pos v h0]; exact QB.of _ hl (limbs_bound (by decide) (by omega)) (by decide)
end Go.Proofs.YtcpfanpcdkoiaaaGreat
