/-
  The laws' own book: lists of texts: SameTexts, LentTexts, StaysTexts.
-/
import Derived.Test.YtjcldnkgidfifaaStrS
import Derived.BigQuiet
import Derived.Deep.LoopGhost
import Derived.Deep.Cut
import Derived.BigRegion
import Derived.WalkKit
import Derived.ProofKit
import Derived.OwnWalk
namespace Go.Proofs.Ytjcldnkgidfifaa
open Go.RowKit
set_option linter.unusedVariables false
set_option linter.unusedSimpArgs false

/-- The word that stands behind a lent list. -/
abbrev markV : Value := .string ⟨#[109, 97, 114, 107]⟩
def svals (ls : List (List UInt8)) : List Value := ls.map fun l => .string ⟨l.toArray⟩
theorem svals_length (ls : List (List UInt8)) : (svals ls).length = ls.length := by simp [svals]
theorem svals_get {ls : List (List UInt8)} {i : Nat} (hi : i < ls.length) : (svals ls)[i]? = some (.string ⟨(ls[i]?.getD []).toArray⟩) := by
  simp [svals, List.getElem?_eq_getElem hi]
theorem svals_one (ls : List (List UInt8)) : ∀ u ∈ svals ls, u.oneCell' = true := by
  intro u hu
  obtain ⟨_, _, rfl⟩ := List.mem_map.1 hu
  rfl
/-- A list of strings; a nil one has no room. -/
def StrsN (w : World) (v : Value) (ls : List (List UInt8)) : Prop := Strs w v ls ∧ ∀ l c, v = .slice none l c → c = 0
theorem ES : Elem Try.prog 26 9 (.string ⟨#[]⟩) 16 := elem_of Try.underlying26 (by kernel_rfl) rfl
/-- A list of the call's own with a mark behind it. -/
structure Lent (B : Nat) (W : World) (v : Value) (ls : List (List UInt8)) : Prop where
  row : ∃ g cap, v = .slice (some ⟨g, 0, none⟩) ls.length cap ∧ B ≤ g ∧ g < W.heap.size ∧ ls.length + 1 ≤ cap ∧ cap ≤ maxLen ∧ (∀ i, i < ls.length → W.cell? ⟨g, i, none⟩ = some (.string ⟨(ls[i]?.getD []).toArray⟩)) ∧ W.cell? ⟨g, ls.length, none⟩ = some markV
theorem Lent.below {B : Nat} {w w' : World} {v : Value} {ls : List (List UInt8)} (h : Lent B w v ls) (hb : Below w.heap.size w w') : Lent B w' v ls := by
  obtain ⟨g, cap, h1, h2, h3, h4, h5, h6, h7⟩ := h.row
  exact ⟨g, cap, h1, h2, Nat.lt_of_lt_of_le h3 hb.size, h4, h5, fun i hi => (hb.cell (p := ⟨g, i, none⟩) h3).trans (h6 i hi), (hb.cell (p := ⟨g, ls.length, none⟩) h3).trans h7⟩
theorem Lent.strs {B : Nat} {w : World} {v : Value} {ls : List (List UInt8)} (h : Lent B w v ls) : Strs w v ls := by
  obtain ⟨g, cap, h1, h2, h3, h4, h5, h6, h7⟩ := h.row
  exact ⟨some ⟨g, 0, none⟩, cap, h1, by omega, h5, .inr ⟨g, 0, rfl, h3, fun i hi => by rw [Nat.zero_add]; exact h6 i hi⟩⟩

set_option maxRecDepth 100000 in
set_option maxHeartbeats 1000000 in
/-- SameTexts, of one list twice. -/
theorem same_texts (va vb : Value) (ls : List (List UInt8)) (w : World) (ha : Strs w va ls) (hb : Strs w vb ls) :
    Calls Try.prog 32 #[va, vb] w fun e w' => e = .returned (.bool true) ∧ Below w.heap.size w w' := by
  obtain ⟨ao, ca, rfl, ha1, ha2, ha3⟩ := ha
  obtain ⟨bo, cb, rfl, hb1, hb2, hb3⟩ := hb
  unfold maxLen at ha2 hb2
  go_enter Try.func32, Try.ntmps32
  go_wp2_with fail
  go_loopg [5] ls.length (fun gg iv wr => ∃ i : Nat, i + gg = ls.length ∧ iv = .int .i64 (i : Int) ∧ Below w.heap.size w wr)
  case atStart => exact ⟨0, by omega, rfl, Below.refl _ _⟩
  case round =>
    obtain ⟨i, hi, rfl, hbr⟩ := hrel
    by_cases hil : i < ls.length
    · rcases ha3 with h | ⟨ga, oa, rfl, hga, hca⟩
      · rw [h] at hil; simp at hil
      rcases hb3 with h | ⟨gb, ob, rfl, hgb, hcb⟩
      · rw [h] at hil; simp at hil
      have ea := (hbr.cell (p := ⟨ga, oa + i, none⟩) hga).trans (hca i hil)
      have eb := (hbr.cell (p := ⟨gb, ob + i, none⟩) hgb).trans (hcb i hil)
      clear hca hcb
      generalize ls[i]?.getD [] = s at *
      have hss : (s == s) = true := beq_self_eq_true _
      have q1 : (i : Int) < (ls.length : Int) := by omega
      have q2 : (0 : Int) ≤ (i : Int) := by omega
      go_wp2_with fail
      go_quiet (fail)
      go_wp2_with fail
      go_roundg (gk - 1)
      case measure => omega
      case rel => exact ⟨i + 1, by omega, by first | rfl | go_num, ⟨hbr.os, hbr.tape, hbr.output, hbr.size, hbr.block⟩⟩
    · have q1 : ¬ (i : Int) < (ls.length : Int) := by omega
      go_wp2_with fail
      go_ret
      exact ⟨rfl, hbr⟩
set_option maxRecDepth 100000 in
set_option maxHeartbeats 1000000 in
/-- LentTexts: a copy with a mark behind it. -/
theorem lent_texts (va : Value) (ls : List (List UInt8)) (w : World) (ha : StrsN w va ls) (hl : ls.length ≤ 1000000) :
    Calls Try.prog 11 #[va] w fun e w' => ∃ v, e = .returned v ∧ Lent w.heap.size w' v ls ∧ Below w.heap.size w w' := by
  obtain ⟨⟨ao, ca, rfl, ha1, ha2, ha3⟩, hnil⟩ := ha
  have hlen := svals_length ls
  have key : ∀ (v6 : Value) (w6 : World), Owns w.heap.size 9 w6 v6 (svals ls ++ [markV]) → Below w.heap.size w w6 → ∃ g cap, v6 = .slice (some ⟨g, 0, none⟩) (ls.length + 1) cap ∧ Lent w.heap.size w6 (.slice (some ⟨g, 0, none⟩) ls.length cap) ls ∧ ls.length + 1 ≤ cap ∧ cap ≤ maxLen := fun v6 w6 ho hb => by
    rcases ho.shape with ⟨_, h⟩ | ⟨g, cap, rfl, h2, h3, h4, h5, h6, h7⟩
    · simp at h
    · have hl2 : (svals ls ++ [markV]).length = ls.length + 1 := by simp [hlen]
      rw [hl2] at h4 h6 ⊢
      refine ⟨g, cap, rfl, ⟨g, cap, rfl, h2, h3, h4, h5, fun i hi => ?_, ?_⟩, h4, h5⟩
      · rw [h6 i (by omega), List.getElem?_append_left (by omega), svals_get hi]
      · rw [h6 _ (by omega), ← hlen, List.getElem?_concat_length]
  go_enter Try.func11, Try.ntmps11
  cases ao with
  | none =>
    obtain rfl := hnil _ _ rfl
    have hls : ls = [] := List.eq_nil_of_length_eq_zero (by omega)
    subst hls
    obtain ⟨i9, hi9, _⟩ := ES.info
    go_wp2_with (first
      | (at_builtin; refine wpList_append_own_none rfl _ _ _ rfl w.heap.size 9 i9 1 ES.und hi9 _ 0 [] rfl (Owns.nil w.heap.size 9 w) rfl ?_)
      | (at_builtin; refine append1 ES (Owns.nil w.heap.size 9 w) rfl rfl rfl rfl rfl (by simp) (by simp [maxLen]) (Nat.le_refl _) ?_; intro v6 w6 ho6 hb6 hg6; obtain ⟨g, cap, rfl, hL, hc1, hc2⟩ := key v6 w6 ho6 hb6; unfold maxLen at hc2))
    go_ret
    exact ⟨_, rfl, hL, hb6⟩
  | some ad =>
    have hy : ∀ j u, (svals ls)[j]? = some u → w.cell? (ad.add j) = some u := fun j u hj => by
      have hjl : j < ls.length := by have := (List.getElem?_eq_some_iff.1 hj).1; omega
      rcases ha3 with h | ⟨b, off, hab, hb, hc⟩
      · rw [h] at hjl; simp at hjl
      · cases hab
        rw [Addr.add_lit, hc j hjl, ← hj, svals_get hjl]
    have hlc : (svals ls).length + 1 ≤ 1000001 := by omega
    go_wp2_with (first
      | (at_builtin; refine appendN ES (Owns.nil w.heap.size 9 w) rfl rfl rfl (ys := svals ls) (ad := ad) (c := ca) (by rw [hlen]; rfl) hy (svals_one ls) (by simp; omega) (by simp [maxLen]; omega) (Nat.le_refl _) ?_; intro v5 w5 ho5 hb5 hg5; rw [List.nil_append] at ho5)
      | (at_builtin; refine append1 ES ho5 rfl rfl rfl rfl rfl (by omega) (by unfold maxLen; omega) hb5.size ?_; intro v6 w6 ho6 hb6 hg6; obtain ⟨g, cap, rfl, hL, hc1, hc2⟩ := key v6 w6 ho6 (hb5.trans hb6); unfold maxLen at hc2))
    go_ret
    exact ⟨_, rfl, hL, hb5.trans hb6⟩
set_option maxRecDepth 100000 in
set_option maxHeartbeats 1000000 in
/-- StaysTexts, of a lent list and the one that it was. -/
theorem stays_texts (B : Nat) (va vb : Value) (ls : List (List UInt8)) (w : World) (ha : Lent B w va ls) (hb : Strs w vb ls) (hl : ls.length ≤ 1000000) :
    Calls Try.prog 13 #[va, vb] w fun e w' => e = .returned (.bool true) ∧ Below w.heap.size w w' := by
  have hs := ha.strs
  obtain ⟨g, cap, rfl, h2, h3, h4, h5, h6, h7⟩ := ha.row
  unfold maxLen at h5
  go_enter Try.func13, Try.ntmps13
  go_wp2_with (go_at_call 32; refine (same_texts _ _ ls _ hs hb).mono ?_; rintro e w1 ⟨rfl, hb1⟩; have e7 := (hb1.cell (p := ⟨g, ls.length, none⟩) h3).trans h7)
  go_ret
  exact ⟨rfl, hb1⟩
end Go.Proofs.Ytjcldnkgidfifaa
