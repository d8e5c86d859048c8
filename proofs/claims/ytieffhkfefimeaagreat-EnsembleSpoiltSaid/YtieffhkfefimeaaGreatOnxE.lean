/-
  onnx: finite and the functions handed to every.
-/
import Derived.Test.YtieffhkfefimeaaGreatOnxC
import Derived.Test.YtieffhkfefimeaaGreatIeeeB
namespace Go.Proofs.YtieffhkfefimeaaGreat
open Go.RowKit
set_option linter.unusedVariables false
set_option linter.unusedSimpArgs false

theorem decode_s (b : Nat) (k : Int) (q : Rat) (w : World) (hk : Hid (dkind 8 23 b = k)) (hq : Hid (dval' 8 23 b = q)) (hb64 : b < 18446744073709551616) :
    Calls Tryz.prog 86 #[formV 8 23, .int .u64 (b : Int)] w (QPostC w q k) := by
  have h := decode_any 8 23 b w (by decide) (by decide) (by decide) (by decide) hb64
  rwa [hk.out, hq.out] at h
set_option maxRecDepth 100000 in
set_option maxHeartbeats 1000000 in
theorem finite_any (p : Nat) (r : Bool) (w : World) (hp : p < 18446744073709551616) (hr : Hid (finP p = r)) :
    Calls Tryz.prog 35 #[.int .u64 (p : Int)] w fun e w' => e = .returned (.bool r) ∧ Below w.heap.size w w' := by
  obtain ⟨k, hk⟩ : ∃ k, dkind 8 23 p = k := ⟨_, rfl⟩
  have hr2 : r = (decide (p < 4294967296) && decide (k = 1)) := by rw [← hr.out, ← hk]; rfl
  have hD := fun W => decode_s p k _ W (Lib.hid hk) (Lib.hid rfl) hp
  generalize dval' 8 23 p = q at hD
  clear hk hr
  go_enter Tryz.func35, Tryz.ntmps35
  go_wp2_with (first | (go_at_call 85; refine (single_any _).mono ?_; rintro e w1 ⟨rfl, hb1⟩) | (go_at_call 86; refine (hD _).mono ?_; rintro e w2 hq9; obtain ⟨vB, vxO, vxL, vxC, vyO, vyL, vyC, rfl, hS, hvx, hvy, hv, hb⟩ := hq9.out; clear hS hvx hvy hv))
  all_goals
    rename_i h9
    go_ret
    refine ⟨ret_one (congrArg Value.bool ?_), hb1.trans ((hb.alloc hb.size _).mono hb1.size)⟩
    rw [hr2]
    first
      | (rw [show decide (p < 4294967296) = true from by simp; omega, Bool.true_and]; rfl)
      | (rw [show decide (p < 4294967296) = false from by simp; omega, Bool.false_and])
set_option maxRecDepth 100000 in
theorem base1_any (p : Nat) (w : World) (hp : p < 18446744073709551616) :
    Calls Tryz.prog 82 #[.int .u64 (p : Int)] w fun e w' => e = .returned (.bool (!finP p)) ∧ Below w.heap.size w w' := by
  have hF := finite_any p _ w hp (Lib.hid rfl)
  generalize finP p = b at hF ⊢
  go_enter Tryz.func82, Tryz.ntmps82
  go_wp2_with (go_at_call 35; refine hF.mono ?_; rintro e w1 ⟨rfl, hb1⟩)
  go_ret
  exact ⟨by first | rfl | simp, hb1⟩
theorem enter_base1 : ∀ args w, (callFunc 82 args).run Tryz.prog w = .ok (.enter 82 args) w := enters_of Tryz.func82 (by kernel_rfl) rfl
/-- Texts that a call lays. -/
theorem strs_of {w : World} {g : Nat} {ls : List (List UInt8)} (hg : g < w.heap.size) (hl : ls.length ≤ maxLen) (hc : ∀ i, i < ls.length → w.cell? ⟨g, i, none⟩ = some (.string ⟨(ls[i]?.getD []).toArray⟩)) : Strs w (.slice (some ⟨g, 0, none⟩) ls.length ls.length) ls :=
  ⟨_, _, rfl, Nat.le_refl _, hl, .inr ⟨g, 0, rfl, hg, fun i hi => by rw [Nat.zero_add]; exact hc i hi⟩⟩
set_option maxRecDepth 100000 in
theorem modes_any (w : World) : Calls Tryz.prog 79 #[] w fun e w' => ∃ g, e = .returned (.slice (some ⟨g, 0, none⟩) 7 7) ∧ g < w'.heap.size ∧ (∀ i, i < 7 → w'.cell? ⟨g, i, none⟩ = some (.string ⟨(modeW[i]?.getD []).toArray⟩)) ∧ Below w.heap.size w w' := by
  go_enter Tryz.func79, Tryz.ntmps79
  go_wp2_with fail
  go_ret
  refine ⟨_, rfl, by simp, fun i hi => ?_, (Below.refl _ _).alloc (Nat.le_refl _) _⟩
  match i, hi with
  | 0, _ => go_simp; rfl
  | 1, _ => go_simp; rfl
  | 2, _ => go_simp; rfl
  | 3, _ => go_simp; rfl
  | 4, _ => go_simp; rfl
  | 5, _ => go_simp; rfl
  | 6, _ => go_simp; rfl
set_option maxRecDepth 100000 in
set_option maxHeartbeats 1000000 in
/-- slices.Index at texts. -/
theorem idx_str (v : Value) (ls : List (List UInt8)) (x : List UInt8) (w : World) (r : Int) (h : Strs w v ls) (hr : Hid (fidx (ls.findIdx? (fun l => decide (l = x))) = r)) :
    Calls Tryz.prog 78 #[v, .string ⟨x.toArray⟩] w fun e w' => e = .returned (.int .i64 r) ∧ Below w.heap.size w w' := by
  obtain ⟨ao, c, rfl, h1, h2, h3⟩ := h
  unfold maxLen at h2
  go_enter Tryz.func78, Tryz.ntmps78
  go_wp2_with fail
  go_loopg [8] ls.length (fun gg s8 wr => ∃ kk : Nat, kk ≤ ls.length ∧ ls.length - kk ≤ gg ∧ s8 = .int .i64 kk ∧ Aside (∀ j (hj : j < kk) (hj2 : j < ls.length), decide (ls[j] = x) = false) ∧ Below w.heap.size w wr)
  case atStart => exact ⟨0, Nat.zero_le _, by omega, rfl, fun j hj => absurd hj (Nat.not_lt_zero _), Below.refl _ _⟩
  case round =>
    obtain ⟨kk, hkk, hg, rfl, A, hbr⟩ := hrel
    by_cases hlt : kk < ls.length
    · have hltz : (kk : Int) < (ls.length : Int) := by omega
      have hltz0 : (0 : Int) ≤ (kk : Int) := by omega
      rcases h3 with h0 | ⟨b, off, rfl, hb, hc⟩
      · rw [h0] at hlt; simp at hlt
      have l2 := (hbr.cell (p := ⟨b, off + kk, none⟩) hb).trans (hc kk hlt)
      rw [List.getElem?_eq_getElem hlt, Option.getD_some] at l2
      obtain ⟨y, hy⟩ : ∃ y, ls[kk] = y := ⟨_, rfl⟩
      rw [hy] at l2
      have B : Aside (ls[kk] = y) := hy
      clear hy hc
      by_cases q : y = x
      · subst q
        have q2 : (y == y) = true := beq_self_eq_true _
        have hr2 : r = (kk : Int) := by rw [← hr.out, find_hit hlt (by rw [B.out]; simp) (fun j hj => A.out j hj (by omega))]; rfl
        subst hr2
        clear hr A B
        go_wp2_with fail
        go_ret
        exact ⟨rfl, hbr⟩
      · have q2 : (x == y) = false := by simp; exact fun e => q e.symm
        have q3 : Aside (decide (y = x) = false) := by simp [Aside]; exact q
        clear hr q
        go_wp2_with fail
        go_roundg (ls.length - (kk + 1))
        case measure => omega
        case rel =>
          refine ⟨kk + 1, by omega, by omega, by go_num, (show Aside _ from fun j hj hj2 => ?_), hbr⟩
          by_cases e : j = kk
          · subst e; rw [B.out]; exact q3.out
          · exact A.out j (by omega) hj2
    · have hltz : ¬ (kk : Int) < (ls.length : Int) := by omega
      have hr2 : r = -1 := by rw [← hr.out, find_miss (fun j hj => A.out j (by omega) hj)]; rfl
      subst hr2; clear hr A
      go_wp2_with fail
      go_ret
      exact ⟨rfl, hbr⟩
set_option maxRecDepth 100000 in
theorem cont_str (v : Value) (ls : List (List UInt8)) (x : List UInt8) (w : World) (r : Bool) (h : Strs w v ls) (hr : Hid (decide (x ∈ ls) = r)) :
    Calls Tryz.prog 80 #[v, .string ⟨x.toArray⟩] w fun e w' => e = .returned (.bool r) ∧ Below w.heap.size w w' := by
  have hr2 : r = decide (0 ≤ fidx (ls.findIdx? (fun l => decide (l = x)))) := by
    rw [any_fidx, ← hr.out]
    rw [Bool.eq_iff_iff, List.any_eq_true]
    simp
  have hI := idx_str v ls x w _ h (Lib.hid rfl)
  clear hr
  generalize fidx (ls.findIdx? (fun l => decide (l = x))) = k at hI hr2
  subst hr2
  obtain ⟨ao, c, rfl, h1, h2, h3⟩ := h
  clear h1 h2 h3
  go_enter Tryz.func80, Tryz.ntmps80
  go_wp2_with (go_at_call 78; refine hI.mono ?_; rintro e w' ⟨rfl, hb'⟩)
  go_ret
  exact ⟨by first | rfl | simp, hb'⟩
set_option maxRecDepth 100000 in
set_option maxHeartbeats 1000000 in
/-- Mode. -/
theorem mode_any (x : List UInt8) (w : World) (k : Int) (b : Bool) (hk : Hid (fidx (modeW.findIdx? (fun l => decide (l = x))) + 1 = k)) (hb : Hid (decide (x ∈ modeW) = b)) :
    Calls Tryz.prog 25 #[.string ⟨x.toArray⟩] w fun e w' => e = .returned (.tuple #[.int .i64 k, .bool b]) ∧ Below w.heap.size w w' := by
  have hm : modeW.length = 7 := rfl
  have hb2 : b = decide (0 ≤ fidx (modeW.findIdx? (fun l => decide (l = x)))) := by
    rw [any_fidx, ← hb.out]
    rw [Bool.eq_iff_iff, List.any_eq_true]
    simp
  have hI := fun v w h => idx_str v modeW x w _ h (Lib.hid rfl)
  have hlo : -1 ≤ fidx (modeW.findIdx? (fun l => decide (l = x))) ∧ fidx (modeW.findIdx? (fun l => decide (l = x))) < 7 := by
    cases h9 : modeW.findIdx? (fun l => decide (l = x)) with
    | none => decide
    | some j => have := (List.findIdx?_eq_some_iff_getElem.1 h9).1; rw [hm] at this; rw [show fidx (some j) = (j : Int) from rfl]; omega
  have hk2 := hk.out
  clear hk hb
  generalize fidx (modeW.findIdx? (fun l => decide (l = x))) = r at hI hb2 hlo hk2
  obtain ⟨hl1, hl2⟩ := hlo
  subst hb2
  have hw : IntKind.i64.wrap (r + 1) = k := by rw [hk2, IntWalk.i64_in _ ⟨by omega, by omega⟩]
  clear hk2 hm
  go_enter Tryz.func25, Tryz.ntmps25
  go_wp2_with (first | (go_at_call 79; refine (modes_any _).mono ?_; rintro e w1 ⟨g, rfl, hg1, hc, hb1⟩; have hS := strs_of (ls := modeW) hg1 (by decide) hc; clear hc) | (go_at_call 78; refine (hI _ _ hS).mono ?_; rintro e w2 ⟨rfl, hb2⟩))
  exact bodyPost_ret (v := .tuple #[.int .i64 k, .bool (decide (0 ≤ r))]) (by simp [results, Tryz.results25, go_sem]) rfl ⟨rfl, hb1.trans (hb2.mono hb1.size)⟩
set_option maxRecDepth 100000 in
set_option maxHeartbeats 1000000 in
/-- ModeName. -/
theorem modeName_any (m : Int) (w : World) (s : List UInt8) (hs : Hid (modeName m = s)) :
    Calls Tryz.prog 26 #[.int .i64 m] w fun e w' => e = .returned (.string ⟨s.toArray⟩) ∧ Below w.heap.size w w' := by
  by_cases h1 : m < 1
  · have hs2 : s = [] := by rw [← hs.out]; unfold modeName; rw [if_pos (by omega)]
    subst hs2; clear hs
    go_enter Tryz.func26, Tryz.ntmps26
    go_wp2_with fail
    go_ret
    exact ⟨rfl, Below.refl _ _⟩
  · by_cases h7 : 7 < m
    · have hs2 : s = [] := by rw [← hs.out]; unfold modeName; rw [if_pos (by omega)]
      subst hs2; clear hs
      go_enter Tryz.func26, Tryz.ntmps26
      go_wp2_with fail
      go_ret
      exact ⟨rfl, Below.refl _ _⟩
    · obtain ⟨j, rfl⟩ : ∃ j : Nat, m = (j : Int) + 1 := ⟨(m - 1).toNat, by omega⟩
      have hj : j < 7 := by omega
      have hs2 : modeW[j]?.getD [] = s := by rw [← hs.out]; unfold modeName; rw [if_neg (by omega)]; congr 2; omega
      have hz : (0 : Int) ≤ (j : Int) := by omega
      have hz2 : (j : Int) < 7 := by omega
      have hw : IntKind.i64.wrap ((j : Int) + 1 - 1) = (j : Int) := by rw [IntWalk.i64_in _ ⟨by omega, by omega⟩]; omega
      have hw2 : (j : Int) + 1 - 1 = (j : Int) := by omega
      clear hs
      go_enter Tryz.func26, Tryz.ntmps26
      go_wp2_with (go_at_call 79; refine (modes_any _).mono ?_; rintro e w1 ⟨g, rfl, hg1, hc, hb1⟩; have hcj := hc j hj; rw [hs2] at hcj; clear hc)
      go_ret
      exact ⟨rfl, hb1⟩
theorem modeName_nil (m : Int) : decide (modeName m ≠ []) = decide (1 ≤ m ∧ m ≤ 7) := by
  unfold modeName
  by_cases h : m < 1 ∨ 7 < m
  · rw [if_pos h]; simp; omega
  · rw [if_neg h]
    obtain ⟨j, rfl⟩ : ∃ j : Nat, m = (j : Int) + 1 := ⟨(m - 1).toNat, by omega⟩
    have hj : j < 7 := by omega
    rw [show ((j : Int) + 1 - 1).toNat = j by omega, show decide (1 ≤ (j : Int) + 1 ∧ (j : Int) + 1 ≤ 7) = true by simp; omega]
    match j, hj with
    | 0, _ => decide
    | 1, _ => decide
    | 2, _ => decide
    | 3, _ => decide
    | 4, _ => decide
    | 5, _ => decide
    | 6, _ => decide
end Go.Proofs.YtieffhkfefimeaaGreat
