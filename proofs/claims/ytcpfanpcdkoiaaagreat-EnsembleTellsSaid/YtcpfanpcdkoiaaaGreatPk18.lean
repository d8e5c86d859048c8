/-
  Pk18: OnxQ (what is needed of them).
-/
import Derived.Test.YtcpfanpcdkoiaaaGreatPk10
import Derived.Test.YtcpfanpcdkoiaaaGreatPk11
import Derived.Test.YtcpfanpcdkoiaaaGreatPk17
set_option maxRecDepth 100000
set_option linter.unusedVariables false
set_option linter.unusedSimpArgs false

namespace Go.Proofs.YtcpfanpcdkoiaaaGreat
open Go.RowKit


theorem decode_s (b : Nat) (k : Int) (q : Rat) (w : World) (hk : Hid (dkind 8 23 b = k)) (hq : Hid (dval' 8 23 b = q)) (hb64 : b < 18446744073709551616) :
  Calls Tryz.prog 133 #[formV 8 23, .int .u64 (b : Int)] w (QPostC w q k) := by
 have h := decode_any 8 23 b w (by decide) (by decide) (by decide) (by decide) hb64
 rwa [hk.out, hq.out] at h
set_option maxHeartbeats 1000000 in
theorem finite_any (p : Nat) (r : Bool) (w : World) (hp : p < 18446744073709551616) (hr : Hid (finP p = r)) :
  Calls Tryz.prog 92 #[.int .u64 (p : Int)] w fun e w' => e = .returned (.bool r) ∧ Below w.heap.size w w' := by
 obtain ⟨k, hk⟩ : ∃ k, dkind 8 23 p = k := ⟨_, rfl⟩
 have hr2 : r = (decide (p < 4294967296) && decide (k = 1)) := by rw [← hr.out, ← hk]; rfl
 have hD := fun W => decode_s p k _ W (Lib.hid hk) (Lib.hid rfl) hp
 generalize dval' 8 23 p = q at hD
 clear hk hr
 go_enter Tryz.func92, Tryz.ntmps92
 go_wp2_with (first | (go_at_call 132; refine (single_any _).mono ?_; rintro e w1 ⟨rfl, hb1⟩) | (go_at_call 133; refine (hD _).mono ?_; rintro e w2 hq9; obtain ⟨vB, vxO, vxL, vxC, vyO, vyL, vyC, rfl, hS, hvx, hvy, hv, hb⟩ := hq9.out; clear hS hvx hvy hv))
 all_goals
  rename_i h9
  go_ret
  refine ⟨ret_one (congrArg Value.bool ?_), hb1.trans ((hb.alloc hb.size _).mono hb1.size)⟩
  rw [hr2]
  first
   | (rw [show decide (p < 4294967296) = true from by simp; omega, Bool.true_and]; rfl)
   | (rw [show decide (p < 4294967296) = false from by simp; omega, Bool.false_and])
theorem base1_any (p : Nat) (w : World) (hp : p < 18446744073709551616) :
  Calls Tryz.prog 129 #[.int .u64 (p : Int)] w fun e w' => e = .returned (.bool (!finP p)) ∧ Below w.heap.size w w' := by
 have hF := finite_any p _ w hp (Lib.hid rfl)
 generalize finP p = b at hF ⊢
 go_enter Tryz.func129, Tryz.ntmps129
 go_wp2_with (go_at_call 92; refine hF.mono ?_; rintro e w1 ⟨rfl, hb1⟩)
 go_ret
 exact ⟨by first | rfl | simp, hb1⟩
theorem enter_base1 : ∀ args w, (callFunc 129 args).run Tryz.prog w = .ok (.enter 129 args) w := enters_of Tryz.func129 (by kernel_rfl) rfl
theorem strs_of {w : World} {g : Nat} {ls : List (List UInt8)} (hg : g < w.heap.size) (hl : ls.length ≤ maxLen) (hc : ∀ i, i < ls.length → w.cell? ⟨g, i, none⟩ = some (.string ⟨(ls[i]?.getD []).toArray⟩)) : Strs w (.slice (some ⟨g, 0, none⟩) ls.length ls.length) ls :=
 ⟨_, _, rfl, Nat.le_refl _, hl, .inr ⟨g, 0, rfl, hg, fun i hi => by rw [Nat.zero_add]; exact hc i hi⟩⟩
theorem modes_any (w : World) : Calls Tryz.prog 126 #[] w fun e w' => ∃ g, e = .returned (.slice (some ⟨g, 0, none⟩) 7 7) ∧ g < w'.heap.size ∧ (∀ i, i < 7 → w'.cell? ⟨g, i, none⟩ = some (.string ⟨(modeW[i]?.getD []).toArray⟩)) ∧ Below w.heap.size w w' := by
 go_enter Tryz.func126, Tryz.ntmps126
 go_wp2_with fail
 go_ret
 refine ⟨_, rfl, by simp, fun i hi => ?_, (Below.refl _ _).alloc (Nat.le_refl _) _⟩
 match i, hi with
 | 0, _ => go_simp; rfl
 | 1, _ => go_simp; rfl
 | 2, _ => go_simp; rfl
 | 3, _ => go_simp; rfl
 | 4, _ => go_simp; rfl
 | 5, _ => go_simp; rfl
 | 6, _ => go_simp; rfl
set_option maxHeartbeats 1000000 in
theorem idx_str (v : Value) (ls : List (List UInt8)) (x : List UInt8) (w : World) (r : Int) (h : Strs w v ls) (hr : Hid (fidx (ls.findIdx? (fun l => decide (l = x))) = r)) :
  Calls Tryz.prog 125 #[v, .string ⟨x.toArray⟩] w fun e w' => e = .returned (.int .i64 r) ∧ Below w.heap.size w w' := by
 obtain ⟨ao, c, rfl, h1, h2, h3⟩ := h
 unfold maxLen at h2
 go_enter Tryz.func125, Tryz.ntmps125
 go_wp2_with fail
 go_loopg [8] ls.length (fun gg s8 wr => ∃ kk : Nat, kk ≤ ls.length ∧ ls.length - kk ≤ gg ∧ s8 = .int .i64 kk ∧ Aside (∀ j (hj : j < kk) (hj2 : j < ls.length), decide (ls[j] = x) = false) ∧ Below w.heap.size w wr)
 case atStart => exact ⟨0, Nat.zero_le _, by omega, rfl, fun j hj => absurd hj (Nat.not_lt_zero _), Below.refl _ _⟩
 case round =>
  obtain ⟨kk, hkk, hg, rfl, A, hbr⟩ := hrel
  by_cases hlt : kk < ls.length
  ·have hltz : (kk : Int) < (ls.length : Int) := by omega
   have hltz0 : (0 : Int) ≤ (kk : Int) := by omega
   rcases h3 with h0 | ⟨b, off, rfl, hb, hc⟩
   ·rw [h0] at hlt; simp at hlt
   have l2 := (hbr.cell (p := ⟨b, off + kk, none⟩) hb).trans (hc kk hlt)
   rw [List.getElem?_eq_getElem hlt, Option.getD_some] at l2
   obtain ⟨y, hy⟩ : ∃ y, ls[kk] = y := ⟨_, rfl⟩
   rw [hy] at l2
   have B : Aside (ls[kk] = y) := hy
   clear hy hc
   by_cases q : y = x
   ·subst q
    have q2 : (y == y) = true := beq_self_eq_true _
    have hr2 : r = (kk : Int) := by rw [← hr.out, find_hit hlt (by rw [B.out]; simp) (fun j hj => A.out j hj (by omega))]; rfl
    subst hr2
    clear hr A B
    go_wp2_with fail
    go_ret
    exact ⟨rfl, hbr⟩
   ·have q2 : (x == y) = false := by simp; exact fun e => q e.symm
    have q3 : Aside (decide (y = x) = false) := by simp [Aside]; exact q
    clear hr q
    go_wp2_with fail
    go_roundg (ls.length - (kk + 1))
    case measure => omega
    case rel =>
     refine ⟨kk + 1, by omega, by omega, by go_num, (show Aside _ from fun j hj hj2 => ?_), hbr⟩
     by_cases e : j = kk
     ·subst e; rw [B.out]; exact q3.out
     ·exact A.out j (by omega) hj2
  ·have hltz : ¬ (kk : Int) < (ls.length : Int) := by omega
   have hr2 : r = -1 := by rw [← hr.out, find_miss (fun j hj => A.out j (by omega) hj)]; rfl
   subst hr2; clear hr A
   go_wp2_with fail
   go_ret
   exact ⟨rfl, hbr⟩
theorem cont_str (v : Value) (ls : List (List UInt8)) (x : List UInt8) (w : World) (r : Bool) (h : Strs w v ls) (hr : Hid (decide (x ∈ ls) = r)) :
  Calls Tryz.prog 127 #[v, .string ⟨x.toArray⟩] w fun e w' => e = .returned (.bool r) ∧ Below w.heap.size w w' := by
 have hr2 : r = decide (0 ≤ fidx (ls.findIdx? (fun l => decide (l = x)))) := by
  rw [any_fidx, ← hr.out]
  rw [Bool.eq_iff_iff, List.any_eq_true]
  simp
 have hI := idx_str v ls x w _ h (Lib.hid rfl)
 clear hr
 generalize fidx (ls.findIdx? (fun l => decide (l = x))) = k at hI hr2
 subst hr2
 obtain ⟨ao, c, rfl, h1, h2, h3⟩ := h
 clear h1 h2 h3
 go_enter Tryz.func127, Tryz.ntmps127
 go_wp2_with (go_at_call 125; refine hI.mono ?_; rintro e w' ⟨rfl, hb'⟩)
 go_ret
 exact ⟨by first | rfl | simp, hb'⟩
set_option maxHeartbeats 1000000 in
theorem mode_any (x : List UInt8) (w : World) (k : Int) (b : Bool) (hk : Hid (fidx (modeW.findIdx? (fun l => decide (l = x))) + 1 = k)) (hb : Hid (decide (x ∈ modeW) = b)) :
  Calls Tryz.prog 82 #[.string ⟨x.toArray⟩] w fun e w' => e = .returned (.tuple #[.int .i64 k, .bool b]) ∧ Below w.heap.size w w' := by
 have hm : modeW.length = 7 := rfl
 have hb2 : b = decide (0 ≤ fidx (modeW.findIdx? (fun l => decide (l = x)))) := by
  rw [any_fidx, ← hb.out]
  rw [Bool.eq_iff_iff, List.any_eq_true]
  simp
 have hI := fun v w h => idx_str v modeW x w _ h (Lib.hid rfl)
 have hlo : -1 ≤ fidx (modeW.findIdx? (fun l => decide (l = x))) ∧ fidx (modeW.findIdx? (fun l => decide (l = x))) < 7 := by
  cases h9 : modeW.findIdx? (fun l => decide (l = x)) with
  | none => decide
  | some j => have := (List.findIdx?_eq_some_iff_getElem.1 h9).1; rw [hm] at this; rw [show fidx (some j) = (j : Int) from rfl]; omega
 have hk2 := hk.out
 clear hk hb
 generalize fidx (modeW.findIdx? (fun l => decide (l = x))) = r at hI hb2 hlo hk2
 obtain ⟨hl1, hl2⟩ := hlo
 subst hb2
 have hw : IntKind.i64.wrap (r + 1) = k := by rw [hk2, IntWalk.i64_in _ ⟨by omega, by omega⟩]
 clear hk2 hm
 go_enter Tryz.func82, Tryz.ntmps82
 go_wp2_with (first | (go_at_call 126; refine (modes_any _).mono ?_; rintro e w1 ⟨g, rfl, hg1, hc, hb1⟩; have hS := strs_of (ls := modeW) hg1 (by decide) hc; clear hc) | (go_at_call 125; refine (hI _ _ hS).mono ?_; rintro e w2 ⟨rfl, hb2⟩))
 exact bodyPost_ret (v := .tuple #[.int .i64 k, .bool (decide (0 ≤ r))]) (by simp [results, Tryz.results82, go_sem]) rfl ⟨rfl, hb1.trans (hb2.mono hb1.size)⟩
set_option maxHeartbeats 1000000 in
theorem modeName_any (m : Int) (w : World) (s : List UInt8) (hs : Hid (modeName m = s)) :
  Calls Tryz.prog 83 #[.int .i64 m] w fun e w' => e = .returned (.string ⟨s.toArray⟩) ∧ Below w.heap.size w w' := by
 by_cases h1 : m < 1
 ·have hs2 : s = [] := by rw [← hs.out]; unfold modeName; rw [if_pos (by omega)]
  subst hs2; clear hs
  go_enter Tryz.func83, Tryz.ntmps83
  go_wp2_with fail
  go_ret
  exact ⟨rfl, Below.refl _ _⟩
 ·by_cases h7 : 7 < m
  ·have hs2 : s = [] := by rw [← hs.out]; unfold modeName; rw [if_pos (by omega)]
   subst hs2; clear hs
   go_enter Tryz.func83, Tryz.ntmps83
   go_wp2_with fail
   go_ret
   exact ⟨rfl, Below.refl _ _⟩
  ·obtain ⟨j, rfl⟩ : ∃ j : Nat, m = (j : Int) + 1 := ⟨(m - 1).toNat, by omega⟩
   have hj : j < 7 := by omega
   have hs2 : modeW[j]?.getD [] = s := by rw [← hs.out]; unfold modeName; rw [if_neg (by omega)]; congr 2; omega
   have hz : (0 : Int) ≤ (j : Int) := by omega
   have hz2 : (j : Int) < 7 := by omega
   have hw : IntKind.i64.wrap ((j : Int) + 1 - 1) = (j : Int) := by rw [IntWalk.i64_in _ ⟨by omega, by omega⟩]; omega
   have hw2 : (j : Int) + 1 - 1 = (j : Int) := by omega
   clear hs
   go_enter Tryz.func83, Tryz.ntmps83
   go_wp2_with (go_at_call 126; refine (modes_any _).mono ?_; rintro e w1 ⟨g, rfl, hg1, hc, hb1⟩; have hcj := hc j hj; rw [hs2] at hcj; clear hc)
   go_ret
   exact ⟨rfl, hb1⟩
theorem modeName_nil (m : Int) : decide (modeName m ≠ []) = decide (1 ≤ m ∧ m ≤ 7) := by
 unfold modeName
 by_cases h : m < 1 ∨ 7 < m
 ·rw [if_pos h]; simp; omega
 ·rw [if_neg h]
  obtain ⟨j, rfl⟩ : ∃ j : Nat, m = (j : Int) + 1 := ⟨(m - 1).toNat, by omega⟩
  have hj : j < 7 := by omega
  rw [show ((j : Int) + 1 - 1).toNat = j by omega, show decide (1 ≤ (j : Int) + 1 ∧ (j : Int) + 1 ≤ 7) = true by simp; omega]
  match j, hj with
  | 0, _ => decide
  | 1, _ => decide
  | 2, _ => decide
  | 3, _ => decide
  | 4, _ => decide
  | 5, _ => decide
  | 6, _ => decide
end Go.Proofs.YtcpfanpcdkoiaaaGreat
namespace Go.Proofs.YtcpfanpcdkoiaaaGreat
open Go.RowKit


set_option maxHeartbeats 1000000 in
theorem check1_any (x : EN) (w : World) (r : Bool) (hr : decide (1 ≤ x.mode ∧ x.mode ≤ 7) = r) :
  Calls Tryz.prog 89 #[.agg (enC x).toArray] w fun e w' => e = .returned (.bool r) ∧ Below w.heap.size w w' := by
 unfold enC
 have hM := fun W => modeName_any x.mode W _ (Lib.hid rfl)
 have hN := modeName_nil x.mode
 have hN2 := Lib.hid hN; clear hN
 generalize modeName x.mode = s at hM hN2
 subst hr
 obtain ⟨w0, hw0⟩ : ∃ w0, w0 = (w.alloc (.cells #[.int .i64 x.tree, .int .i64 x.node, .int .i64 x.feat, .int .i64 x.mode, .int .u64 (x.val : Int), .int .i64 x.tru, .int .i64 x.fls, .bool x.trk] 131)) := ⟨_, rfl⟩
 have hbf : Below w.heap.size w w0 := by rw [hw0]; exact ((Below.refl _ w).alloc (Nat.le_refl _) _)
 obtain ⟨px, hpx⟩ : ∃ p, p = w.heap.size := ⟨_, rfl⟩
 have hbx : BoxL w0 px [.int .i64 x.tree, .int .i64 x.node, .int .i64 x.feat, .int .i64 x.mode, .int .u64 (x.val : Int), .int .i64 x.tru, .int .i64 x.fls, .bool x.trk] := by rw [hw0, hpx]; exact BoxL.of8 (by go_simp) (by go_simp) (by go_simp) (by go_simp) (by go_simp) (by go_simp) (by go_simp) (by go_simp) (by go_simp) (by go_simp) (by go_simp) (by go_simp) (by go_simp) (by go_simp) (by go_simp) (by go_simp)
 have HP : Hid (w.heap.size ≤ px) := Lib.hid (by omega)
 have HW := Lib.hid hw0; clear hw0
 go_enter Tryz.func89, Tryz.ntmps89
 go_upto_region 1 with fail
 rw [← HW.out, ← hpx]
 clear hpx HW
 obtain ⟨ex0, ex1, ex2, ex3, ex4, ex5, ex6, ex7⟩ := hbx.c8
 go_wp2_with (go_at_call 83; refine (hM _).mono ?_; rintro e w1 ⟨rfl, hb1⟩)
 go_ret
 exact ⟨ret_one (congrArg Value.bool (by rw [← hN2.out]; cases s <;> simp)), hbf.trans (hb1.mono hbf.size)⟩
theorem enter_check1 : ∀ args w, (callFunc 89 args).run Tryz.prog w = .ok (.enter 89 args) w := enters_of Tryz.func89 (by kernel_rfl) rfl
set_option maxHeartbeats 1000000 in
theorem check2_any (x : EN) (ft : Int) (pf : Nat) (w : World) (hpf : w.cell? ⟨pf, 0, none⟩ = some (.int .i64 ft)) :
  Calls Tryz.prog 90 #[.agg (enC x).toArray, .pointer (some ⟨pf, 0, none⟩)] w fun e w' => e = .returned (.bool (decide (0 ≤ x.feat ∧ x.feat < ft))) ∧ Below w.heap.size w w' := by
 unfold enC
 obtain ⟨w0, hw0⟩ : ∃ w0, w0 = (w.alloc (.cells #[.int .i64 x.tree, .int .i64 x.node, .int .i64 x.feat, .int .i64 x.mode, .int .u64 (x.val : Int), .int .i64 x.tru, .int .i64 x.fls, .bool x.trk] 131)) := ⟨_, rfl⟩
 have hbf : Below w.heap.size w w0 := by rw [hw0]; exact ((Below.refl _ w).alloc (Nat.le_refl _) _)
 obtain ⟨px, hpx⟩ : ∃ p, p = w.heap.size := ⟨_, rfl⟩
 have hbx : BoxL w0 px [.int .i64 x.tree, .int .i64 x.node, .int .i64 x.feat, .int .i64 x.mode, .int .u64 (x.val : Int), .int .i64 x.tru, .int .i64 x.fls, .bool x.trk] := by rw [hw0, hpx]; exact BoxL.of8 (by go_simp) (by go_simp) (by go_simp) (by go_simp) (by go_simp) (by go_simp) (by go_simp) (by go_simp) (by go_simp) (by go_simp) (by go_simp) (by go_simp) (by go_simp) (by go_simp) (by go_simp) (by go_simp)
 have HP : Hid (w.heap.size ≤ px) := Lib.hid (by omega)
 have HW := Lib.hid hw0; clear hw0
 go_enter Tryz.func90, Tryz.ntmps90
 go_upto_region 1 with fail
 rw [← HW.out, ← hpx]
 clear hpx HW
 obtain ⟨ex0, ex1, ex2, ex3, ex4, ex5, ex6, ex7⟩ := hbx.c8
 replace hpf := (hbf.cell (p := ⟨pf, 0, none⟩) (World.block_lt_of_cell? w ⟨pf, 0, none⟩ hpf)).trans hpf
 by_cases q : 0 ≤ x.feat
 ·by_cases q2 : x.feat < ft
  all_goals
   go_wp2_with fail
   go_ret
   exact ⟨ret_one (congrArg Value.bool (by simp [q, q2] <;> omega)), hbf⟩
 ·go_wp2_with fail
  go_ret
  exact ⟨ret_one (congrArg Value.bool (by simp [q] <;> omega)), hbf⟩
theorem enter_check2 : ∀ args w, (callFunc 90 args).run Tryz.prog w = .ok (.enter 90 args) w := enters_of Tryz.func90 (by kernel_rfl) rfl
set_option maxHeartbeats 1000000 in
theorem check3_any (x : EN) (w : World) (r : Bool) (hv : x.val < 18446744073709551616) (hr : (finP x.val) = r) :
  Calls Tryz.prog 91 #[.agg (enC x).toArray] w fun e w' => e = .returned (.bool r) ∧ Below w.heap.size w w' := by
 unfold enC
 have hF := fun W => finite_any x.val _ W hv (Lib.hid rfl)
 subst hr
 generalize finP x.val = s at hF ⊢
 obtain ⟨w0, hw0⟩ : ∃ w0, w0 = (w.alloc (.cells #[.int .i64 x.tree, .int .i64 x.node, .int .i64 x.feat, .int .i64 x.mode, .int .u64 (x.val : Int), .int .i64 x.tru, .int .i64 x.fls, .bool x.trk] 131)) := ⟨_, rfl⟩
 have hbf : Below w.heap.size w w0 := by rw [hw0]; exact ((Below.refl _ w).alloc (Nat.le_refl _) _)
 obtain ⟨px, hpx⟩ : ∃ p, p = w.heap.size := ⟨_, rfl⟩
 have hbx : BoxL w0 px [.int .i64 x.tree, .int .i64 x.node, .int .i64 x.feat, .int .i64 x.mode, .int .u64 (x.val : Int), .int .i64 x.tru, .int .i64 x.fls, .bool x.trk] := by rw [hw0, hpx]; exact BoxL.of8 (by go_simp) (by go_simp) (by go_simp) (by go_simp) (by go_simp) (by go_simp) (by go_simp) (by go_simp) (by go_simp) (by go_simp) (by go_simp) (by go_simp) (by go_simp) (by go_simp) (by go_simp) (by go_simp)
 have HP : Hid (w.heap.size ≤ px) := Lib.hid (by omega)
 have HW := Lib.hid hw0; clear hw0
 go_enter Tryz.func91, Tryz.ntmps91
 go_upto_region 1 with fail
 rw [← HW.out, ← hpx]
 clear hpx HW
 obtain ⟨ex0, ex1, ex2, ex3, ex4, ex5, ex6, ex7⟩ := hbx.c8
 go_wp2_with (go_at_call 92; refine (hF _).mono ?_; rintro e w1 ⟨rfl, hb1⟩)
 go_ret
 exact ⟨by first | rfl | simp, hbf.trans (hb1.mono hbf.size)⟩
theorem enter_check3 : ∀ args w, (callFunc 91 args).run Tryz.prog w = .ok (.enter 91 args) w := enters_of Tryz.func91 (by kernel_rfl) rfl
set_option maxHeartbeats 1000000 in
theorem check5_any (x : EL) (w : World) (r : Bool) (hv : x.wt < 18446744073709551616) (hr : (!finP x.wt) = r) :
  Calls Tryz.prog 98 #[.agg (elC x).toArray] w fun e w' => e = .returned (.bool r) ∧ Below w.heap.size w w' := by
 unfold elC
 have hF := fun W => finite_any x.wt _ W hv (Lib.hid rfl)
 subst hr
 generalize finP x.wt = s at hF ⊢
 obtain ⟨w0, hw0⟩ : ∃ w0, w0 = (w.alloc (.cells #[.int .i64 x.tree, .int .i64 x.node, .int .i64 x.tgt, .int .u64 (x.wt : Int)] 137)) := ⟨_, rfl⟩
 have hbf : Below w.heap.size w w0 := by rw [hw0]; exact ((Below.refl _ w).alloc (Nat.le_refl _) _)
 obtain ⟨px, hpx⟩ : ∃ p, p = w.heap.size := ⟨_, rfl⟩
 have hbx : BoxL w0 px [.int .i64 x.tree, .int .i64 x.node, .int .i64 x.tgt, .int .u64 (x.wt : Int)] := by rw [hw0, hpx]; exact BoxL.of4 (by go_simp) (by go_simp) (by go_simp) (by go_simp) (by go_simp) (by go_simp) (by go_simp) (by go_simp)
 have HP : Hid (w.heap.size ≤ px) := Lib.hid (by omega)
 have HW := Lib.hid hw0; clear hw0
 go_enter Tryz.func98, Tryz.ntmps98
 go_upto_region 1 with fail
 rw [← HW.out, ← hpx]
 clear hpx HW
 have ex0 := hbx.cell 0 _ rfl
 have ex1 := hbx.cell 1 _ rfl
 have ex2 := hbx.cell 2 _ rfl
 have ex3 := hbx.cell 3 _ rfl
 go_wp2_with (go_at_call 92; refine (hF _).mono ?_; rintro e w1 ⟨rfl, hb1⟩)
 go_ret
 exact ⟨by first | rfl | simp, hbf.trans (hb1.mono hbf.size)⟩
theorem enter_check5 : ∀ args w, (callFunc 98 args).run Tryz.prog w = .ok (.enter 98 args) w := enters_of Tryz.func98 (by kernel_rfl) rfl
set_option maxHeartbeats 1000000 in
theorem check4_any (x : EN) (w : World) (r : Bool) (hv : x.val < 18446744073709551616) (hr : decide (x.val < 4294967296) = r) :
  Calls Tryz.prog 93 #[.agg (enC x).toArray] w fun e w' => e = .returned (.bool r) ∧ Below w.heap.size w w' := by
 unfold enC
 obtain ⟨w0, hw0⟩ : ∃ w0, w0 = (w.alloc (.cells #[.int .i64 x.tree, .int .i64 x.node, .int .i64 x.feat, .int .i64 x.mode, .int .u64 (x.val : Int), .int .i64 x.tru, .int .i64 x.fls, .bool x.trk] 131)) := ⟨_, rfl⟩
 have hbf : Below w.heap.size w w0 := by rw [hw0]; exact ((Below.refl _ w).alloc (Nat.le_refl _) _)
 obtain ⟨px, hpx⟩ : ∃ p, p = w.heap.size := ⟨_, rfl⟩
 have hbx : BoxL w0 px [.int .i64 x.tree, .int .i64 x.node, .int .i64 x.feat, .int .i64 x.mode, .int .u64 (x.val : Int), .int .i64 x.tru, .int .i64 x.fls, .bool x.trk] := by rw [hw0, hpx]; exact BoxL.of8 (by go_simp) (by go_simp) (by go_simp) (by go_simp) (by go_simp) (by go_simp) (by go_simp) (by go_simp) (by go_simp) (by go_simp) (by go_simp) (by go_simp) (by go_simp) (by go_simp) (by go_simp) (by go_simp)
 have HP : Hid (w.heap.size ≤ px) := Lib.hid (by omega)
 have HW := Lib.hid hw0; clear hw0
 go_enter Tryz.func93, Tryz.ntmps93
 go_upto_region 1 with fail
 rw [← HW.out, ← hpx]
 clear hpx HW
 obtain ⟨ex0, ex1, ex2, ex3, ex4, ex5, ex6, ex7⟩ := hbx.c8
 have hz : Hid ((((x.val : Int) / 4294967296) == 0) = r) := Lib.hid (by rw [← hr, Bool.eq_iff_iff]; simp; omega)
 clear hr
 go_wp2_with fail
 go_ret
 exact ⟨ret_one (congrArg Value.bool hz.out), hbf⟩
theorem enter_check4 : ∀ args w, (callFunc 93 args).run Tryz.prog w = .ok (.enter 93 args) w := enters_of Tryz.func93 (by kernel_rfl) rfl
set_option maxHeartbeats 1000000 in
theorem every1_any (x : EN) (all b : Bool) (g : Nat) (lb : Array Value) (eg : ∀ args w, (callFunc g args).run Tryz.prog w = .ok (.enter g args) w) (pa pg : Nat) (w : World) (ha : w.cell? ⟨pa, 0, none⟩ = some (.bool all)) (hg : w.cell? ⟨pg, 0, none⟩ = some (.func (.func g) #[] lb))
  (hp : ∀ W, Below w.heap.size w W → Calls Tryz.prog g (#[.agg (enC x).toArray] ++ lb) W fun e w' => e = .returned (.bool b) ∧ Below W.heap.size W w') :
  Calls Tryz.prog 131 #[.agg (enC x).toArray, .pointer (some ⟨pa, 0, none⟩), .pointer (some ⟨pg, 0, none⟩)] w fun e w' => e = .returned (.bool ((all || decide (x.mode ≠ 7)) && !b)) ∧ Below w.heap.size w w' := by
 unfold enC
 obtain ⟨w0, hw0⟩ : ∃ w0, w0 = (w.alloc (.cells #[.int .i64 x.tree, .int .i64 x.node, .int .i64 x.feat, .int .i64 x.mode, .int .u64 (x.val : Int), .int .i64 x.tru, .int .i64 x.fls, .bool x.trk] 131)) := ⟨_, rfl⟩
 have hbf : Below w.heap.size w w0 := by rw [hw0]; exact ((Below.refl _ w).alloc (Nat.le_refl _) _)
 obtain ⟨px, hpx⟩ : ∃ p, p = w.heap.size := ⟨_, rfl⟩
 have hbx : BoxL w0 px [.int .i64 x.tree, .int .i64 x.node, .int .i64 x.feat, .int .i64 x.mode, .int .u64 (x.val : Int), .int .i64 x.tru, .int .i64 x.fls, .bool x.trk] := by rw [hw0, hpx]; exact BoxL.of8 (by go_simp) (by go_simp) (by go_simp) (by go_simp) (by go_simp) (by go_simp) (by go_simp) (by go_simp) (by go_simp) (by go_simp) (by go_simp) (by go_simp) (by go_simp) (by go_simp) (by go_simp) (by go_simp)
 have HP : Hid (w.heap.size ≤ px) := Lib.hid (by omega)
 have HW := Lib.hid hw0; clear hw0
 go_enter Tryz.func131, Tryz.ntmps131
 go_upto_region 1 with fail
 rw [← HW.out, ← hpx]
 clear hpx HW
 obtain ⟨ex0, ex1, ex2, ex3, ex4, ex5, ex6, ex7⟩ := hbx.c8
 have la := World.block_lt_of_cell? w ⟨pa, 0, none⟩ ha
 have lg := World.block_lt_of_cell? w ⟨pg, 0, none⟩ hg
 replace ha := (hbf.cell (p := ⟨pa, 0, none⟩) la).trans ha
 replace hg := (hbf.cell (p := ⟨pg, 0, none⟩) lg).trans hg
 replace hp := hp w0 hbf
 have ex := Lib.hid (show [.int .i64 x.tree, .int .i64 x.node, .int .i64 x.feat, .int .i64 x.mode, .int .u64 (x.val : Int), .int .i64 x.tru, .int .i64 x.fls, .bool x.trk] = enC x from rfl)
 unfold enC at hp
 cases all with
 | true =>
  go_wp2_with (go_at_fn g; refine hp.mono ?_; rintro e w1 ⟨rfl, hb1⟩)
  go_ret
  exact ⟨by first | rfl | simp, hbf.trans (hb1.mono hbf.size)⟩
 | false =>
  by_cases q : x.mode = 7
  ·have q2 : (x.mode != 7) = false := by simp [q]
   go_wp2_with fail
   go_ret
   exact ⟨ret_one (congrArg Value.bool (by simp [q])), hbf⟩
  ·have q2 : (x.mode != 7) = true := by simp [q]
   go_wp2_with (go_at_fn g; refine hp.mono ?_; rintro e w1 ⟨rfl, hb1⟩)
   go_ret
   exact ⟨ret_one (congrArg Value.bool (by simp [q])), hbf.trans (hb1.mono hbf.size)⟩
theorem enter_every1 : ∀ args w, (callFunc 131 args).run Tryz.prog w = .ok (.enter 131 args) w := enters_of Tryz.func131 (by kernel_rfl) rfl
set_option maxHeartbeats 1000000 in
theorem every_any (v : Value) (e : EE) (bo : Option Addr) (bc : Nat) (no : Option Addr) (nc : Nat) (lo : Option Addr) (lc : Nat) (all : Bool) (p : EN → Bool) (g : Nat) (lb : Array Value) (eg : ∀ args w, (callFunc g args).run Tryz.prog w = .ok (.enter g args) w) (w : World) (h : EnsIs w v e bo bc no nc lo lc) (r : Bool)
  (hp : PredOn Tryz.prog g lb (fun x => Value.agg (enC x).toArray) p w e.nodes) (hr : Hid (everyE e.nodes all p = r)) :
  Calls Tryz.prog 88 #[v, .bool all, .func (.func g) #[] lb] w fun e_1 w' => e_1 = .returned (.bool r) ∧ Below w.heap.size w w' := by
 obtain ⟨rfl, h1, h2, h4, h5, h3, h6, h7, h8, h9⟩ := h
 obtain ⟨w0, hw0⟩ : ∃ w0, w0 = (((w.alloc (.cells #[.int .i64 e.feats, .int .i64 e.tgts, .string ⟨e.agg.toArray⟩, .string ⟨e.post.toArray⟩, .slice bo e.base.length bc, .slice no e.nodes.length nc, .slice lo e.leaves.length lc] 75)).alloc (.cells #[.bool all] 4)).alloc (.cells #[.func (.func g) #[] lb] 132)) := ⟨_, rfl⟩
 have hbf : Below w.heap.size w w0 := by rw [hw0]; exact ((((Below.refl _ w).alloc (Nat.le_refl _) _).alloc (by simp <;> omega) _).alloc (by simp <;> omega) _)
 obtain ⟨pe, hpe⟩ : ∃ p, p = w.heap.size := ⟨_, rfl⟩
 have hbe : BoxL w0 pe [.int .i64 e.feats, .int .i64 e.tgts, .string ⟨e.agg.toArray⟩, .string ⟨e.post.toArray⟩, .slice bo e.base.length bc, .slice no e.nodes.length nc, .slice lo e.leaves.length lc] := by rw [hw0, hpe]; exact BoxL.of7 (by go_simp) (by go_simp) (by go_simp) (by go_simp) (by go_simp) (by go_simp) (by go_simp) (by go_simp) (by go_simp) (by go_simp) (by go_simp) (by go_simp) (by go_simp) (by go_simp)
 obtain ⟨pa, hpa⟩ : ∃ p, p = w.heap.size + 1 := ⟨_, rfl⟩
 have hba : Box w0 pa (Value.bool all) := by rw [hw0, hpa]; exact ⟨by go_simp, by go_simp, by simp <;> omega⟩
 obtain ⟨pg, hpg⟩ : ∃ p, p = w.heap.size + 1 + 1 := ⟨_, rfl⟩
 have hbg : Box w0 pg (Value.func (.func g) #[] lb) := by rw [hw0, hpg]; exact ⟨by go_simp, by go_simp, by simp <;> omega⟩
 have HP : Hid (w.heap.size ≤ pe ∧ pe < pa ∧ pa < pg) := Lib.hid (by omega)
 have HW := Lib.hid hw0; clear hw0
 go_enter Tryz.func88, Tryz.ntmps88
 go_upto_region 1 with fail
 rw [← HW.out, ← hpg, ← hpa, ← hpe]
 clear hpe hpa hpg HW
 obtain ⟨ee0, ee1, ee2, ee3, ee4, ee5, ee6⟩ := hbe.c7
 have hcall := cont_en (fun n => (all || decide (n.mode ≠ 7)) && !p n) 131 #[.pointer (some ⟨pa, 0, none⟩), .pointer (some ⟨pg, 0, none⟩)] enter_every1 no nc e.nodes w0 _ (fun W x hx hb => every1_any x all (p x) g lb eg pa pg W ((hba.kept hb).cell) ((hbg.kept hb).cell) (fun W2 hb2 => hp W2 x hx (hbf.trans ((hb.trans (hb2.mono hb.size)).mono hbf.size)))) (h2.below (B := 0) hbf) h3 (Lib.hid rfl)
 have hr2 := hr.out
 unfold everyE at hr2
 generalize e.nodes.any (fun n => (all || decide (n.mode ≠ 7)) && !p n) = q at hcall hr2
 subst hr2; clear hr hp
 go_wp2_with (go_at_call 130; refine hcall.mono ?_; rintro e w1 ⟨rfl, hb1⟩)
 go_ret
 exact ⟨by first | rfl | simp, hbf.trans (hb1.mono hbf.size)⟩
end Go.Proofs.YtcpfanpcdkoiaaaGreat
namespace Go.Proofs.YtcpfanpcdkoiaaaGreat
open Go.RowKit


set_option maxHeartbeats 1000000 in
theorem kid1_any (x : EN) (e : EE) (bo : Option Addr) (bc : Nat) (no : Option Addr) (nc : Nat) (lo : Option Addr) (lc : Nat) (pe : Nat) (w : World) (hE : EnsIs w (ensV e bo bc no nc lo lc) e bo bc no nc lo lc) (hbe : BoxL w pe [.int .i64 e.feats, .int .i64 e.tgts, .string ⟨e.agg.toArray⟩, .string ⟨e.post.toArray⟩, .slice bo e.base.length bc, .slice no e.nodes.length nc, .slice lo e.leaves.length lc]) (r : Bool) (hr : ((findE e.nodes x.tree x.tru).isSome && ((findE e.nodes x.tree x.fls).isSome && decide (x.tru ≠ x.fls))) = r) :
  Calls Tryz.prog 134 #[.agg (enC x).toArray, .pointer (some ⟨pe, 0, none⟩)] w fun e w' => e = .returned (.bool r) ∧ Below w.heap.size w w' := by
 unfold enC
 obtain ⟨w0, hw0⟩ : ∃ w0, w0 = (w.alloc (.cells #[.int .i64 x.tree, .int .i64 x.node, .int .i64 x.feat, .int .i64 x.mode, .int .u64 (x.val : Int), .int .i64 x.tru, .int .i64 x.fls, .bool x.trk] 131)) := ⟨_, rfl⟩
 have hbf : Below w.heap.size w w0 := by rw [hw0]; exact ((Below.refl _ w).alloc (Nat.le_refl _) _)
 obtain ⟨px, hpx⟩ : ∃ p, p = w.heap.size := ⟨_, rfl⟩
 have hbx : BoxL w0 px [.int .i64 x.tree, .int .i64 x.node, .int .i64 x.feat, .int .i64 x.mode, .int .u64 (x.val : Int), .int .i64 x.tru, .int .i64 x.fls, .bool x.trk] := by rw [hw0, hpx]; exact BoxL.of8 (by go_simp) (by go_simp) (by go_simp) (by go_simp) (by go_simp) (by go_simp) (by go_simp) (by go_simp) (by go_simp) (by go_simp) (by go_simp) (by go_simp) (by go_simp) (by go_simp) (by go_simp) (by go_simp)
 have HP : Hid (w.heap.size ≤ px) := Lib.hid (by omega)
 have HW := Lib.hid hw0; clear hw0
 go_enter Tryz.func134, Tryz.ntmps134
 go_upto_region 1 with fail
 rw [← HW.out, ← hpx]
 clear hpx HW
 replace hE := hE.below hbf
 replace hbe := hbe.kept hbf
 obtain ⟨ee0, ee1, ee2, ee3, ee4, ee5, ee6⟩ := hbe.c7
 obtain ⟨ex0, ex1, ex2, ex3, ex4, ex5, ex6, ex7⟩ := hbx.c8
 obtain ⟨q1, hq1⟩ : ∃ q, findE e.nodes x.tree x.tru = q := ⟨_, rfl⟩
 obtain ⟨q2, hq2⟩ : ∃ q, findE e.nodes x.tree x.fls = q := ⟨_, rfl⟩
 rw [hq1, hq2] at hr
 have hf1 := find_any _ e _ _ _ _ _ _ x.tree x.tru w0 hE _ _ (Lib.hid rfl) (Lib.hid rfl)
 have hf2 := fun W (hW : Below w0.heap.size w0 W) => find_any _ e _ _ _ _ _ _ x.tree x.fls W (hE.below hW) _ _ (Lib.hid rfl) (Lib.hid rfl)
 rw [hq1] at hf1
 rw [hq2] at hf2
 clear hq1 hq2
 generalize q1.isSome = b1 at hf1 hr
 generalize q2.isSome = b2 at hf2 hr
 generalize q1.getD 0 = g1 at hf1
 generalize q2.getD 0 = g2 at hf2
 go_upto_region 2 with (go_at_call 36; refine hf1.mono ?_; rintro e9 w1 ⟨rfl, hb1⟩; replace hf2 := hf2 w1 hb1; replace hbe := hbe.kept hb1; replace hbx := hbx.kept hb1)
 clear ee0 ee1 ee2 ee3 ee4 ee5 ee6 ex0 ex1 ex2 ex3 ex4 ex5 ex6 ex7
 obtain ⟨ee0, ee1, ee2, ee3, ee4, ee5, ee6⟩ := hbe.c7
 obtain ⟨ex0, ex1, ex2, ex3, ex4, ex5, ex6, ex7⟩ := hbx.c8
 go_upto_region 3 with (go_at_call 36; refine hf2.mono ?_; rintro e9 w2 ⟨rfl, hb2⟩; replace hbx := hbx.kept hb2)
 clear ee0 ee1 ee2 ee3 ee4 ee5 ee6 ex0 ex1 ex2 ex3 ex4 ex5 ex6 ex7
 obtain ⟨ex0, ex1, ex2, ex3, ex4, ex5, ex6, ex7⟩ := hbx.c8
 replace hbf := hbf.trans ((hb1.trans (hb2.mono hb1.size)).mono hbf.size)
 subst hr
 by_cases q : x.tru = x.fls
 ·have q3 : (x.tru != x.fls) = false := by simp [q]
  cases b1 <;> cases b2
  all_goals
   go_wp2_with fail
   go_ret
   exact ⟨ret_one (congrArg Value.bool (by simp [q])), hbf⟩
 ·have q3 : (x.tru != x.fls) = true := by simp [q]
  cases b1 <;> cases b2
  all_goals
   go_wp2_with fail
   go_ret
   exact ⟨ret_one (congrArg Value.bool (by simp [q])), hbf⟩
theorem enter_kid1 : ∀ args w, (callFunc 134 args).run Tryz.prog w = .ok (.enter 134 args) w := enters_of Tryz.func134 (by kernel_rfl) rfl
set_option maxHeartbeats 1000000 in
theorem kid_any (v : Value) (e : EE) (bo : Option Addr) (bc : Nat) (no : Option Addr) (nc : Nat) (lo : Option Addr) (lc : Nat) (w : World) (h : EnsIs w v e bo bc no nc lo lc) (r : Bool) (hr : Hid (kidE e.nodes = r)) :
  Calls Tryz.prog 94 #[v] w fun e w' => e = .returned (.bool r) ∧ Below w.heap.size w w' := by
 obtain ⟨rfl, h1, h2, h4, h5, h3, h6, h7, h8, h9⟩ := h
 obtain ⟨w0, hw0, hbf, pe, hpe, hbe⟩ := boxE w e bo bc no nc lo lc
 have HP : Hid (w.heap.size ≤ pe) := Lib.hid (by omega)
 have HW := Lib.hid hw0; clear hw0
 go_enter Tryz.func94, Tryz.ntmps94
 go_upto_region 1 with fail
 rw [← HW.out, ← hpe]
 clear hpe HW
 have hE : EnsIs w0 (ensV e bo bc no nc lo lc) e bo bc no nc lo lc := EnsIs.below ⟨rfl, h1, h2, h4, h5, h3, h6, h7, h8, h9⟩ hbf
 obtain ⟨ee0, ee1, ee2, ee3, ee4, ee5, ee6⟩ := hbe.c7
 have hcall := every_any _ e _ _ _ _ _ _ false (fun n => (findE e.nodes n.tree n.tru).isSome && ((findE e.nodes n.tree n.fls).isSome && decide (n.tru ≠ n.fls))) 134 #[.pointer (some ⟨pe, 0, none⟩)] enter_kid1 w0 hE r (fun W x hx hb => kid1_any x e _ _ _ _ _ _ pe W (hE.below hb) (hbe.kept hb) _ rfl) hr
 go_wp2_with (go_at_call 88; refine hcall.mono ?_; rintro e9 w1 ⟨rfl, hb1⟩)
 go_ret
 exact ⟨rfl, hbf.trans (hb1.mono hbf.size)⟩
def leafB (e : EE) (l : EL) : Bool := match findE e.nodes l.tree l.node with | none => true | some k => decide (e.nodes[k]!.mode ≠ 7) || (decide (l.tgt < 0) || decide (e.tgts ≤ l.tgt))
theorem leafE_eq (e : EE) : leafE e = !e.leaves.any (leafB e) := rfl
set_option maxHeartbeats 1000000 in
theorem leaf1_any (x : EL) (e : EE) (bo : Option Addr) (bc : Nat) (no : Option Addr) (nc : Nat) (lo : Option Addr) (lc : Nat) (pe : Nat) (w : World) (hE : EnsIs w (ensV e bo bc no nc lo lc) e bo bc no nc lo lc) (hbe : BoxL w pe [.int .i64 e.feats, .int .i64 e.tgts, .string ⟨e.agg.toArray⟩, .string ⟨e.post.toArray⟩, .slice bo e.base.length bc, .slice no e.nodes.length nc, .slice lo e.leaves.length lc]) (r : Bool) (hr : leafB e x = r) :
  Calls Tryz.prog 137 #[.agg (elC x).toArray, .pointer (some ⟨pe, 0, none⟩)] w fun e w' => e = .returned (.bool r) ∧ Below w.heap.size w w' := by
 unfold elC
 obtain ⟨w0, hw0⟩ : ∃ w0, w0 = (w.alloc (.cells #[.int .i64 x.tree, .int .i64 x.node, .int .i64 x.tgt, .int .u64 (x.wt : Int)] 137)) := ⟨_, rfl⟩
 have hbf : Below w.heap.size w w0 := by rw [hw0]; exact ((Below.refl _ w).alloc (Nat.le_refl _) _)
 obtain ⟨px, hpx⟩ : ∃ p, p = w.heap.size := ⟨_, rfl⟩
 have hbx : BoxL w0 px [.int .i64 x.tree, .int .i64 x.node, .int .i64 x.tgt, .int .u64 (x.wt : Int)] := by rw [hw0, hpx]; exact BoxL.of4 (by go_simp) (by go_simp) (by go_simp) (by go_simp) (by go_simp) (by go_simp) (by go_simp) (by go_simp)
 have HP : Hid (w.heap.size ≤ px) := Lib.hid (by omega)
 have HW := Lib.hid hw0; clear hw0
 go_enter Tryz.func137, Tryz.ntmps137
 go_upto_region 1 with fail
 rw [← HW.out, ← hpx]
 clear hpx HW
 replace hE := hE.below hbf
 replace hbe := hbe.kept hbf
 obtain ⟨ee0, ee1, ee2, ee3, ee4, ee5, ee6⟩ := hbe.c7
 have ex0 := hbx.cell 0 _ rfl
 have ex1 := hbx.cell 1 _ rfl
 have ex2 := hbx.cell 2 _ rfl
 have ex3 := hbx.cell 3 _ rfl
 obtain ⟨q1, hq1⟩ : ∃ q, findE e.nodes x.tree x.node = q := ⟨_, rfl⟩
 have hf1 := find_any _ e _ _ _ _ _ _ x.tree x.node w0 hE _ _ (Lib.hid rfl) (Lib.hid rfl)
 rw [hq1] at hf1
 have hq := Lib.hid hq1
 clear hq1
 cases q1 with
 | none =>
  have hr2 : r = true := by rw [← hr]; unfold leafB; rw [hq.out]
  subst hr2; clear hr
  go_upto_region 2 with (go_at_call 36; refine hf1.mono ?_; rintro e9 w1 ⟨rfl, hb1⟩)
  go_wp2_with fail
  go_ret
  exact ⟨rfl, hbf.trans (hb1.mono hbf.size)⟩
 | some k =>
  have hk := findE_lt hq.out
  have hr2 : (decide (e.nodes[k].mode ≠ 7) || (decide (x.tgt < 0) || decide (e.tgts ≤ x.tgt))) = r := by rw [← hr]; unfold leafB; rw [hq.out]; simp [getElem!_pos, hk]
  clear hr hq
  obtain ⟨b, off, rfl⟩ := hE.nodes.addr hk
  obtain ⟨y, hy⟩ : ∃ y, e.nodes[k] = y := ⟨_, rfl⟩
  rw [hy] at hr2
  go_upto_region 2 with (go_at_call 36; refine hf1.mono ?_; rintro e9 w1 ⟨rfl, hb1⟩; replace hbe := hbe.kept hb1; replace hbx := hbx.kept hb1)
  obtain ⟨c0, c1, c2, c3, c4, c5, c6, c7⟩ := RowC.c8 hE.nodes hb1 hk y hy
  clear hy hf1 ee0 ee1 ee2 ee3 ee4 ee5 ee6 ex0 ex1 ex2 ex3
  have hkz : (k : Int) < (e.nodes.length : Int) := by omega
  have hkz0 : (0 : Int) ≤ (k : Int) := by omega
  obtain ⟨ee0, ee1, ee2, ee3, ee4, ee5, ee6⟩ := hbe.c7
  have ex0 := hbx.cell 0 _ rfl
  have ex1 := hbx.cell 1 _ rfl
  have ex2 := hbx.cell 2 _ rfl
  have ex3 := hbx.cell 3 _ rfl
  replace hbf := hbf.trans (hb1.mono hbf.size)
  subst hr2
  by_cases q : y.mode = 7
  ·have q2 : (y.mode != 7) = false := by simp [q]
   by_cases q3 : x.tgt < 0
   ·go_wp2_with fail
    go_ret
    exact ⟨ret_one (congrArg Value.bool (by simp [q, q3] <;> omega)), hbf⟩
   ·go_wp2_with fail
    go_ret
    exact ⟨ret_one (congrArg Value.bool (by simp [q, q3] <;> omega)), hbf⟩
  ·have q2 : (y.mode != 7) = true := by simp [q]
   go_wp2_with fail
   go_ret
   exact ⟨ret_one (congrArg Value.bool (by simp [q])), hbf⟩
theorem enter_leaf1 : ∀ args w, (callFunc 137 args).run Tryz.prog w = .ok (.enter 137 args) w := enters_of Tryz.func137 (by kernel_rfl) rfl
set_option maxHeartbeats 1000000 in
theorem leaf_any (v : Value) (e : EE) (bo : Option Addr) (bc : Nat) (no : Option Addr) (nc : Nat) (lo : Option Addr) (lc : Nat) (w : World) (h : EnsIs w v e bo bc no nc lo lc) (r : Bool) (hr : Hid (leafE e = r)) :
  Calls Tryz.prog 96 #[v] w fun e w' => e = .returned (.bool r) ∧ Below w.heap.size w w' := by
 obtain ⟨rfl, h1, h2, h4, h5, h3, h6, h7, h8, h9⟩ := h
 obtain ⟨w0, hw0, hbf, pe, hpe, hbe⟩ := boxE w e bo bc no nc lo lc
 have HP : Hid (w.heap.size ≤ pe) := Lib.hid (by omega)
 have HW := Lib.hid hw0; clear hw0
 go_enter Tryz.func96, Tryz.ntmps96
 go_upto_region 1 with fail
 rw [← HW.out, ← hpe]
 clear hpe HW
 have hE : EnsIs w0 (ensV e bo bc no nc lo lc) e bo bc no nc lo lc := EnsIs.below ⟨rfl, h1, h2, h4, h5, h3, h6, h7, h8, h9⟩ hbf
 obtain ⟨ee0, ee1, ee2, ee3, ee4, ee5, ee6⟩ := hbe.c7
 have hcall := cont_el (leafB e) 137 #[.pointer (some ⟨pe, 0, none⟩)] enter_leaf1 lo lc e.leaves w0 _ (fun W x hx hb => leaf1_any x e _ _ _ _ _ _ pe W (hE.below hb) (hbe.kept hb) _ rfl) hE.leaves h6 (Lib.hid rfl)
 have hr2 := hr.out
 rw [leafE_eq] at hr2
 generalize e.leaves.any (leafB e) = q at hr2 hcall
 subst hr2; clear hr
 go_wp2_with (go_at_call 97; refine hcall.mono ?_; rintro e9 w1 ⟨rfl, hb1⟩)
 go_ret
 exact ⟨by first | rfl | simp, hbf.trans (hb1.mono hbf.size)⟩
end Go.Proofs.YtcpfanpcdkoiaaaGreat
namespace Go.Proofs.YtcpfanpcdkoiaaaGreat
open Go.RowKit


def namedE (e : EE) : List UInt8 := if e.agg ∉ aggW then wordE 2 else if e.post ∉ postW then wordE 3 else []
theorem agg_strs (w : World) : Strs (w.alloc (.cells #[.string ⟨#[83, 85, 77]⟩, .string ⟨#[65, 86, 69, 82, 65, 71, 69]⟩, .string ⟨#[77, 73, 78]⟩, .string ⟨#[77, 65, 88]⟩] 9)) (.slice (some ⟨w.heap.size, 0, none⟩) 4 4) aggW := by
 refine strs_of (ls := aggW) (by simp) (by decide) (fun i hi => ?_)
 match i, hi with
 | 0, _ => go_simp; rfl
 | 1, _ => go_simp; rfl
 | 2, _ => go_simp; rfl
 | 3, _ => go_simp; rfl
theorem post_strs (w : World) : Strs (w.alloc (.cells #[.string ⟨#[78, 79, 78, 69]⟩, .string ⟨#[83, 79, 70, 84, 77, 65, 88]⟩, .string ⟨#[76, 79, 71, 73, 83, 84, 73, 67]⟩, .string ⟨#[83, 79, 70, 84, 77, 65, 88, 95, 90, 69, 82, 79]⟩, .string ⟨#[80, 82, 79, 66, 73, 84]⟩] 9)) (.slice (some ⟨w.heap.size, 0, none⟩) 5 5) postW := by
 refine strs_of (ls := postW) (by simp) (by decide) (fun i hi => ?_)
 match i, hi with
 | 0, _ => go_simp; rfl
 | 1, _ => go_simp; rfl
 | 2, _ => go_simp; rfl
 | 3, _ => go_simp; rfl
 | 4, _ => go_simp; rfl
set_option maxHeartbeats 1000000 in
theorem named_any (v : Value) (e : EE) (bo : Option Addr) (bc : Nat) (no : Option Addr) (nc : Nat) (lo : Option Addr) (lc : Nat) (w : World) (h : EnsIs w v e bo bc no nc lo lc) (s : List UInt8) (hs : Hid (namedE e = s)) :
  Calls Tryz.prog 85 #[v] w fun e w' => e = .returned (.string ⟨s.toArray⟩) ∧ Below w.heap.size w w' := by
 obtain ⟨rfl, h1, h2, h4, h5, h3, h6, h7, h8, h9⟩ := h
 obtain ⟨a, ha⟩ : ∃ a, decide (e.agg ∈ aggW) = a := ⟨_, rfl⟩
 obtain ⟨p, hp⟩ : ∃ p, decide (e.post ∈ postW) = p := ⟨_, rfl⟩
 have hs2 : s = (if a = false then wordE 2 else if p = false then wordE 3 else []) := by rw [← hs.out, ← ha, ← hp]; unfold namedE; simp
 have hA := fun W => cont_str _ aggW e.agg _ _ (agg_strs W) (Lib.hid ha)
 have hP := fun W => cont_str _ postW e.post _ _ (post_strs W) (Lib.hid hp)
 clear hs ha hp
 obtain ⟨w0, hw0, hbf, pe, hpe, hbe⟩ := boxE w e bo bc no nc lo lc
 have HP : Hid (w.heap.size ≤ pe) := Lib.hid (by omega)
 have HW := Lib.hid hw0; clear hw0
 go_enter Tryz.func85, Tryz.ntmps85
 go_upto_region 1 with fail
 rw [← HW.out, ← hpe]
 clear hpe HW
 obtain ⟨ee0, ee1, ee2, ee3, ee4, ee5, ee6⟩ := hbe.c7
 have hlt := hbe.lt
 cases a with
 | false =>
  have hs3 : s = wordE 2 := hs2
  subst hs3; clear hs2
  go_wp2_with (go_at_call 127; refine (hA _).mono ?_; rintro e9 w1 ⟨rfl, hb1⟩)
  go_ret
  exact ⟨rfl, hbf.trans (((Below.refl _ _).alloc (Nat.le_refl _) _ |>.trans (hb1.mono (by simp))).mono hbf.size)⟩
 | true =>
  have hs3 : s = (if p = false then wordE 3 else []) := hs2
  subst hs3; clear hs2
  go_upto_region 3 with (go_at_call 127; refine (hA _).mono ?_; rintro e9 w1 ⟨rfl, hb1⟩)
  have hb2 := ((Below.refl w0.heap.size w0).alloc (Nat.le_refl _) (.cells #[.string ⟨#[83, 85, 77]⟩, .string ⟨#[65, 86, 69, 82, 65, 71, 69]⟩, .string ⟨#[77, 73, 78]⟩, .string ⟨#[77, 65, 88]⟩] 9)).trans (hb1.mono (by simp))
  replace hbe := hbe.kept hb2
  replace hbf := hbf.trans (hb2.mono hbf.size)
  clear hlt
  have hlt := hbe.lt
  clear ee0 ee1 ee2 ee3 ee4 ee5 ee6 hb1 hb2
  obtain ⟨ee0, ee1, ee2, ee3, ee4, ee5, ee6⟩ := hbe.c7
  cases p
  all_goals
   go_wp2_with (go_at_call 127; refine (hP _).mono ?_; rintro e9 w3 ⟨rfl, hb3⟩)
   go_ret
   exact ⟨rfl, hbf.trans (((Below.refl _ _).alloc (Nat.le_refl _) _ |>.trans (hb3.mono (by simp))).mono hbf.size)⟩
set_option maxHeartbeats 1000000 in
theorem size_any (v : Value) (e : EE) (bo : Option Addr) (bc : Nat) (no : Option Addr) (nc : Nat) (lo : Option Addr) (lc : Nat) (w : World) (h : EnsIs w v e bo bc no nc lo lc) (r : Bool) (hr : Hid (sizeE e = r)) :
  Calls Tryz.prog 84 #[v] w fun e w' => e = .returned (.bool r) ∧ Below w.heap.size w w' := by
 obtain ⟨rfl, h1, h2, h4, h5, h3, h6, h7, h8, h9⟩ := h
 have hr2 := hr.out
 unfold sizeE at hr2
 clear hr
 obtain ⟨w0, hw0, hbf, pe, hpe, hbe⟩ := boxE w e bo bc no nc lo lc
 have HP : Hid (w.heap.size ≤ pe) := Lib.hid (by omega)
 have HW := Lib.hid hw0; clear hw0
 go_enter Tryz.func84, Tryz.ntmps84
 go_upto_region 1 with fail
 rw [← HW.out, ← hpe]
 clear hpe HW
 have hE : EnsIs w0 (ensV e bo bc no nc lo lc) e bo bc no nc lo lc := EnsIs.below ⟨rfl, h1, h2, h4, h5, h3, h6, h7, h8, h9⟩ hbf
 obtain ⟨ee0, ee1, ee2, ee3, ee4, ee5, ee6⟩ := hbe.c7
 subst hr2
 by_cases q0 : 0 ≤ e.feats
 ·by_cases q1 : e.feats ≤ 40
  ·by_cases q2 : 1 ≤ e.tgts
   ·by_cases q3 : e.tgts ≤ 20
    ·by_cases q4 : 1 ≤ e.nodes.length
     ·have z4 : (1 : Int) ≤ (e.nodes.length : Int) := by omega
      by_cases q5 : e.nodes.length ≤ 2000
      ·have z5 : (e.nodes.length : Int) ≤ 2000 := by omega
       by_cases q6 : e.leaves.length ≤ 2000
       ·have z6 : (e.leaves.length : Int) ≤ 2000 := by omega
        have hT := trees_any _ e _ _ _ _ _ _ w0 hE (by omega)
        go_wp2_with (go_at_call 32; refine hT.mono ?_; rintro e9 w1 ⟨r9, rfl, hO, hb1⟩; obtain ⟨ao, cp, rfl, _, _, _⟩ := OwnsK.slice (K := 1) hO; rw [ivals_length])
        go_ret
        exact ⟨ret_one (congrArg Value.bool (by simp [q0, q1, q2, q3, q4, q5, q6] <;> omega)), hbf.trans (hb1.mono hbf.size)⟩
       ·have z6 : ¬ (e.leaves.length : Int) ≤ 2000 := by omega
        go_wp2_with fail
        go_ret
        exact ⟨ret_one (congrArg Value.bool (by simp [q0, q1, q2, q3, q4, q5, q6] <;> omega)), hbf⟩
      ·have z5 : ¬ (e.nodes.length : Int) ≤ 2000 := by omega
       go_wp2_with fail
       go_ret
       exact ⟨ret_one (congrArg Value.bool (by simp [q0, q1, q2, q3, q4, q5] <;> omega)), hbf⟩
     ·have z4 : ¬ (1 : Int) ≤ (e.nodes.length : Int) := by omega
      go_wp2_with fail
      go_ret
      exact ⟨ret_one (congrArg Value.bool (by simp [q0, q1, q2, q3, q4] <;> omega)), hbf⟩
    ·go_wp2_with fail
     go_ret
     exact ⟨ret_one (congrArg Value.bool (by simp [q0, q1, q2, q3] <;> omega)), hbf⟩
   ·go_wp2_with fail
    go_ret
    exact ⟨ret_one (congrArg Value.bool (by simp [q0, q1, q2] <;> omega)), hbf⟩
  ·go_wp2_with fail
   go_ret
   exact ⟨ret_one (congrArg Value.bool (by simp [q0, q1] <;> omega)), hbf⟩
 ·go_wp2_with fail
  go_ret
  exact ⟨ret_one (congrArg Value.bool (by simp [q0] <;> omega)), hbf⟩
set_option maxHeartbeats 1000000 in
theorem base_any (v : Value) (e : EE) (bo : Option Addr) (bc : Nat) (no : Option Addr) (nc : Nat) (lo : Option Addr) (lc : Nat) (w : World) (h : EnsIs w v e bo bc no nc lo lc) (r : Bool) (hr : Hid (baseE e = r)) :
  Calls Tryz.prog 86 #[v] w fun e w' => e = .returned (.bool r) ∧ Below w.heap.size w w' := by
 obtain ⟨rfl, h1, h2, h4, h5, h3, h6, h7, h8, h9⟩ := h
 have hr2 := hr.out
 unfold baseE at hr2
 clear hr
 obtain ⟨w0, hw0, hbf, pe, hpe, hbe⟩ := boxE w e bo bc no nc lo lc
 have HP : Hid (w.heap.size ≤ pe) := Lib.hid (by omega)
 have HW := Lib.hid hw0; clear hw0
 go_enter Tryz.func86, Tryz.ntmps86
 go_upto_region 1 with fail
 rw [← HW.out, ← hpe]
 clear hpe HW
 obtain ⟨ee0, ee1, ee2, ee3, ee4, ee5, ee6⟩ := hbe.c7
 have hall : e.base.all finP = !e.base.any (fun p => !finP p) := by rw [List.all_eq_not_any_not]
 have hcall := cont_pat (fun p => !finP p) 129 #[] enter_base1 bo bc e.base w0 _ (fun W x hx hb => base1_any x W (h7 x hx)) (h1.below hbf) h5 (Lib.hid rfl)
 rw [hall] at hr2
 clear hall
 generalize e.base.any (fun p => !finP p) = q at hr2 hcall
 subst hr2
 by_cases q0 : e.base.length = 0
 ·have z0 : (((e.base.length : Nat) : Int) == 0) = true := by simp; exact List.eq_nil_of_length_eq_zero q0
  have q0h := Lib.hid q0
  clear q0
  go_wp2_with (go_at_call 128; refine hcall.mono ?_; rintro e9 w1 ⟨rfl, hb1⟩)
  go_ret
  exact ⟨ret_one (congrArg Value.bool (by simp [q0h.out])), hbf.trans (hb1.mono hbf.size)⟩
 ·have z0 : (((e.base.length : Nat) : Int) == 0) = false := by simp; intro h; rw [h] at q0; simp at q0
  by_cases q1 : (e.base.length : Int) = e.tgts
  ·have z1 : (((e.base.length : Nat) : Int) == e.tgts) = true := by simp [q1]
   have q1h := Lib.hid q1
   clear q1
   go_wp2_with (go_at_call 128; refine hcall.mono ?_; rintro e9 w1 ⟨rfl, hb1⟩)
   go_ret
   exact ⟨ret_one (congrArg Value.bool (by simp [q1h.out])), hbf.trans (hb1.mono hbf.size)⟩
  ·have z1 : (((e.base.length : Nat) : Int) == e.tgts) = false := by simp [q1]
   go_wp2_with fail
   go_ret
   exact ⟨ret_one (congrArg Value.bool (by simp [q1]; exact fun h => absurd (by rw [h]; rfl) q0)), hbf⟩
def numB (ns : List EN) (k : Nat) : Bool := let n := ns[k]!; decide (0 ≤ n.tree) && (decide (0 ≤ n.node) && decide ((findE ns n.tree n.node).getD 0 = k))
theorem numsE_eq (ns : List EN) : numsE ns = (List.range ns.length).all (numB ns) := rfl
set_option maxHeartbeats 1000000 in
theorem numbers_any (v : Value) (e : EE) (bo : Option Addr) (bc : Nat) (no : Option Addr) (nc : Nat) (lo : Option Addr) (lc : Nat) (w : World) (h : EnsIs w v e bo bc no nc lo lc) (r : Bool) (hr : Hid (numsE e.nodes = r)) :
  Calls Tryz.prog 87 #[v] w fun e w' => e = .returned (.bool r) ∧ Below w.heap.size w w' := by
 obtain ⟨rfl, h1, h2, h4, h5, h3, h6, h7, h8, h9⟩ := h
 obtain ⟨w0, hw0, hbf, pe, hpe, hbe⟩ := boxE w e bo bc no nc lo lc
 have HP : Hid (w.heap.size ≤ pe) := Lib.hid (by omega)
 have HW := Lib.hid hw0; clear hw0
 go_enter Tryz.func87, Tryz.ntmps87
 go_upto_region 1 with fail
 rw [← HW.out, ← hpe]
 clear hpe HW
 have hE : EnsIs w0 (ensV e bo bc no nc lo lc) e bo bc no nc lo lc := EnsIs.below ⟨rfl, h1, h2, h4, h5, h3, h6, h7, h8, h9⟩ hbf
 have ee5 := hbe.cell 5 _ rfl
 have h3b := h3
 unfold maxLen at h3b
 go_wp2_with fail
 go_loopg [10] e.nodes.length (fun gg iv wr => ∃ (i : Nat), i + gg = e.nodes.length ∧ iv = .int .i64 (i : Int) ∧ Hid (∀ k, k < i → numB e.nodes k = true) ∧ Below w0.heap.size w0 wr)
 case atStart => exact ⟨0, by omega, rfl, Lib.hid (fun k hk => absurd hk (Nat.not_lt_zero _)), Below.refl _ _⟩
 case round =>
  obtain ⟨i, hi, rfl, hA, hbr⟩ := hrel
  replace hbe := hbe.kept hbr
  replace hE := hE.below hbr
  clear ee5
  by_cases hil : i < e.nodes.length
  ·have hz : (i : Int) < (e.nodes.length : Int) := by omega
   have hz0 : (0 : Int) ≤ (i : Int) := by omega
   obtain ⟨b, off, rfl⟩ := h2.addr hil
   obtain ⟨y, hy⟩ : ∃ y, e.nodes[i] = y := ⟨_, rfl⟩
   obtain ⟨c0, c1, c2, c3, c4, c5, c6, c7⟩ := RowC.c8 h2 (hbf.trans (hbr.mono hbf.size)) hil y hy
   have HN : Hid (numB e.nodes i = (decide (0 ≤ y.tree) && (decide (0 ≤ y.node) && decide ((findE e.nodes y.tree y.node).getD 0 = i)))) := Lib.hid (by unfold numB; rw [getElem!_pos e.nodes i hil, hy])
   clear hy
   obtain ⟨w2, hwE, hb2, px, hpE, hbx⟩ := boxN wr y
   have HW := Lib.hid hwE; clear hwE
   go_upto_region 4 with fail
   rw [← HW.out, ← hpE]
   have Hpx := Lib.hid (Nat.le_of_eq hpE.symm)
   clear HW hpE
   have hbr2 := hbr.trans (hb2.mono hbr.size)
   have hpl2 := hbx.lt
   clear c0 c1 c2 c3 c4 c5 c6 c7
   obtain ⟨ex0, ex1, ex2, ex3, ex4, ex5, ex6, ex7⟩ := hbx.c8
   have no : numB e.nodes i = false → Hid (numsE e.nodes = false) := fun h => Lib.hid (by rw [numsE_eq]; exact List.all_eq_false.2 ⟨i, List.mem_range.2 hil, by rw [h]; simp⟩)
   by_cases q1 : y.tree < 0
   ·have hr2 : r = false := by rw [← hr.out]; exact (no (by rw [HN.out]; simp; omega)).out
    subst hr2; clear hr no HN
    go_wp2_with fail
    go_ret
    exact ⟨rfl, hbf.trans (hbr2.mono hbf.size)⟩
   ·by_cases q2 : y.node < 0
    ·have hr2 : r = false := by rw [← hr.out]; exact (no (by rw [HN.out]; simp; omega)).out
     subst hr2; clear hr no HN
     go_wp2_with fail
     go_ret
     exact ⟨rfl, hbf.trans (hbr2.mono hbf.size)⟩
    ·obtain ⟨g, hg⟩ : ∃ g, (findE e.nodes y.tree y.node).getD 0 = g := ⟨_, rfl⟩
     have hf := find_any _ e _ _ _ _ _ _ y.tree y.node w2 (hE.below hb2) g _ (Lib.hid hg) (Lib.hid rfl)
     generalize (findE e.nodes y.tree y.node).isSome = b9 at hf
     have HN2 : Hid (numB e.nodes i = decide (g = i)) := Lib.hid (by rw [HN.out, hg, decide_eq_true (show 0 ≤ y.tree by omega), decide_eq_true (show 0 ≤ y.node by omega), Bool.true_and, Bool.true_and])
     clear HN hg
     replace hbe := hbe.kept hb2
     obtain ⟨ee0, ee1, ee2, ee3, ee4, ee5, ee6⟩ := hbe.c7
     by_cases q3 : g = i
     ·have hA2 : Hid (∀ k, k < i + 1 → numB e.nodes k = true) := Lib.hid (fun k hk => by
       by_cases e9 : k = i
       ·subst e9; rw [HN2.out]; simp [q3]
       ·exact hA.out k (by omega))
      subst q3
      clear hA HN2 no
      go_wp2_with (go_at_call 36; refine hf.mono ?_; rintro e9 w3 ⟨rfl, hb3⟩)
      go_roundg (gk - 1)
      case measure => omega
      case rel => exact ⟨g + 1, by omega, by first | rfl | go_num, hA2, hbr2.trans (hb3.mono hbr2.size)⟩
     ·have hr2 : r = false := by rw [← hr.out]; exact (no (by rw [HN2.out]; simp [q3])).out
      have q4 : ((g : Int) != (i : Int)) = true := by simp; omega
      subst hr2; clear hr no HN2 q3
      go_wp2_with (go_at_call 36; refine hf.mono ?_; rintro e9 w3 ⟨rfl, hb3⟩)
      go_ret
      exact ⟨rfl, hbf.trans ((hbr2.trans (hb3.mono hbr2.size)).mono hbf.size)⟩
  ·have hz : ¬ (i : Int) < (e.nodes.length : Int) := by omega
   have hr2 : r = true := by rw [← hr.out, numsE_eq]; exact List.all_eq_true.2 fun k hk => hA.out k (by have := List.mem_range.1 hk; omega)
   subst hr2; clear hr hA
   go_wp2_with fail
   go_ret
   exact ⟨rfl, hbf.trans (hbr.mono hbf.size)⟩
end Go.Proofs.YtcpfanpcdkoiaaaGreat
namespace Go.Proofs.YtcpfanpcdkoiaaaGreat
open Go.RowKit


def rootP (ns : List EN) (up : List Int) (t : Int) (k : Nat) : Bool := decide (ns[k]!.tree = t) && decide (up[k]?.getD 0 = -1)
def cntR (ns : List EN) (up : List Int) (t : Int) (i : Nat) : Nat := ((List.range i).filter (rootP ns up t)).length
theorem cntR_all (ns : List EN) (up : List Int) (t : Int) : rootsE ns up t = cntR ns up t ns.length := rfl
theorem cntR_succ (ns : List EN) (up : List Int) (t : Int) (i : Nat) : cntR ns up t (i + 1) = cntR ns up t i + (if rootP ns up t i = true then 1 else 0) := by
 unfold cntR
 rw [List.range_succ, List.filter_append, List.length_append]
 by_cases h : rootP ns up t i = true <;> simp [h]
theorem IntsI.at' {k : IntKind} {w : World} {ao : Option Addr} {n cap : Nat} {ns : List Int} (h : IntsI k w (.slice ao n cap) ns) : n = ns.length ∧ ∀ i (hi : i < ns.length), ∃ b off, ao = some ⟨b, off, none⟩ ∧ b < w.heap.size ∧ w.cell? ⟨b, off + i, none⟩ = some (.int k (ns[i]?.getD 0)) := by
 obtain ⟨ao', cap', e, h1, h2, h3⟩ := h
 cases e
 refine ⟨rfl, fun i hi => ?_⟩
 rcases h3 with h | ⟨b, off, e, hb, hc⟩
 ·rw [h] at hi; simp at hi
 ·exact ⟨b, off, e, hb, hc i hi⟩
set_option maxHeartbeats 2000000 in
theorem single_e (v : Value) (e : EE) (bo : Option Addr) (bc : Nat) (no : Option Addr) (nc : Nat) (lo : Option Addr) (lc : Nat) (ao : Option Addr) (cap : Nat) (up : List Int) (w : World) (h : EnsIs w v e bo bc no nc lo lc) (hlim : e.nodes.length ≤ 100000) (hu : IntsI .i64 w (.slice ao up.length cap) up) (hul : up.length = e.nodes.length) (r : Bool) (hr : Hid (singleE e.nodes up = r)) :
  Calls Tryz.prog 136 #[v, .slice ao up.length cap] w fun e w' => e = .returned (.bool r) ∧ Below w.heap.size w w' := by
 obtain ⟨rfl, h1, h2, h4, h5, h3, h6, h7, h8, h9⟩ := h
 obtain ⟨w0, hw0, hbf, pe, hpe, hbe⟩ := boxE w e bo bc no nc lo lc
 have HP : Hid (w.heap.size ≤ pe) := Lib.hid (by omega)
 have HW := Lib.hid hw0; clear hw0
 go_enter Tryz.func136, Tryz.ntmps136
 go_upto_region 1 with fail
 rw [← HW.out, ← hpe]
 clear hpe HW
 have hE : EnsIs w0 (ensV e bo bc no nc lo lc) e bo bc no nc lo lc := EnsIs.below ⟨rfl, h1, h2, h4, h5, h3, h6, h7, h8, h9⟩ hbf
 obtain ⟨ee0, ee1, ee2, ee3, ee4, ee5, ee6⟩ := hbe.c7
 have hlt := hbe.lt
 replace hu := hu.below hbf
 have hT := trees_any _ e _ _ _ _ _ _ w0 hE hlim
 obtain ⟨ts, hts⟩ : ∃ ts, treesE e.nodes = ts := ⟨_, rfl⟩
 have HTS := Lib.hid hts
 rw [hts] at hT
 clear hts
 go_wp2_with (go_at_call 32; refine hT.mono ?_; rintro e9 w1 ⟨r9, rfl, hO, hb1⟩; have hI9 := (ints_of_owns hO).1; obtain ⟨tao, tcp, rfl, htc1, htc2, _⟩ := OwnsK.slice (K := 1) hO; rw [ivals_length] at *)
 clear hT ee0 ee1 ee2 ee3 ee4 ee5 ee6
 replace hbe := hbe.kept hb1
 replace hE := hE.below hb1
 replace hu := hu.below hb1
 replace hbf := hbf.trans (hb1.mono hbf.size)
 clear hlt hb1
 unfold maxLen at htc2
 have htl := Nat.le_trans htc1 htc2
 go_loopg [12] ts.length (fun gg iv wr => ∃ (j : Nat), j + gg = ts.length ∧ iv = .int .i64 (j : Int) ∧ Hid (∀ m (hm : m < ts.length), m < j → rootsE e.nodes up ts[m] = 1) ∧ Below w1.heap.size w1 wr)
 case atStart => exact ⟨0, by omega, rfl, Lib.hid (fun m hm hm2 => absurd hm2 (Nat.not_lt_zero _)), Below.refl _ _⟩
 case round =>
  obtain ⟨j, hj, rfl, hA, hbr⟩ := hrel
  by_cases hjl : j < ts.length
  ·have hz : (j : Int) < (ts.length : Int) := by omega
   have hz0 : (0 : Int) ≤ (j : Int) := by omega
   obtain ⟨tb, toff, rfl, htb, htc⟩ := hI9.at'.2 j hjl
   obtain ⟨t, ht⟩ : ∃ t, ts[j] = t := ⟨_, rfl⟩
   rw [List.getElem?_eq_getElem hjl, Option.getD_some, ht] at htc
   have ct := (hbr.cell (p := ⟨tb, toff + j, none⟩) htb).trans htc
   have Ht := Lib.hid ht
   clear ht htc
   replace hbe := hbe.kept hbr
   have ee5 := hbe.cell 5 _ rfl
   have hlt := hbe.lt
   have hno := hE.nodes.below (B := 0) hbr
   replace hu := hu.below hbr
   have hbfr := hbf.trans (hbr.mono hbf.size)
   obtain ⟨ww, hww⟩ : ∃ x, x = wr := ⟨_, rfl⟩
   subst hww
   obtain ⟨go1, hgo⟩ : ∃ go, go = gk := ⟨_, rfl⟩
   subst hgo
   go_wp2_with fail
   clear ee5 ct
   go_loopg [7, 19] e.nodes.length (fun gg nv iv wr => ∃ (i : Nat) (n : Nat), i + gg = e.nodes.length ∧ nv = .int .i64 (n : Int) ∧ iv = .int .i64 (i : Int) ∧ n ≤ i ∧ Hid (n = cntR e.nodes up t i) ∧ Below ww.heap.size ww wr)
   case atStart => exact ⟨0, 0, by omega, rfl, rfl, Nat.le_refl _, Lib.hid rfl, Below.refl _ _⟩
   case round =>
    obtain ⟨i, n, hi, rfl, rfl, hni, hN, hbq⟩ := hrel
    by_cases hil : i < e.nodes.length
    ·have hzi : (i : Int) < (e.nodes.length : Int) := by omega
     have hzi0 : (0 : Int) ≤ (i : Int) := by omega
     have hzn0 : (0 : Int) ≤ (n : Int) := by omega
     obtain ⟨b, off, rfl⟩ := h2.addr hil
     obtain ⟨y, hy⟩ : ∃ y, e.nodes[i] = y := ⟨_, rfl⟩
     obtain ⟨c0, -, -, -, -, -, -, -⟩ := RowC.c8 hno hbq hil y hy
     obtain ⟨ub, uoff, rfl, hub, hucc⟩ := hu.at'.2 i (by omega)
     have cu := (hbq.cell (p := ⟨ub, uoff + i, none⟩) hub).trans hucc
     have HR : Hid (rootP e.nodes up t i = (decide (y.tree = t) && decide (up[i]?.getD 0 = -1))) := Lib.hid (by unfold rootP; rw [getElem!_pos e.nodes i hil, hy])
     clear hy hucc
     generalize up[i]?.getD 0 = uv at cu HR
     have ee5 := (hbe.kept hbq).cell 5 _ rfl
     have hiu : (i : Int) < (up.length : Int) := by omega
     by_cases q : y.tree = t
     ·rw [q] at c0
      by_cases q2 : uv = -1
      ·subst q2
       have HN2 : Hid (n + 1 = cntR e.nodes up t (i + 1)) := Lib.hid (by rw [cntR_succ, HR.out, hN.out]; simp [q])
       clear HR hN q
       go_wp2_with fail
       go_roundg (gk - 1)
       case measure => omega
       case rel => exact ⟨i + 1, n + 1, by omega, by first | rfl | go_num, by first | rfl | go_num, by omega, HN2, hbq⟩
      ·have q3 : (uv == -1) = false := by simp [q2]
       have HN2 : Hid (n = cntR e.nodes up t (i + 1)) := Lib.hid (by rw [cntR_succ, HR.out, hN.out]; simp [q2])
       clear HR hN q q2
       go_wp2_with fail
       go_roundg (gk - 1)
       case measure => omega
       case rel => exact ⟨i + 1, n, by omega, by first | rfl | go_num, by first | rfl | go_num, by omega, HN2, hbq⟩
     ·have q3 : (y.tree == t) = false := by simp [q]
      have HN2 : Hid (n = cntR e.nodes up t (i + 1)) := Lib.hid (by rw [cntR_succ, HR.out, hN.out]; simp [q])
      clear HR hN q
      go_wp2_with fail
      go_roundg (gk - 1)
      case measure => omega
      case rel => exact ⟨i + 1, n, by omega, by first | rfl | go_num, by first | rfl | go_num, by omega, HN2, hbq⟩
    ·have hzi : ¬ (i : Int) < (e.nodes.length : Int) := by omega
     have hie : i = e.nodes.length := by omega
     have HN2 : Hid (rootsE e.nodes up t = n) := Lib.hid (by rw [cntR_all, ← hie]; exact hN.out.symm)
     clear hN
     by_cases q : n = 1
     ·have HA2 : Hid (∀ m (hm : m < ts.length), m < j + 1 → rootsE e.nodes up ts[m] = 1) := Lib.hid (fun m hm hm2 => by
       by_cases e9 : m = j
       ·subst e9; rw [Ht.out, HN2.out, q]
       ·exact hA.out m hm (by omega))
      subst q
      clear hA HN2 hie
      go_wp2_with fail
      go_roundg (go1 - 1)
      case measure => omega
      case rel => exact ⟨j + 1, by omega, by first | rfl | go_num, HA2, hbr.trans (hbq.mono hbr.size)⟩
     ·have q3 : ((n : Int) != 1) = true := by simp; omega
      have hr2 : r = false := by
       rw [← hr.out]; unfold singleE; rw [HTS.out]
       exact List.all_eq_false.2 ⟨ts[j], List.getElem_mem hjl, by rw [Ht.out, HN2.out]; simp [q]⟩
      subst hr2
      clear hr HN2 hA q
      go_wp2_with fail
      go_ret
      exact ⟨rfl, hbfr.trans (hbq.mono hbfr.size)⟩
  ·have hz : ¬ (j : Int) < (ts.length : Int) := by omega
   have hr2 : r = true := by
    rw [← hr.out]; unfold singleE; rw [HTS.out]
    refine List.all_eq_true.2 fun t ht => ?_
    obtain ⟨m, hm, rfl⟩ := List.mem_iff_getElem.1 ht
    rw [hA.out m hm (by omega)]; rfl
   subst hr2
   clear hr hA
   go_wp2_with fail
   go_ret
   exact ⟨rfl, hbf.trans (hbr.mono hbf.size)⟩
end Go.Proofs.YtcpfanpcdkoiaaaGreat
