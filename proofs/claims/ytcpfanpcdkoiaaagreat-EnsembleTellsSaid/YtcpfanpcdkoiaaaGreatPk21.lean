/-
  Pk21: EnsP MathSp RangeX IterR IterS (what is needed of them).
-/
import Derived.Test.YtcpfanpcdkoiaaaGreatPk01
import Derived.Test.YtcpfanpcdkoiaaaGreatPk07
import Derived.Test.YtcpfanpcdkoiaaaGreatPk08
import Derived.Test.YtcpfanpcdkoiaaaGreatPk14
import Derived.Test.YtcpfanpcdkoiaaaGreatPk18
import Derived.Test.YtcpfanpcdkoiaaaGreatPk20
import Derived.Deep.LoopGhost
import Derived.Sort.LoopGhostIn
set_option maxRecDepth 100000
set_option linter.unusedVariables false
set_option linter.unusedSimpArgs false

namespace Go.Proofs.YtcpfanpcdkoiaaaGreat
open Go.RowKit


def hitN (t n : Int) (y : EN) : Bool := decide (y.tree = t) && decide (y.node = n)
def NdAt (w : World) (b off p : Nat) (y : EN) : Prop := ∀ j c, (enC y)[j]? = some c → w.cell? ⟨b, off + p * 8 + j, none⟩ = some c
theorem NdAt.c8 {w : World} {b off p : Nat} {y : EN} (h : NdAt w b off p y) :
  w.cell? ⟨b, off + p * 8, none⟩ = some (.int .i64 y.tree) ∧ w.cell? ⟨b, off + p * 8 + 1, none⟩ = some (.int .i64 y.node) ∧ w.cell? ⟨b, off + p * 8 + 2, none⟩ = some (.int .i64 y.feat) ∧ w.cell? ⟨b, off + p * 8 + 3, none⟩ = some (.int .i64 y.mode) ∧ w.cell? ⟨b, off + p * 8 + 4, none⟩ = some (.int .u64 (y.val : Int)) ∧ w.cell? ⟨b, off + p * 8 + 5, none⟩ = some (.int .i64 y.tru) ∧ w.cell? ⟨b, off + p * 8 + 6, none⟩ = some (.int .i64 y.fls) ∧ w.cell? ⟨b, off + p * 8 + 7, none⟩ = some (.bool y.trk) :=
 ⟨h 0 _ rfl, h 1 _ rfl, h 2 _ rfl, h 3 _ rfl, h 4 _ rfl, h 5 _ rfl, h 6 _ rfl, h 7 _ rfl⟩
theorem NdAt.below {w W : World} {b off p : Nat} {y : EN} (h : NdAt w b off p y) (hb : Below w.heap.size w W) : NdAt W b off p y := fun j c hj => by
 have h1 := h j c hj
 exact (hb.cell (p := ⟨b, off + p * 8 + j, none⟩) (World.block_lt_of_cell? w ⟨b, off + p * 8 + j, none⟩ h1)).trans h1
theorem NdAt.drew {w : World} {b off p : Nat} {y : EN} (h : NdAt w b off p y) : NdAt w.drew b off p y := h.below (Below.refl _ _).drew
theorem NdAt.of {w : World} {b off : Nat} {ns : List EN} {i : Nat} {y : EN} (h : RowC 8 enC w (some ⟨b, off, none⟩) ns) (hi : i < ns.length) (hy : ns[i] = y) : NdAt w b off i y := by
 have h10 := h.get hi
 rw [hy] at h10
 exact h10.2
theorem findE_hit {ns : List EN} {t n : Int} {i : Nat} (hi : i < ns.length) (h : hitN t n ns[i]! = true) (hb : ∀ k, k < i → hitN t n ns[k]! = false) : findE ns t n = some i := by
 refine find_hit hi (by rw [← getElem!_pos ns i hi]; exact h) (fun j hj => ?_)
 have := hb j hj
 rw [getElem!_pos ns j (by omega)] at this
 exact this
theorem findE_miss {ns : List EN} {t n : Int} (hb : ∀ k, k < ns.length → hitN t n ns[k]! = false) : findE ns t n = none := by
 refine find_miss (fun j hj => ?_)
 have := hb j hj
 rw [getElem!_pos ns j hj] at this
 exact this
theorem parR_snoc (ns : List EN) (y : EN) (t x : Int) : parR (ns ++ [y]) t x = parR ns t x + parT t x y := by
 unfold parR; rw [List.map_append, List.sum_append]; simp
theorem parT_le (t x : Int) (y : EN) : parT t x y ≤ 2 := by unfold parT; split; split <;> split <;> omega; omega
theorem parR_le (ns : List EN) (t x : Int) : parR ns t x ≤ 2 * ns.length := by
 induction ns with
 | nil => exact Nat.le_refl _
 | cons y r ih =>
  have := parT_le t x y
  have h : parR (y :: r) t x = parT t x y + parR r t x := by unfold parR; rw [List.map_cons, List.sum_cons]
  rw [h, List.length_cons]; omega
theorem parR_zero (ns : List EN) (t x : Int) : parR ns t x = 0 ↔ behindE ns t x = false := by
 induction ns with
 | nil => simp [parR, behindE]
 | cons y r ih =>
  have h : parR (y :: r) t x = parT t x y + parR r t x := by unfold parR; rw [List.map_cons, List.sum_cons]
  have h2 : behindE (y :: r) t x = ((decide (y.tree = t) && (decide (y.mode ≠ 7) && (decide (y.tru = x) || decide (y.fls = x)))) || behindE r t x) := rfl
  rw [h, h2, Bool.or_eq_false_iff, ← ih]
  have h3 : parT t x y = 0 ↔ (decide (y.tree = t) && (decide (y.mode ≠ 7) && (decide (y.tru = x) || decide (y.fls = x)))) = false := by
   unfold parT
   by_cases a : y.tree = t <;> by_cases b : y.mode = 7 <;> by_cases c : y.tru = x <;> by_cases d : y.fls = x <;> simp [a, b, c, d]
  rw [← h3]; omega
set_option maxHeartbeats 2000000 in
theorem rplace_any (v : Value) (e : EE) (bo : Option Addr) (bc : Nat) (no : Option Addr) (nc : Nat) (lo : Option Addr) (lc : Nat) (t n : Int) (r : Int) (w : World) (h : EnsIs w v e bo bc no nc lo lc) (hr : Hid (fidx (findE e.nodes t n) = r)) :
  Calls Tryz.prog 37 #[v, .int .i64 t, .int .i64 n] w fun e_1 w' => e_1 = .returned (.int .i64 r) ∧ Below w.heap.size w w' := by
 obtain ⟨rfl, h1, h2, h4, h5, h3, h6, h7, h8, h9⟩ := h
 obtain ⟨w0, hw0, hbf, pe, hpe, hbe⟩ := boxE w e bo bc no nc lo lc
 have HP : Hid (w.heap.size ≤ pe) := Lib.hid (by omega)
 have HW := Lib.hid hw0; clear hw0
 go_enter Tryz.func37, Tryz.ntmps37
 go_upto_region 1 with fail
 rw [← HW.out, ← hpe]
 clear hpe HW
 have hE : EnsIs w0 (ensV e bo bc no nc lo lc) e bo bc no nc lo lc := EnsIs.below ⟨rfl, h1, h2, h4, h5, h3, h6, h7, h8, h9⟩ hbf
 have ee5 := hbe.cell 5 _ rfl
 have h3b := h3
 unfold maxLen at h3b
 go_wp2_with fail
 go_loopg [7] e.nodes.length (fun gg iv wr => ∃ (i : Nat), i + gg = e.nodes.length ∧ iv = .int .i64 (i : Int) ∧ Hid (∀ k, k < i → hitN t n e.nodes[k]! = false) ∧ Below w0.heap.size w0 wr)
 case atStart => exact ⟨0, by omega, rfl, Lib.hid (fun k hk => absurd hk (Nat.not_lt_zero _)), Below.refl _ _⟩
 case round =>
  obtain ⟨i, hi, rfl, hA, hbr⟩ := hrel
  replace hbe := hbe.kept hbr
  clear ee5
  by_cases hil : i < e.nodes.length
  ·have hz : (i : Int) < (e.nodes.length : Int) := by omega
   have hz0 : (0 : Int) ≤ (i : Int) := by omega
   obtain ⟨nb, noff, rfl⟩ := h2.addr hil
   obtain ⟨y, hy⟩ : ∃ y, e.nodes[i] = y := ⟨_, rfl⟩
   obtain ⟨c0, c1, c2, c3, c4, c5, c6, c7⟩ := RowC.c8 h2 (hbf.trans (hbr.mono hbf.size)) hil y hy
   clear c2 c3 c4 c5 c6 c7
   have ee5 := hbe.cell 5 _ rfl
   have HN : Hid (hitN t n e.nodes[i]! = ((y.tree == t) && (y.node == n))) := Lib.hid (by unfold hitN; rw [getElem!_pos e.nodes i hil, hy]; rfl)
   have HS : Hid (((y.tree == t) && (y.node == n)) = false → ∀ k, k < i + 1 → hitN t n e.nodes[k]! = false) := Lib.hid (fun hf k hk => by
    by_cases e9 : k = i
    ·subst e9; rw [HN.out, hf]
    ·exact hA.out k (by omega))
   have HF : Hid (((y.tree == t) && (y.node == n)) = true → fidx (findE e.nodes t n) = (i : Int)) := Lib.hid (fun hf => by rw [findE_hit hil (by rw [HN.out, hf]) hA.out]; rfl)
   clear hy hA HN
   rcases Bool.eq_false_or_eq_true (y.tree == t) with q1 | q1
   ·rcases Bool.eq_false_or_eq_true (y.node == n) with q2 | q2
    ·have hf := HF.out (by rw [q1, q2]; rfl)
     rw [hr.out] at hf
     subst hf
     clear HS HF hr
     go_wp2_with fail
     go_ret
     exact ⟨rfl, hbf.trans (hbr.mono hbf.size)⟩
    ·have hA2 := Lib.hid (HS.out (by rw [q1, q2]; rfl))
     clear HS HF
     go_wp2_with fail
     go_roundg (gk - 1)
     case measure => omega
     case rel => exact ⟨i + 1, by omega, by go_num, hA2, hbr⟩
   ·have hA2 := Lib.hid (HS.out (by rw [q1]; rfl))
    clear HS HF
    go_wp2_with fail
    go_roundg (gk - 1)
    case measure => omega
    case rel => exact ⟨i + 1, by omega, by go_num, hA2, hbr⟩
  ·have hz : ¬ (i : Int) < (e.nodes.length : Int) := by omega
   have ee5 := hbe.cell 5 _ rfl
   have hf : r = -1 := by rw [← hr.out, findE_miss (fun k hk => hA.out k (by omega))]; rfl
   subst hf
   clear hA hr
   go_wp2_with fail
   go_ret
   exact ⟨rfl, hbf.trans (hbr.mono hbf.size)⟩
set_option maxHeartbeats 2000000 in
theorem rparents_any (v : Value) (e : EE) (bo : Option Addr) (bc : Nat) (no : Option Addr) (nc : Nat) (lo : Option Addr) (lc : Nat) (t x : Int) (r : Nat) (w : World) (h : EnsIs w v e bo bc no nc lo lc) (hlim : e.nodes.length ≤ 100000) (hr : Hid (parR e.nodes t x = r)) :
  Calls Tryz.prog 100 #[v, .int .i64 t, .int .i64 x] w fun e_1 w' => e_1 = .returned (.int .i64 (r : Int)) ∧ Below w.heap.size w w' := by
 obtain ⟨rfl, h1, h2, h4, h5, h3, h6, h7, h8, h9⟩ := h
 obtain ⟨w0, hw0, hbf, pe, hpe, hbe⟩ := boxE w e bo bc no nc lo lc
 have HP : Hid (w.heap.size ≤ pe) := Lib.hid (by omega)
 have HW := Lib.hid hw0; clear hw0
 go_enter Tryz.func100, Tryz.ntmps100
 go_upto_region 1 with fail
 rw [← HW.out, ← hpe]
 clear hpe HW
 have hE : EnsIs w0 (ensV e bo bc no nc lo lc) e bo bc no nc lo lc := EnsIs.below ⟨rfl, h1, h2, h4, h5, h3, h6, h7, h8, h9⟩ hbf
 have ee5 := hbe.cell 5 _ rfl
 go_wp2_with fail
 go_loopg [7, 8] e.nodes.length (fun gg nv iv wr => ∃ (i m : Nat), i + gg = e.nodes.length ∧ iv = .int .i64 (i : Int) ∧ nv = .int .i64 (m : Int) ∧ Hid (parR (e.nodes.take i) t x = m) ∧ Below w0.heap.size w0 wr)
 case atStart => exact ⟨0, 0, by omega, rfl, rfl, Lib.hid rfl, Below.refl _ _⟩
 case round =>
  obtain ⟨i, m, hi, rfl, rfl, hA, hbr⟩ := hrel
  replace hbe := hbe.kept hbr
  clear ee5
  have hm : m ≤ 2 * i := by
   have h1 := parR_le (e.nodes.take i) t x
   rw [hA.out, List.length_take] at h1
   omega
  by_cases hil : i < e.nodes.length
  ·have hz : (i : Int) < (e.nodes.length : Int) := by omega
   have hz0 : (0 : Int) ≤ (i : Int) := by omega
   obtain ⟨nb, noff, rfl⟩ := h2.addr hil
   obtain ⟨y, hy⟩ : ∃ y, e.nodes[i] = y := ⟨_, rfl⟩
   obtain ⟨c0, c1, c2, c3, c4, c5, c6, c7⟩ := RowC.c8 h2 (hbf.trans (hbr.mono hbf.size)) hil y hy
   have HT : Hid (e.nodes.take (i + 1) = e.nodes.take i ++ [y]) := Lib.hid (by rw [List.take_succ_eq_append_getElem hil, hy])
   clear hy
   have ee5 := hbe.cell 5 _ rfl
   obtain ⟨w2, hwE, hb2, px, hpE, hbx⟩ := boxN wr y
   have HW := Lib.hid hwE; clear hwE
   go_upto_region 6 with fail
   rw [← HW.out, ← hpE]
   clear HW hpE
   clear c0 c1 c2 c3 c4 c5 c6 c7
   have hbr2 := hbr.trans (hb2.mono hbr.size)
   have ex0 := hbx.cell 0 _ rfl
   have ex3 := hbx.cell 3 _ rfl
   have ex5 := hbx.cell 5 _ rfl
   have ex6 := hbx.cell 6 _ rfl
   clear ee5
   rcases Decidable.em (y.tree = t) with q1 | q1
   ·have e1 : (y.tree == t) = true := by simp [q1]
    rcases Decidable.em (y.mode = 7) with q2 | q2
    ·have e2 : (y.mode != 7) = false := by simp [q2]
     have hA2 : Hid (parR (e.nodes.take (i + 1)) t x = m + 0) := Lib.hid (by rw [HT.out, parR_snoc, hA.out]; unfold parT; simp [q1, q2])
     clear hA HT q1 q2
     go_wp2_with fail
     go_roundg (gk - 1)
     case measure => omega
     case rel => exact ⟨i + 1, m + 0, by omega, by go_num, by go_num, hA2, hbr2⟩
    ·have e2 : (y.mode != 7) = true := by simp [q2]
     rcases Decidable.em (y.tru = x) with q3 | q3
     ·have e3 : (y.tru == x) = true := by simp [q3]
      rcases Decidable.em (y.fls = x) with q4 | q4
      ·have e4 : (y.fls == x) = true := by simp [q4]
       have hA2 : Hid (parR (e.nodes.take (i + 1)) t x = m + 2) := Lib.hid (by rw [HT.out, parR_snoc, hA.out]; unfold parT; simp [q1, q2, q3, q4])
       clear hA HT q1 q2 q3 q4
       go_wp2_with fail
       go_roundg (gk - 1)
       case measure => omega
       case rel => exact ⟨i + 1, m + 2, by omega, by go_num, by go_num, hA2, hbr2⟩
      ·have e4 : (y.fls == x) = false := by simp [q4]
       have hA2 : Hid (parR (e.nodes.take (i + 1)) t x = m + 1) := Lib.hid (by rw [HT.out, parR_snoc, hA.out]; unfold parT; simp [q1, q2, q3, q4])
       clear hA HT q1 q2 q3 q4
       go_wp2_with fail
       go_roundg (gk - 1)
       case measure => omega
       case rel => exact ⟨i + 1, m + 1, by omega, by go_num, by go_num, hA2, hbr2⟩
     ·have e3 : (y.tru == x) = false := by simp [q3]
      rcases Decidable.em (y.fls = x) with q4 | q4
      ·have e4 : (y.fls == x) = true := by simp [q4]
       have hA2 : Hid (parR (e.nodes.take (i + 1)) t x = m + 1) := Lib.hid (by rw [HT.out, parR_snoc, hA.out]; unfold parT; simp [q1, q2, q3, q4])
       clear hA HT q1 q2 q3 q4
       go_wp2_with fail
       go_roundg (gk - 1)
       case measure => omega
       case rel => exact ⟨i + 1, m + 1, by omega, by go_num, by go_num, hA2, hbr2⟩
      ·have e4 : (y.fls == x) = false := by simp [q4]
       have hA2 : Hid (parR (e.nodes.take (i + 1)) t x = m + 0) := Lib.hid (by rw [HT.out, parR_snoc, hA.out]; unfold parT; simp [q1, q2, q3, q4])
       clear hA HT q1 q2 q3 q4
       go_wp2_with fail
       go_roundg (gk - 1)
       case measure => omega
       case rel => exact ⟨i + 1, m + 0, by omega, by go_num, by go_num, hA2, hbr2⟩
   ·have e1 : (y.tree == t) = false := by simp [q1]
    have hA2 : Hid (parR (e.nodes.take (i + 1)) t x = m + 0) := Lib.hid (by rw [HT.out, parR_snoc, hA.out]; unfold parT; simp [q1])
    clear hA HT q1
    go_wp2_with fail
    go_roundg (gk - 1)
    case measure => omega
    case rel => exact ⟨i + 1, m + 0, by omega, by go_num, by go_num, hA2, hbr2⟩
  ·have hz : ¬ (i : Int) < (e.nodes.length : Int) := by omega
   have ee5 := hbe.cell 5 _ rfl
   have hf : m = r := by rw [← hr.out, ← hA.out, List.take_of_length_le (by omega)]
   subst hf
   clear hA hr
   go_wp2_with fail
   go_ret
   exact ⟨rfl, hbf.trans (hbr.mono hbf.size)⟩
def rootB (ns : List EN) (t : Int) (y : EN) : Bool := decide (y.tree = t) && !behindE ns t y.node
theorem rootE_hit {ns : List EN} {t : Int} {i : Nat} (hi : i < ns.length) (h : rootB ns t ns[i]! = true) (hb : ∀ k, k < i → rootB ns t ns[k]! = false) : rootE ns t = some i := by
 refine find_hit hi (by rw [← getElem!_pos ns i hi]; exact h) (fun j hj => ?_)
 have := hb j hj
 rw [getElem!_pos ns j (by omega)] at this
 exact this
theorem rootE_miss {ns : List EN} {t : Int} (hb : ∀ k, k < ns.length → rootB ns t ns[k]! = false) : rootE ns t = none := by
 refine find_miss (fun j hj => ?_)
 have := hb j hj
 rw [getElem!_pos ns j hj] at this
 exact this
set_option maxHeartbeats 2000000 in
theorem rroot_any (v : Value) (e : EE) (bo : Option Addr) (bc : Nat) (no : Option Addr) (nc : Nat) (lo : Option Addr) (lc : Nat) (t : Int) (g : Nat) (b9 : Bool) (w : World) (h : EnsIs w v e bo bc no nc lo lc) (hlim : e.nodes.length ≤ 100000) (hg : Hid ((rootE e.nodes t).getD 0 = g)) (hb9 : Hid ((rootE e.nodes t).isSome = b9)) :
  Calls Tryz.prog 35 #[v, .int .i64 t] w fun e_1 w' => e_1 = .returned (.tuple #[.int .i64 (g : Int), .bool b9]) ∧ Below w.heap.size w w' := by
 obtain ⟨rfl, h1, h2, h4, h5, h3, h6, h7, h8, h9⟩ := h
 obtain ⟨w0, hw0, hbf, pe, hpe, hbe⟩ := boxE w e bo bc no nc lo lc
 have HP : Hid (w.heap.size ≤ pe) := Lib.hid (by omega)
 have HW := Lib.hid hw0; clear hw0
 go_enter Tryz.func35, Tryz.ntmps35
 go_upto_region 1 with fail
 rw [← HW.out, ← hpe]
 clear hpe HW
 have hE : EnsIs w0 (ensV e bo bc no nc lo lc) e bo bc no nc lo lc := EnsIs.below ⟨rfl, h1, h2, h4, h5, h3, h6, h7, h8, h9⟩ hbf
 have ee5 := hbe.cell 5 _ rfl
 go_wp2_with fail
 go_loopg [6] e.nodes.length (fun gg iv wr => ∃ (i : Nat), i + gg = e.nodes.length ∧ iv = .int .i64 (i : Int) ∧ Hid (∀ k, k < i → rootB e.nodes t e.nodes[k]! = false) ∧ Below w0.heap.size w0 wr)
 case atStart => exact ⟨0, by omega, rfl, Lib.hid (fun k hk => absurd hk (Nat.not_lt_zero _)), Below.refl _ _⟩
 case round =>
  obtain ⟨i, hi, rfl, hA, hbr⟩ := hrel
  replace hbe := hbe.kept hbr
  replace hE := hE.below hbr
  clear ee5
  by_cases hil : i < e.nodes.length
  ·have hz : (i : Int) < (e.nodes.length : Int) := by omega
   have hz0 : (0 : Int) ≤ (i : Int) := by omega
   obtain ⟨nb, noff, rfl⟩ := h2.addr hil
   obtain ⟨y, hy⟩ : ∃ y, e.nodes[i] = y := ⟨_, rfl⟩
   have hNd := NdAt.of hE.nodes hil hy
   have HN : Hid (rootB e.nodes t e.nodes[i]! = (decide (y.tree = t) && !behindE e.nodes t y.node)) := Lib.hid (by unfold rootB; rw [getElem!_pos e.nodes i hil, hy])
   have HS : Hid ((decide (y.tree = t) && !behindE e.nodes t y.node) = false → ∀ k, k < i + 1 → rootB e.nodes t e.nodes[k]! = false) := Lib.hid (fun hf k hk => by
    by_cases e9 : k = i
    ·subst e9; rw [HN.out, hf]
    ·exact hA.out k (by omega))
   have HF : Hid ((decide (y.tree = t) && !behindE e.nodes t y.node) = true → rootE e.nodes t = some i) := Lib.hid (fun hf => rootE_hit hil (by rw [HN.out, hf]) hA.out)
   clear hy hA HN
   have ee5 := hbe.cell 5 _ rfl
   go_upto_region 4 with fail
   clear ee5
   rcases Decidable.em (y.tree = t) with q1 | q1
   ·have e1 : (y.tree == t) = true := by simp [q1]
    obtain ⟨m, hm⟩ : ∃ m, parR e.nodes t y.node = m := ⟨_, rfl⟩
    have hP := fun W (h : EnsIs W (ensV e bo bc (some ⟨nb, noff, none⟩) nc lo lc) e bo bc (some ⟨nb, noff, none⟩) nc lo lc) => rparents_any _ e _ _ _ _ _ _ t y.node m W h hlim (Lib.hid hm)
    have hz9 := parR_zero e.nodes t y.node
    rw [hm] at hz9
    rcases Decidable.em (m = 0) with q2 | q2
    ·have hf := HF.out (by rw [hz9.1 q2]; simp [q1])
     have h9 := hg.out
     have h10 := hb9.out
     rw [hf] at h9 h10
     have h9 : i = g := h9
     have h10 : true = b9 := h10
     subst h9 h10 q2
     clear HS HF hg hb9 hf hz9 q1 hm
     refine wp_region_seq (S := fun w' => BoxL w' pe [.int .i64 e.feats, .int .i64 e.tgts, .string ⟨e.agg.toArray⟩, .string ⟨e.post.toArray⟩, .slice bo e.base.length bc, .slice (some ⟨nb, noff, none⟩) e.nodes.length nc, .slice lo e.leaves.length lc] ∧ NdAt w' nb noff i y) [(true, 0), (true, 1), (true, 2), (true, 3), (true, 4), (true, 5), (true, 6), (true, 7), (true, 8), (true, 9), (true, 10), (true, 11), (true, 12), (true, 13), (true, 14), (true, 15), (true, 16), (false, 17), (true, 18), (true, 19)] (by kernel_rfl) (by kernel_rfl) (by kernel_rfl) (by kernel_rfl) (by kernel_rfl) (fun d _ _ _ _ h => by cases d <;> exact h) ⟨hbe.drew, hNd.drew⟩ (fun _ => ?_)
     simp only [pickOps, List.append_eq, List.cons_append, List.nil_append, List.getElem?_toArray, List.getElem?_cons_succ, List.getElem?_cons_zero]
     have hb : Below wr.heap.size wr wr.drew := (Below.refl _ _).drew
     generalize wr.drew = wd at hb ⊢
     replace hbe := hbe.kept hb
     replace hE := hE.below hb
     replace hNd := hNd.below hb
     replace hbr := hbr.trans (hb.mono hbr.size)
     clear hb
     repeat (first | (refine seq_take (v := ?_) (by rfl) ?_ ?_; rotate_left; (· intro w hSw; (try dsimp only at hSw); obtain ⟨hL0, hN0⟩ := hSw; obtain ⟨ee0, ee1, ee2, ee3, ee4, ee5, ee6⟩ := hL0.c7; clear hL0; obtain ⟨c0, c1, c2, c3, c4, c5, c6, c7⟩ := hN0.c8; clear hN0; go_simp; all_goals with_reducible rfl); (try simp only [Act.put, List.setIfInBounds_toArray, List.set_cons_zero, List.set_cons_succ])) | (refine seq_leave (by rfl) ?_; (try simp only [Act.put, List.setIfInBounds_toArray, List.set_cons_zero, List.set_cons_succ])))
     refine seq_step (by rfl) (fun K hK => ?_)
     go_simp
     go_at_call 100
     (with_reducible refine (hP _ hE).mono ?_)
     rintro e9 w3 ⟨rfl, hb⟩
     replace hbe := hbe.kept hb
     replace hE := hE.below hb
     replace hNd := hNd.below hb
     replace hbr := hbr.trans (hb.mono hbr.size)
     clear hb
     first | refine hK.out _ _ ⟨hbe, hNd⟩ (fun _ => ?_) | (go_wp2_with fail; refine hK.out _ _ ⟨hbe, hNd⟩ (fun _ => ?_))
     clear hK K
     (try simp only [Act.put, List.setIfInBounds_toArray, List.set_cons_zero, List.set_cons_succ])
     repeat (first | (refine seq_take (v := ?_) (by rfl) ?_ ?_; rotate_left; (· intro w hSw; (try dsimp only at hSw); obtain ⟨hL0, hN0⟩ := hSw; obtain ⟨ee0, ee1, ee2, ee3, ee4, ee5, ee6⟩ := hL0.c7; clear hL0; obtain ⟨c0, c1, c2, c3, c4, c5, c6, c7⟩ := hN0.c8; clear hN0; go_simp; all_goals with_reducible rfl); (try simp only [Act.put, List.setIfInBounds_toArray, List.set_cons_zero, List.set_cons_succ])) | (refine seq_leave (by rfl) ?_; (try simp only [Act.put, List.setIfInBounds_toArray, List.set_cons_zero, List.set_cons_succ])))
     refine seq_end ?_
     go_wp2_with fail
     go_ret2
     exact ⟨rfl, hbf.trans (hbr.mono hbf.size)⟩
    ·have hA2 := Lib.hid (HS.out (by
      have h9 : behindE e.nodes t y.node = true := by
       cases hb : behindE e.nodes t y.node with
       | true => rfl
       | false => exact absurd (hz9.2 hb) q2
      rw [h9]; simp))
     have e2 : ((m : Int) == 0) = false := by simp [q2]
     clear HS HF hz9 q1 q2 hm
     refine wp_region_seq (S := fun w' => BoxL w' pe [.int .i64 e.feats, .int .i64 e.tgts, .string ⟨e.agg.toArray⟩, .string ⟨e.post.toArray⟩, .slice bo e.base.length bc, .slice (some ⟨nb, noff, none⟩) e.nodes.length nc, .slice lo e.leaves.length lc] ∧ NdAt w' nb noff i y) [(true, 0), (true, 1), (true, 2), (true, 3), (true, 4), (true, 5), (true, 6), (true, 7), (true, 8), (true, 9), (true, 10), (true, 11), (true, 12), (true, 13), (true, 14), (true, 15), (true, 16), (false, 17), (true, 18), (true, 19)] (by kernel_rfl) (by kernel_rfl) (by kernel_rfl) (by kernel_rfl) (by kernel_rfl) (fun d _ _ _ _ h => by cases d <;> exact h) ⟨hbe.drew, hNd.drew⟩ (fun _ => ?_)
     simp only [pickOps, List.append_eq, List.cons_append, List.nil_append, List.getElem?_toArray, List.getElem?_cons_succ, List.getElem?_cons_zero]
     have hb : Below wr.heap.size wr wr.drew := (Below.refl _ _).drew
     generalize wr.drew = wd at hb ⊢
     replace hbe := hbe.kept hb
     replace hE := hE.below hb
     replace hNd := hNd.below hb
     replace hbr := hbr.trans (hb.mono hbr.size)
     clear hb
     repeat (first | (refine seq_take (v := ?_) (by rfl) ?_ ?_; rotate_left; (· intro w hSw; (try dsimp only at hSw); obtain ⟨hL0, hN0⟩ := hSw; obtain ⟨ee0, ee1, ee2, ee3, ee4, ee5, ee6⟩ := hL0.c7; clear hL0; obtain ⟨c0, c1, c2, c3, c4, c5, c6, c7⟩ := hN0.c8; clear hN0; go_simp; all_goals with_reducible rfl); (try simp only [Act.put, List.setIfInBounds_toArray, List.set_cons_zero, List.set_cons_succ])) | (refine seq_leave (by rfl) ?_; (try simp only [Act.put, List.setIfInBounds_toArray, List.set_cons_zero, List.set_cons_succ])))
     refine seq_step (by rfl) (fun K hK => ?_)
     go_simp
     go_at_call 100
     (with_reducible refine (hP _ hE).mono ?_)
     rintro e9 w3 ⟨rfl, hb⟩
     replace hbe := hbe.kept hb
     replace hE := hE.below hb
     replace hNd := hNd.below hb
     replace hbr := hbr.trans (hb.mono hbr.size)
     clear hb
     first | refine hK.out _ _ ⟨hbe, hNd⟩ (fun _ => ?_) | (go_wp2_with fail; refine hK.out _ _ ⟨hbe, hNd⟩ (fun _ => ?_))
     clear hK K
     (try simp only [Act.put, List.setIfInBounds_toArray, List.set_cons_zero, List.set_cons_succ])
     repeat (first | (refine seq_take (v := ?_) (by rfl) ?_ ?_; rotate_left; (· intro w hSw; (try dsimp only at hSw); obtain ⟨hL0, hN0⟩ := hSw; obtain ⟨ee0, ee1, ee2, ee3, ee4, ee5, ee6⟩ := hL0.c7; clear hL0; obtain ⟨c0, c1, c2, c3, c4, c5, c6, c7⟩ := hN0.c8; clear hN0; go_simp; all_goals with_reducible rfl); (try simp only [Act.put, List.setIfInBounds_toArray, List.set_cons_zero, List.set_cons_succ])) | (refine seq_leave (by rfl) ?_; (try simp only [Act.put, List.setIfInBounds_toArray, List.set_cons_zero, List.set_cons_succ])))
     refine seq_end ?_
     go_wp2_with fail
     go_roundg (gk - 1)
     case measure => omega
     case rel => exact ⟨i + 1, by omega, by go_num, hA2, hbr⟩
   ·have e1 : (y.tree == t) = false := by simp [q1]
    have hA2 := Lib.hid (HS.out (by simp [q1]))
    clear HS HF q1
    refine wp_region_seq (S := fun w' => BoxL w' pe [.int .i64 e.feats, .int .i64 e.tgts, .string ⟨e.agg.toArray⟩, .string ⟨e.post.toArray⟩, .slice bo e.base.length bc, .slice (some ⟨nb, noff, none⟩) e.nodes.length nc, .slice lo e.leaves.length lc] ∧ NdAt w' nb noff i y) [(true, 0), (true, 1), (true, 2), (true, 3), (true, 4), (true, 5), (true, 6), (true, 7), (true, 8), (true, 9), (true, 10), (true, 11), (true, 12), (true, 13), (true, 14), (true, 15), (true, 16), (false, 17), (true, 18), (true, 19)] (by kernel_rfl) (by kernel_rfl) (by kernel_rfl) (by kernel_rfl) (by kernel_rfl) (fun d _ _ _ _ h => by cases d <;> exact h) ⟨hbe.drew, hNd.drew⟩ (fun _ => ?_)
    simp only [pickOps, List.append_eq, List.cons_append, List.nil_append, List.getElem?_toArray, List.getElem?_cons_succ, List.getElem?_cons_zero]
    have hb : Below wr.heap.size wr wr.drew := (Below.refl _ _).drew
    generalize wr.drew = wd at hb ⊢
    replace hbe := hbe.kept hb
    replace hE := hE.below hb
    replace hNd := hNd.below hb
    replace hbr := hbr.trans (hb.mono hbr.size)
    clear hb
    repeat (first | (refine seq_take (v := ?_) (by rfl) ?_ ?_; rotate_left; (· intro w hSw; (try dsimp only at hSw); obtain ⟨hL0, hN0⟩ := hSw; obtain ⟨ee0, ee1, ee2, ee3, ee4, ee5, ee6⟩ := hL0.c7; clear hL0; obtain ⟨c0, c1, c2, c3, c4, c5, c6, c7⟩ := hN0.c8; clear hN0; go_simp; all_goals with_reducible rfl); (try simp only [Act.put, List.setIfInBounds_toArray, List.set_cons_zero, List.set_cons_succ])) | (refine seq_leave (by rfl) ?_; (try simp only [Act.put, List.setIfInBounds_toArray, List.set_cons_zero, List.set_cons_succ])))
    refine seq_pass (by rfl) ⟨hbe, hNd⟩ ?_
    repeat (first | (refine seq_take (v := ?_) (by rfl) ?_ ?_; rotate_left; (· intro w hSw; (try dsimp only at hSw); obtain ⟨hL0, hN0⟩ := hSw; obtain ⟨ee0, ee1, ee2, ee3, ee4, ee5, ee6⟩ := hL0.c7; clear hL0; obtain ⟨c0, c1, c2, c3, c4, c5, c6, c7⟩ := hN0.c8; clear hN0; go_simp; all_goals with_reducible rfl); (try simp only [Act.put, List.setIfInBounds_toArray, List.set_cons_zero, List.set_cons_succ])) | (refine seq_leave (by rfl) ?_; (try simp only [Act.put, List.setIfInBounds_toArray, List.set_cons_zero, List.set_cons_succ])))
    refine seq_end ?_
    go_wp2_with fail
    go_roundg (gk - 1)
    case measure => omega
    case rel => exact ⟨i + 1, by omega, by go_num, hA2, hbr⟩
  ·have hz : ¬ (i : Int) < (e.nodes.length : Int) := by omega
   have ee5 := hbe.cell 5 _ rfl
   have hf := rootE_miss (ns := e.nodes) (t := t) (fun k hk => hA.out k (by omega))
   have h9 := hg.out
   have h10 := hb9.out
   rw [hf] at h9 h10
   have h9 : 0 = g := h9
   have h10 : false = b9 := h10
   subst h9 h10
   clear hA hg hb9 hf
   go_wp2_with fail
   go_ret2
   exact ⟨rfl, hbf.trans (hbr.mono hbf.size)⟩
end Go.Proofs.YtcpfanpcdkoiaaaGreat

namespace Go.Proofs.YtcpfanpcdkoiaaaGreat
open Go.RowKit


theorem checkE_1 {f : EE}  (hb : sizeE f = false) : checkE f = 1 := by
 unfold checkE
 rw [if_pos hb]
theorem checkE_2 {f : EE} (h1 : sizeE f = true) (hb : f.agg ∉ aggW) : checkE f = 2 := by
 unfold checkE
 rw [if_neg (by rw [h1]; simp), if_pos hb]
theorem checkE_3 {f : EE} (h1 : sizeE f = true) (h2 : f.agg ∈ aggW) (hb : f.post ∉ postW) : checkE f = 3 := by
 unfold checkE
 rw [if_neg (by rw [h1]; simp), if_neg (by exact fun h => h h2), if_pos hb]
theorem checkE_4 {f : EE} (h1 : sizeE f = true) (h2 : f.agg ∈ aggW) (h3 : f.post ∈ postW) (hb : baseE f = false) : checkE f = 4 := by
 unfold checkE
 rw [if_neg (by rw [h1]; simp), if_neg (by exact fun h => h h2), if_neg (by exact fun h => h h3), if_pos hb]
theorem checkE_5 {f : EE} (h1 : sizeE f = true) (h2 : f.agg ∈ aggW) (h3 : f.post ∈ postW) (h4 : baseE f = true) (hb : numsE f.nodes = false) : checkE f = 5 := by
 unfold checkE
 rw [if_neg (by rw [h1]; simp), if_neg (by exact fun h => h h2), if_neg (by exact fun h => h h3), if_neg (by rw [h4]; simp), if_pos hb]
theorem checkE_6 {f : EE} (h1 : sizeE f = true) (h2 : f.agg ∈ aggW) (h3 : f.post ∈ postW) (h4 : baseE f = true) (h5 : numsE f.nodes = true) (hb : everyE f.nodes true (fun n => decide (1 ≤ n.mode ∧ n.mode ≤ 7)) = false) : checkE f = 6 := by
 unfold checkE
 rw [if_neg (by rw [h1]; simp), if_neg (by exact fun h => h h2), if_neg (by exact fun h => h h3), if_neg (by rw [h4]; simp), if_neg (by rw [h5]; simp), if_pos hb]
theorem checkE_7 {f : EE} (h1 : sizeE f = true) (h2 : f.agg ∈ aggW) (h3 : f.post ∈ postW) (h4 : baseE f = true) (h5 : numsE f.nodes = true) (h6 : everyE f.nodes true (fun n => decide (1 ≤ n.mode ∧ n.mode ≤ 7)) = true) (hb : everyE f.nodes false (fun n => decide (0 ≤ n.feat ∧ n.feat < f.feats)) = false) : checkE f = 7 := by
 unfold checkE
 rw [if_neg (by rw [h1]; simp), if_neg (by exact fun h => h h2), if_neg (by exact fun h => h h3), if_neg (by rw [h4]; simp), if_neg (by rw [h5]; simp), if_neg (by rw [h6]; simp), if_pos hb]
theorem checkE_8 {f : EE} (h1 : sizeE f = true) (h2 : f.agg ∈ aggW) (h3 : f.post ∈ postW) (h4 : baseE f = true) (h5 : numsE f.nodes = true) (h6 : everyE f.nodes true (fun n => decide (1 ≤ n.mode ∧ n.mode ≤ 7)) = true) (h7 : everyE f.nodes false (fun n => decide (0 ≤ n.feat ∧ n.feat < f.feats)) = true) (hb : everyE f.nodes false (fun n => finP n.val) = false ∨ everyE f.nodes true (fun n => decide (n.val < 4294967296)) = false) : checkE f = 8 := by
 unfold checkE
 rw [if_neg (by rw [h1]; simp), if_neg (by exact fun h => h h2), if_neg (by exact fun h => h h3), if_neg (by rw [h4]; simp), if_neg (by rw [h5]; simp), if_neg (by rw [h6]; simp), if_neg (by rw [h7]; simp), if_pos hb]
theorem checkE_9 {f : EE} (h1 : sizeE f = true) (h2 : f.agg ∈ aggW) (h3 : f.post ∈ postW) (h4 : baseE f = true) (h5 : numsE f.nodes = true) (h6 : everyE f.nodes true (fun n => decide (1 ≤ n.mode ∧ n.mode ≤ 7)) = true) (h7 : everyE f.nodes false (fun n => decide (0 ≤ n.feat ∧ n.feat < f.feats)) = true) (h8 : everyE f.nodes false (fun n => finP n.val) = true ∧ everyE f.nodes true (fun n => decide (n.val < 4294967296)) = true) (hb : kidE f.nodes = false) : checkE f = 9 := by
 unfold checkE
 rw [if_neg (by rw [h1]; simp), if_neg (by exact fun h => h h2), if_neg (by exact fun h => h h3), if_neg (by rw [h4]; simp), if_neg (by rw [h5]; simp), if_neg (by rw [h6]; simp), if_neg (by rw [h7]; simp), if_neg (by rw [h8.1, h8.2]; simp), if_pos hb]
theorem checkE_10 {f : EE} (h1 : sizeE f = true) (h2 : f.agg ∈ aggW) (h3 : f.post ∈ postW) (h4 : baseE f = true) (h5 : numsE f.nodes = true) (h6 : everyE f.nodes true (fun n => decide (1 ≤ n.mode ∧ n.mode ≤ 7)) = true) (h7 : everyE f.nodes false (fun n => decide (0 ≤ n.feat ∧ n.feat < f.feats)) = true) (h8 : everyE f.nodes false (fun n => finP n.val) = true ∧ everyE f.nodes true (fun n => decide (n.val < 4294967296)) = true) (h9 : kidE f.nodes = true) (hb : forestE f.nodes = false) : checkE f = 10 := by
 unfold checkE
 rw [if_neg (by rw [h1]; simp), if_neg (by exact fun h => h h2), if_neg (by exact fun h => h h3), if_neg (by rw [h4]; simp), if_neg (by rw [h5]; simp), if_neg (by rw [h6]; simp), if_neg (by rw [h7]; simp), if_neg (by rw [h8.1, h8.2]; simp), if_neg (by rw [h9]; simp), if_pos hb]
theorem checkE_11 {f : EE} (h1 : sizeE f = true) (h2 : f.agg ∈ aggW) (h3 : f.post ∈ postW) (h4 : baseE f = true) (h5 : numsE f.nodes = true) (h6 : everyE f.nodes true (fun n => decide (1 ≤ n.mode ∧ n.mode ≤ 7)) = true) (h7 : everyE f.nodes false (fun n => decide (0 ≤ n.feat ∧ n.feat < f.feats)) = true) (h8 : everyE f.nodes false (fun n => finP n.val) = true ∧ everyE f.nodes true (fun n => decide (n.val < 4294967296)) = true) (h9 : kidE f.nodes = true) (h10 : forestE f.nodes = true) (hb : leafE f = false) : checkE f = 11 := by
 unfold checkE
 rw [if_neg (by rw [h1]; simp), if_neg (by exact fun h => h h2), if_neg (by exact fun h => h h3), if_neg (by rw [h4]; simp), if_neg (by rw [h5]; simp), if_neg (by rw [h6]; simp), if_neg (by rw [h7]; simp), if_neg (by rw [h8.1, h8.2]; simp), if_neg (by rw [h9]; simp), if_neg (by rw [h10]; simp), if_pos hb]
theorem checkE_12 {f : EE} (h1 : sizeE f = true) (h2 : f.agg ∈ aggW) (h3 : f.post ∈ postW) (h4 : baseE f = true) (h5 : numsE f.nodes = true) (h6 : everyE f.nodes true (fun n => decide (1 ≤ n.mode ∧ n.mode ≤ 7)) = true) (h7 : everyE f.nodes false (fun n => decide (0 ≤ n.feat ∧ n.feat < f.feats)) = true) (h8 : everyE f.nodes false (fun n => finP n.val) = true ∧ everyE f.nodes true (fun n => decide (n.val < 4294967296)) = true) (h9 : kidE f.nodes = true) (h10 : forestE f.nodes = true) (h11 : leafE f = true) (hb : f.leaves.any (fun l => !finP l.wt) = true) : checkE f = 12 := by
 unfold checkE
 rw [if_neg (by rw [h1]; simp), if_neg (by exact fun h => h h2), if_neg (by exact fun h => h h3), if_neg (by rw [h4]; simp), if_neg (by rw [h5]; simp), if_neg (by rw [h6]; simp), if_neg (by rw [h7]; simp), if_neg (by rw [h8.1, h8.2]; simp), if_neg (by rw [h9]; simp), if_neg (by rw [h10]; simp), if_neg (by rw [h11]; simp), if_pos hb]
end Go.Proofs.YtcpfanpcdkoiaaaGreat

namespace Go.Proofs.YtcpfanpcdkoiaaaGreat
open Go.RowKit


def IntAt (W : World) (k : Nat) : Prop := ∃ (n : Int) (t : TypeId), W.heap[k]? = some (.cells #[.int .i64 n] t)
structure BelowX (pn B : Nat) (w w' : World) : Prop where
 os : w'.os = w.os
 tape : w'.tape = w.tape
 output : w'.output = w.output
 size : w.heap.size ≤ w'.heap.size
 block : ∀ k, k < B → k ≠ pn → w'.heap[k]? = w.heap[k]?
 own : IntAt w pn → IntAt w' pn
theorem BelowX.of {pn : Nat} {w w' : World} (h : Below w.heap.size w w') : BelowX pn w.heap.size w w' :=
 ⟨h.os, h.tape, h.output, h.size, fun k hk _ => h.block k hk, fun ⟨n, t, hn⟩ => ⟨n, t, (h.block pn (Array.getElem?_eq_some_iff.1 hn).1).trans hn⟩⟩
theorem BelowX.set {pn : Nat} {w : World} (n : Int) : BelowX pn w.heap.size w (w.setCell ⟨pn, 0, none⟩ (.int .i64 n)) :=
 ⟨rfl, rfl, rfl, by simp [World.setCell], fun k hk hne => Below.heap_setCell _ _ _ _ (fun e => hne e), fun ⟨m, t, hm⟩ => ⟨n, t, by simp [World.setCell, Array.getElem?_modify, hm]⟩⟩
theorem BelowX.trans {pn : Nat} {A C D : World} (h : BelowX pn A.heap.size A C) (h' : BelowX pn C.heap.size C D) : BelowX pn A.heap.size A D :=
 ⟨h'.os.trans h.os, h'.tape.trans h.tape, h'.output.trans h.output, Nat.le_trans h.size h'.size, fun k hk hne => (h'.block k (Nat.lt_of_lt_of_le hk h.size) hne).trans (h.block k hk hne), fun hn => h'.own (h.own hn)⟩
structure ExtX (pn B : Nat) (W W' : World) : Prop where
 os : W'.os = W.os
 tape : W'.tape = W.tape
 output : W'.output = W.output
 size : W.heap.size ≤ W'.heap.size
 low : ∀ k, k < B → k < W.heap.size → k ≠ pn → W'.heap[k]? = W.heap[k]?
 cells : ∀ (k : Nat) (o : Obj), k ≠ pn → W.heap[k]? = some o → o.isCells = true → W'.heap[k]? = some o
 own : IntAt W pn → IntAt W' pn
theorem ExtX.of_belowX {pn B : Nat} {W W' : World} (h : BelowX pn W.heap.size W W') : ExtX pn B W W' :=
 ⟨h.os, h.tape, h.output, h.size, fun k _ hk hne => h.block k hk hne, fun k o hne ho _ => (h.block k (Array.getElem?_eq_some_iff.1 ho).1 hne).trans ho, h.own⟩
theorem ExtX.of_below {pn B : Nat} {W W' : World} (h : Below W.heap.size W W') : ExtX pn B W W' := ExtX.of_belowX (BelowX.of h)
theorem ExtX.of_ext {pn B : Nat} {W W' : World} (h : Ext B W W') : ExtX pn B W W' :=
 ⟨h.os, h.tape, h.output, h.size, fun k h1 h2 _ => h.low k h1 h2, fun k o _ h1 h2 => h.cells k o h1 h2, fun ⟨n, t, hn⟩ => ⟨n, t, h.cells _ _ hn rfl⟩⟩
theorem ExtX.put {pn B : Nat} {W : World} {l : Nat} {o o' : Obj} (hl : B ≤ l) (ho : W.heap[l]? = some o) (hc : o.isCells = false) : ExtX pn B W (W.putObj l o') := ExtX.of_ext (Ext.put hl ho hc)
theorem ExtX.trans {pn B : Nat} {A C D : World} (h : ExtX pn B A C) (h' : ExtX pn B C D) : ExtX pn B A D :=
 ⟨h'.os.trans h.os, h'.tape.trans h.tape, h'.output.trans h.output, Nat.le_trans h.size h'.size, fun k hk h1 hne => (h'.low k hk (Nat.lt_of_lt_of_le h1 h.size) hne).trans (h.low k hk h1 hne), fun k o hne h1 h2 => h'.cells k o hne (h.cells k o hne h1 h2) h2, fun hn => h'.own (h.own hn)⟩
def IterX (pn : Nat) (c0 : Int) {α : Type} (P : Program) (gf : Nat) (lb : Array Value) (Enc : World → Value → α → Prop) (xs : List α) (B : Nat) (Kp : World → World → Prop) (w : World) : Prop :=
 ∀ (l : Nat) (J Jx : List α → (Nat → Prop) → World → Prop) (S0 : Nat → Prop) (W1 : World), Below w.heap.size w W1 → (∀ k, S0 k → B ≤ k ∧ k < W1.heap.size) →
  (∀ pre S W W', J pre S W → BelowX pn W.heap.size W W' → J pre S W') → (∀ pre S W W', Jx pre S W → BelowX pn W.heap.size W W' → Jx pre S W') →
  (∀ pre x v S W, J pre S W → Enc W v x → pre ++ [x] <+: xs → YieldAt Fence.wide 0 P l #[v] W fun e W' =>
   (e = .returned (.bool true) ∧ ∃ S', J (pre ++ [x]) S' W' ∧ Foot S S' W W' ∧ Top S' W' ∧ Kp W W') ∨ (e = .returned (.bool false) ∧ ∃ S', Jx (pre ++ [x]) S' W' ∧ Foot S S' W W')) →
  J [] S0 W1 → W1.cell? ⟨pn, 0, none⟩ = some (.int .i64 c0) → IntAt W1 pn →
  CallsIn Fence.wide 0 P gf (IterArgs l lb) W1 fun e W' => (∃ v, e = .returned v) ∧ ((∃ S', J xs S' W' ∧ W'.cell? ⟨pn, 0, none⟩ = some (.int .i64 (c0 + (xs.length : Int)))) ∨ (∃ pre S', pre <+: xs ∧ Jx pre S' W'))
end Go.Proofs.YtcpfanpcdkoiaaaGreat

namespace Go.Proofs.YtcpfanpcdkoiaaaGreat
open Go.RowKit Go.Shelf


attribute [local go_sem] Oper.semAt_some field_nat
theorem QIs.keep {W W' : World} {v : Value} {q : Rat} (h : QIs W v q) (hk : KeepNat W W') : QIs W' v q := by
 obtain ⟨a, b, c, d, e, f, rfl, h1, h2⟩ := h
 exact ⟨a, b, c, d, e, f, rfl, hk _ _ h1, hk _ _ h2⟩
theorem ExtX.block {pn B : Nat} {A C : World} (h : ExtX pn B A C) {p : Addr} {v : Value} (hp : A.cell? p = some v) (hne : p.block ≠ pn) : C.heap[p.block]? = A.heap[p.block]? := by
 unfold World.cell? at hp
 split at hp
 ·rename_i hb
  rw [hb]; exact h.cells _ _ hne hb rfl
 ·cases hp
theorem ExtX.cell {pn B : Nat} {A C : World} (h : ExtX pn B A C) {p : Addr} {v : Value} (hp : A.cell? p = some v) (hne : p.block ≠ pn) : C.cell? p = some v :=
 (World.cell?_of_block (h.block hp hne)).trans hp
def qsumL (l : List Rat) : Rat := l.foldl (· + ·) 0
theorem IntAt.no {W : World} {p : Addr} {n : Int} (hn : IntAt W p.block) (hp : W.cell? p = some (.int .u32 n)) : False := by
 obtain ⟨m, t, hm⟩ := hn
 unfold World.cell? at hp
 simp only [hm] at hp
 obtain ⟨blk, off, spot⟩ := p
 cases off with
 | zero => simp at hp
 | succ k => simp at hp
def KpX (pn : Nat) (A C : World) : Prop := IntAt A pn → IntAt C pn ∧ KeepNat A C
theorem KpX.trans {pn : Nat} {A C D : World} (h : KpX pn A C) (h' : KpX pn C D) : KpX pn A D := fun hn => ⟨(h' (h hn).1).1, (h hn).2.trans (h' (h hn).1).2⟩
theorem KpX.ext {pn B : Nat} {A C : World} (h : ExtX pn B A C) : KpX pn A C := fun hn => ⟨h.own hn, KeepNat.of_cells h.size fun p n hp => by
 by_cases hne : p.block = pn
 ·subst hne; exact (hn.no hp).elim
 ·exact h.cell hp hne⟩
theorem KpX.below {pn : Nat} {A C : World} (h : Below A.heap.size A C) : KpX pn A C := fun hn => ⟨(BelowX.of h).own hn, KeepNat.below h⟩
theorem BelowX.set3 {pn B b : Nat} {w W : World} {u0 u1 u2 : Value} (h : BelowX pn B w W) (hb : B ≤ b) (hne : b ≠ pn) : BelowX pn B w (((W.setCell ⟨b, 0, none⟩ u0).setCell ⟨b, 1, none⟩ u1).setCell ⟨b, 2, none⟩ u2) := by
 have hh : ∀ k, k ≠ b → (((W.setCell ⟨b, 0, none⟩ u0).setCell ⟨b, 1, none⟩ u1).setCell ⟨b, 2, none⟩ u2).heap[k]? = W.heap[k]? := fun k hk =>
  ((Below.heap_setCell _ _ _ _ (fun e => hk e)).trans (Below.heap_setCell _ _ _ _ (fun e => hk e))).trans (Below.heap_setCell _ _ _ _ (fun e => hk e))
 exact ⟨h.os, h.tape, h.output, Nat.le_trans h.size (by simp [World.setCell]), fun k hk hn => (hh k (by omega)).trans (h.block k hk hn), fun hn => by
  obtain ⟨n, t, h9⟩ := h.own hn
  exact ⟨n, t, (hh pn (fun e => hne e.symm)).trans h9⟩⟩
theorem IterX.mono {α : Type} {P : Program} {gf pn : Nat} {c0 : Int} {lb : Array Value} {Enc : World → Value → α → Prop} {xs : List α} {B : Nat} {Kp : World → World → Prop} {w w' : World} (h : IterX pn c0 P gf lb Enc xs B Kp w) (hb : Below w.heap.size w w') :
  IterX pn c0 P gf lb Enc xs B Kp w' := fun l J Jx S0 W1 hW => h l J Jx S0 W1 (hb.trans (hW.mono hb.size))
theorem Foot.set3 {S : Nat → Prop} {W : World} {b : Nat} (u0 u1 u2 : Value) (hp : S b) : Foot S S W (((W.setCell ⟨b, 0, none⟩ u0).setCell ⟨b, 1, none⟩ u1).setCell ⟨b, 2, none⟩ u2) :=
 ⟨rfl, rfl, rfl, by simp [World.setCell], fun k hk hs => by
  have hne : k ≠ b := fun e => hs (by rw [e]; exact hp)
  exact ((Below.heap_setCell _ _ _ _ (fun e => hne e)).trans (Below.heap_setCell _ _ _ _ (fun e => hne e))).trans (Below.heap_setCell _ _ _ _ (fun e => hne e)), fun _ h => .inl h⟩
theorem IntAt.keep {W W' : World} {pn : Nat} (h : IntAt W pn) (hh : W'.heap[pn]? = W.heap[pn]?) : IntAt W' pn := by
 obtain ⟨n, t, h9⟩ := h; exact ⟨n, t, hh.trans h9⟩
end Go.Proofs.YtcpfanpcdkoiaaaGreat

namespace Go.Proofs.YtcpfanpcdkoiaaaGreat
open Go.RowKit Go.Shelf


attribute [local go_sem] Oper.semAt_some field_nat
structure RatRow (W : World) (v : Value) (qs : List Rat) (B pn : Nat) : Prop where
 row : ∃ (ao : Option Addr) (cap : Nat), v = .slice ao qs.length cap ∧ (qs = [] ∨ ∃ g, ao = some ⟨g, 0, none⟩ ∧ g < B ∧ g < W.heap.size ∧ g ≠ pn ∧ ∀ i, i < qs.length → ∃ x y z, W.cell? ⟨g, i * 3, none⟩ = some x ∧ W.cell? ⟨g, i * 3 + 1, none⟩ = some y ∧ W.cell? ⟨g, i * 3 + 2, none⟩ = some z ∧ QIs W (.agg #[x, y, z]) (qs[i]?.getD 0))
theorem RatRow.keep {W W' : World} {v : Value} {qs : List Rat} {B pn : Nat} (h : RatRow W v qs B pn) (hs : W.heap.size ≤ W'.heap.size) (hc : ∀ g, g < B → g < W.heap.size → g ≠ pn → W'.heap[g]? = W.heap[g]?) (hk : KeepNat W W') : RatRow W' v qs B pn := by
 obtain ⟨ao, cap, h1, h2⟩ := h.row
 refine ⟨ao, cap, h1, ?_⟩
 rcases h2 with h2 | ⟨g, h3, h4, h5, h6, h7⟩
 ·exact .inl h2
 ·refine .inr ⟨g, h3, h4, Nat.lt_of_lt_of_le h5 hs, h6, fun i hi => ?_⟩
  obtain ⟨x, y, z, c0, c1, c2, hq⟩ := h7 i hi
  have e := hc g h4 h5 h6
  exact ⟨x, y, z, (World.cell?_of_block (a := ⟨g, i * 3, none⟩) e).trans c0, (World.cell?_of_block (a := ⟨g, i * 3 + 1, none⟩) e).trans c1, (World.cell?_of_block (a := ⟨g, i * 3 + 2, none⟩) e).trans c2, hq.keep hk⟩
theorem IntAt.free {W : World} {pn : Nat} (h : IntAt W pn) : W.frozen? ⟨pn, 0, none⟩ = false := by
 obtain ⟨n, t, h9⟩ := h
 simp [World.frozen?, h9]
end Go.Proofs.YtcpfanpcdkoiaaaGreat
