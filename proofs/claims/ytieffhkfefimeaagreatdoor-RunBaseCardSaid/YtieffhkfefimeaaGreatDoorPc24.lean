/-
  Pc24: EnsP (what is needed of them).
-/
import Derived.Test.YtieffhkfefimeaaGreatDoorPc17
import Derived.Test.YtieffhkfefimeaaGreatDoorPc18
import Derived.Test.YtieffhkfefimeaaGreatDoorPc23
set_option maxRecDepth 100000
set_option linter.unusedVariables false
set_option linter.unusedSimpArgs false

namespace Go.Proofs.YtieffhkfefimeaaGreatDoor
open Go.RowKit


def hitN (t n : Int) (y : EN) : Bool := decide (y.tree = t) && decide (y.node = n)
def NdAt (w : World) (b off p : Nat) (y : EN) : Prop := ∀ j c, (enC y)[j]? = some c → w.cell? ⟨b, off + p * 8 + j, none⟩ = some c
theorem NdAt.c8 {w : World} {b off p : Nat} {y : EN} (h : NdAt w b off p y) :
  w.cell? ⟨b, off + p * 8, none⟩ = some (.int .i64 y.tree) ∧ w.cell? ⟨b, off + p * 8 + 1, none⟩ = some (.int .i64 y.node) ∧ w.cell? ⟨b, off + p * 8 + 2, none⟩ = some (.int .i64 y.feat) ∧ w.cell? ⟨b, off + p * 8 + 3, none⟩ = some (.int .i64 y.mode) ∧ w.cell? ⟨b, off + p * 8 + 4, none⟩ = some (.int .u64 (y.val : Int)) ∧ w.cell? ⟨b, off + p * 8 + 5, none⟩ = some (.int .i64 y.tru) ∧ w.cell? ⟨b, off + p * 8 + 6, none⟩ = some (.int .i64 y.fls) ∧ w.cell? ⟨b, off + p * 8 + 7, none⟩ = some (.bool y.trk) :=
 ⟨h 0 _ rfl, h 1 _ rfl, h 2 _ rfl, h 3 _ rfl, h 4 _ rfl, h 5 _ rfl, h 6 _ rfl, h 7 _ rfl⟩
theorem NdAt.below {w W : World} {b off p : Nat} {y : EN} (h : NdAt w b off p y) (hb : Below w.heap.size w W) : NdAt W b off p y := fun j c hj => by
 have h1 := h j c hj
 exact (hb.cell (p := ⟨b, off + p * 8 + j, none⟩) (World.block_lt_of_cell? w ⟨b, off + p * 8 + j, none⟩ h1)).trans h1
theorem NdAt.drew {w : World} {b off p : Nat} {y : EN} (h : NdAt w b off p y) : NdAt w.drew b off p y := h.below (Below.refl _ _).drew
theorem NdAt.of {w : World} {b off : Nat} {ns : List EN} {i : Nat} {y : EN} (h : RowC 8 enC w (some ⟨b, off, none⟩) ns) (hi : i < ns.length) (hy : ns[i] = y) : NdAt w b off i y := by
 have h10 := h.get hi
 rw [hy] at h10
 exact h10.2
theorem findE_hit {ns : List EN} {t n : Int} {i : Nat} (hi : i < ns.length) (h : hitN t n ns[i]! = true) (hb : ∀ k, k < i → hitN t n ns[k]! = false) : findE ns t n = some i := by
 refine find_hit hi (by rw [← getElem!_pos ns i hi]; exact h) (fun j hj => ?_)
 have := hb j hj
 rw [getElem!_pos ns j (by omega)] at this
 exact this
theorem findE_miss {ns : List EN} {t n : Int} (hb : ∀ k, k < ns.length → hitN t n ns[k]! = false) : findE ns t n = none := by
 refine find_miss (fun j hj => ?_)
 have := hb j hj
 rw [getElem!_pos ns j hj] at this
 exact this
theorem parR_snoc (ns : List EN) (y : EN) (t x : Int) : parR (ns ++ [y]) t x = parR ns t x + parT t x y := by
 unfold parR; rw [List.map_append, List.sum_append]; simp
theorem parT_le (t x : Int) (y : EN) : parT t x y ≤ 2 := by unfold parT; split; split <;> split <;> omega; omega
theorem parR_le (ns : List EN) (t x : Int) : parR ns t x ≤ 2 * ns.length := by
 induction ns with
 | nil => exact Nat.le_refl _
 | cons y r ih =>
  have := parT_le t x y
  have h : parR (y :: r) t x = parT t x y + parR r t x := by unfold parR; rw [List.map_cons, List.sum_cons]
  rw [h, List.length_cons]; omega
set_option maxHeartbeats 2000000 in
theorem rplace_any (v : Value) (e : EE) (bo : Option Addr) (bc : Nat) (no : Option Addr) (nc : Nat) (lo : Option Addr) (lc : Nat) (t n : Int) (r : Int) (w : World) (h : EnsIs w v e bo bc no nc lo lc) (hr : Hid (fidx (findE e.nodes t n) = r)) :
  Calls Tryz.prog 36 #[v, .int .i64 t, .int .i64 n] w fun e_1 w' => e_1 = .returned (.int .i64 r) ∧ Below w.heap.size w w' := by
 obtain ⟨rfl, h1, h2, h4, h5, h3, h6, h7, h8, h9⟩ := h
 obtain ⟨w0, hw0, hbf, pe, hpe, hbe⟩ := boxE w e bo bc no nc lo lc
 have HP : Hid (w.heap.size ≤ pe) := Lib.hid (by omega)
 have HW := Lib.hid hw0; clear hw0
 go_enter Tryz.func36, Tryz.ntmps36
 go_upto_region 1 with fail
 rw [← HW.out, ← hpe]
 clear hpe HW
 have hE : EnsIs w0 (ensV e bo bc no nc lo lc) e bo bc no nc lo lc := EnsIs.below ⟨rfl, h1, h2, h4, h5, h3, h6, h7, h8, h9⟩ hbf
 have ee5 := hbe.cell 5 _ rfl
 have h3b := h3
 unfold maxLen at h3b
 go_wp2_with fail
 go_loopg [7] e.nodes.length (fun gg iv wr => ∃ (i : Nat), i + gg = e.nodes.length ∧ iv = .int .i64 (i : Int) ∧ Hid (∀ k, k < i → hitN t n e.nodes[k]! = false) ∧ Below w0.heap.size w0 wr)
 case atStart => exact ⟨0, by omega, rfl, Lib.hid (fun k hk => absurd hk (Nat.not_lt_zero _)), Below.refl _ _⟩
 case round =>
  obtain ⟨i, hi, rfl, hA, hbr⟩ := hrel
  replace hbe := hbe.kept hbr
  clear ee5
  by_cases hil : i < e.nodes.length
  ·have hz : (i : Int) < (e.nodes.length : Int) := by omega
   have hz0 : (0 : Int) ≤ (i : Int) := by omega
   obtain ⟨nb, noff, rfl⟩ := h2.addr hil
   obtain ⟨y, hy⟩ : ∃ y, e.nodes[i] = y := ⟨_, rfl⟩
   obtain ⟨c0, c1, c2, c3, c4, c5, c6, c7⟩ := RowC.c8 h2 (hbf.trans (hbr.mono hbf.size)) hil y hy
   clear c2 c3 c4 c5 c6 c7
   have ee5 := hbe.cell 5 _ rfl
   have HN : Hid (hitN t n e.nodes[i]! = ((y.tree == t) && (y.node == n))) := Lib.hid (by unfold hitN; rw [getElem!_pos e.nodes i hil, hy]; rfl)
   have HS : Hid (((y.tree == t) && (y.node == n)) = false → ∀ k, k < i + 1 → hitN t n e.nodes[k]! = false) := Lib.hid (fun hf k hk => by
    by_cases e9 : k = i
    ·subst e9; rw [HN.out, hf]
    ·exact hA.out k (by omega))
   have HF : Hid (((y.tree == t) && (y.node == n)) = true → fidx (findE e.nodes t n) = (i : Int)) := Lib.hid (fun hf => by rw [findE_hit hil (by rw [HN.out, hf]) hA.out]; rfl)
   clear hy hA HN
   rcases Bool.eq_false_or_eq_true (y.tree == t) with q1 | q1
   ·rcases Bool.eq_false_or_eq_true (y.node == n) with q2 | q2
    ·have hf := HF.out (by rw [q1, q2]; rfl)
     rw [hr.out] at hf
     subst hf
     clear HS HF hr
     go_wp2_with fail
     go_ret
     exact ⟨rfl, hbf.trans (hbr.mono hbf.size)⟩
    ·have hA2 := Lib.hid (HS.out (by rw [q1, q2]; rfl))
     clear HS HF
     go_wp2_with fail
     go_roundg (gk - 1)
     case measure => omega
     case rel => exact ⟨i + 1, by omega, by go_num, hA2, hbr⟩
   ·have hA2 := Lib.hid (HS.out (by rw [q1]; rfl))
    clear HS HF
    go_wp2_with fail
    go_roundg (gk - 1)
    case measure => omega
    case rel => exact ⟨i + 1, by omega, by go_num, hA2, hbr⟩
  ·have hz : ¬ (i : Int) < (e.nodes.length : Int) := by omega
   have ee5 := hbe.cell 5 _ rfl
   have hf : r = -1 := by rw [← hr.out, findE_miss (fun k hk => hA.out k (by omega))]; rfl
   subst hf
   clear hA hr
   go_wp2_with fail
   go_ret
   exact ⟨rfl, hbf.trans (hbr.mono hbf.size)⟩
set_option maxHeartbeats 2000000 in
theorem rparents_any (v : Value) (e : EE) (bo : Option Addr) (bc : Nat) (no : Option Addr) (nc : Nat) (lo : Option Addr) (lc : Nat) (t x : Int) (r : Nat) (w : World) (h : EnsIs w v e bo bc no nc lo lc) (hlim : e.nodes.length ≤ 100000) (hr : Hid (parR e.nodes t x = r)) :
  Calls Tryz.prog 37 #[v, .int .i64 t, .int .i64 x] w fun e_1 w' => e_1 = .returned (.int .i64 (r : Int)) ∧ Below w.heap.size w w' := by
 obtain ⟨rfl, h1, h2, h4, h5, h3, h6, h7, h8, h9⟩ := h
 obtain ⟨w0, hw0, hbf, pe, hpe, hbe⟩ := boxE w e bo bc no nc lo lc
 have HP : Hid (w.heap.size ≤ pe) := Lib.hid (by omega)
 have HW := Lib.hid hw0; clear hw0
 go_enter Tryz.func37, Tryz.ntmps37
 go_upto_region 1 with fail
 rw [← HW.out, ← hpe]
 clear hpe HW
 have hE : EnsIs w0 (ensV e bo bc no nc lo lc) e bo bc no nc lo lc := EnsIs.below ⟨rfl, h1, h2, h4, h5, h3, h6, h7, h8, h9⟩ hbf
 have ee5 := hbe.cell 5 _ rfl
 go_wp2_with fail
 go_loopg [7, 8] e.nodes.length (fun gg nv iv wr => ∃ (i m : Nat), i + gg = e.nodes.length ∧ iv = .int .i64 (i : Int) ∧ nv = .int .i64 (m : Int) ∧ Hid (parR (e.nodes.take i) t x = m) ∧ Below w0.heap.size w0 wr)
 case atStart => exact ⟨0, 0, by omega, rfl, rfl, Lib.hid rfl, Below.refl _ _⟩
 case round =>
  obtain ⟨i, m, hi, rfl, rfl, hA, hbr⟩ := hrel
  replace hbe := hbe.kept hbr
  clear ee5
  have hm : m ≤ 2 * i := by
   have h1 := parR_le (e.nodes.take i) t x
   rw [hA.out, List.length_take] at h1
   omega
  by_cases hil : i < e.nodes.length
  ·have hz : (i : Int) < (e.nodes.length : Int) := by omega
   have hz0 : (0 : Int) ≤ (i : Int) := by omega
   obtain ⟨nb, noff, rfl⟩ := h2.addr hil
   obtain ⟨y, hy⟩ : ∃ y, e.nodes[i] = y := ⟨_, rfl⟩
   obtain ⟨c0, c1, c2, c3, c4, c5, c6, c7⟩ := RowC.c8 h2 (hbf.trans (hbr.mono hbf.size)) hil y hy
   have HT : Hid (e.nodes.take (i + 1) = e.nodes.take i ++ [y]) := Lib.hid (by rw [List.take_succ_eq_append_getElem hil, hy])
   clear hy
   have ee5 := hbe.cell 5 _ rfl
   obtain ⟨w2, hwE, hb2, px, hpE, hbx⟩ := boxN wr y
   have HW := Lib.hid hwE; clear hwE
   go_upto_region 6 with fail
   rw [← HW.out, ← hpE]
   clear HW hpE
   clear c0 c1 c2 c3 c4 c5 c6 c7
   have hbr2 := hbr.trans (hb2.mono hbr.size)
   have ex0 := hbx.cell 0 _ rfl
   have ex3 := hbx.cell 3 _ rfl
   have ex5 := hbx.cell 5 _ rfl
   have ex6 := hbx.cell 6 _ rfl
   clear ee5
   rcases Decidable.em (y.tree = t) with q1 | q1
   ·have e1 : (y.tree == t) = true := by simp [q1]
    rcases Decidable.em (y.mode = 7) with q2 | q2
    ·have e2 : (y.mode != 7) = false := by simp [q2]
     have hA2 : Hid (parR (e.nodes.take (i + 1)) t x = m + 0) := Lib.hid (by rw [HT.out, parR_snoc, hA.out]; unfold parT; simp [q1, q2])
     clear hA HT q1 q2
     go_wp2_with fail
     go_roundg (gk - 1)
     case measure => omega
     case rel => exact ⟨i + 1, m + 0, by omega, by go_num, by go_num, hA2, hbr2⟩
    ·have e2 : (y.mode != 7) = true := by simp [q2]
     rcases Decidable.em (y.tru = x) with q3 | q3
     ·have e3 : (y.tru == x) = true := by simp [q3]
      rcases Decidable.em (y.fls = x) with q4 | q4
      ·have e4 : (y.fls == x) = true := by simp [q4]
       have hA2 : Hid (parR (e.nodes.take (i + 1)) t x = m + 2) := Lib.hid (by rw [HT.out, parR_snoc, hA.out]; unfold parT; simp [q1, q2, q3, q4])
       clear hA HT q1 q2 q3 q4
       go_wp2_with fail
       go_roundg (gk - 1)
       case measure => omega
       case rel => exact ⟨i + 1, m + 2, by omega, by go_num, by go_num, hA2, hbr2⟩
      ·have e4 : (y.fls == x) = false := by simp [q4]
       have hA2 : Hid (parR (e.nodes.take (i + 1)) t x = m + 1) := Lib.hid (by rw [HT.out, parR_snoc, hA.out]; unfold parT; simp [q1, q2, q3, q4])
       clear hA HT q1 q2 q3 q4
       go_wp2_with fail
       go_roundg (gk - 1)
       case measure => omega
       case rel => exact ⟨i + 1, m + 1, by omega, by go_num, by go_num, hA2, hbr2⟩
     ·have e3 : (y.tru == x) = false := by simp [q3]
      rcases Decidable.em (y.fls = x) with q4 | q4
      ·have e4 : (y.fls == x) = true := by simp [q4]
       have hA2 : Hid (parR (e.nodes.take (i + 1)) t x = m + 1) := Lib.hid (by rw [HT.out, parR_snoc, hA.out]; unfold parT; simp [q1, q2, q3, q4])
       clear hA HT q1 q2 q3 q4
       go_wp2_with fail
       go_roundg (gk - 1)
       case measure => omega
       case rel => exact ⟨i + 1, m + 1, by omega, by go_num, by go_num, hA2, hbr2⟩
      ·have e4 : (y.fls == x) = false := by simp [q4]
       have hA2 : Hid (parR (e.nodes.take (i + 1)) t x = m + 0) := Lib.hid (by rw [HT.out, parR_snoc, hA.out]; unfold parT; simp [q1, q2, q3, q4])
       clear hA HT q1 q2 q3 q4
       go_wp2_with fail
       go_roundg (gk - 1)
       case measure => omega
       case rel => exact ⟨i + 1, m + 0, by omega, by go_num, by go_num, hA2, hbr2⟩
   ·have e1 : (y.tree == t) = false := by simp [q1]
    have hA2 : Hid (parR (e.nodes.take (i + 1)) t x = m + 0) := Lib.hid (by rw [HT.out, parR_snoc, hA.out]; unfold parT; simp [q1])
    clear hA HT q1
    go_wp2_with fail
    go_roundg (gk - 1)
    case measure => omega
    case rel => exact ⟨i + 1, m + 0, by omega, by go_num, by go_num, hA2, hbr2⟩
  ·have hz : ¬ (i : Int) < (e.nodes.length : Int) := by omega
   have ee5 := hbe.cell 5 _ rfl
   have hf : m = r := by rw [← hr.out, ← hA.out, List.take_of_length_le (by omega)]
   subst hf
   clear hA hr
   go_wp2_with fail
   go_ret
   exact ⟨rfl, hbf.trans (hbr.mono hbf.size)⟩
end Go.Proofs.YtieffhkfefimeaaGreatDoor
