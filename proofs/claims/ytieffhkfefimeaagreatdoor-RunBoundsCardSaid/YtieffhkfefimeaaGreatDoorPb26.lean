/-
  Pb26: EnsQ (what is needed of them).
-/
import Derived.Test.YtieffhkfefimeaaGreatDoorPb25

namespace Go.Proofs.YtieffhkfefimeaaGreatDoor
open Go.RowKit Go.Shelf
set_option linter.unusedVariables false
set_option linter.unusedSimpArgs false
theorem E_u64 : Elem Tryz.prog 29 22 (.int .u64 0) 8 := elem_of Tryz.underlying29 (by kernel_rfl) rfl
def patV (ws : List Nat) : List Value := ws.map fun n : Nat => Value.int .u64 (n : Int)
theorem patV_len (ws : List Nat) : (patV ws).length = ws.length := by unfold patV; simp
theorem weightsE_le (ls : List EL) (t n g : Int) : (weightsE ls t n g).length ≤ ls.length := by
  unfold weightsE; rw [List.length_map]; exact List.length_filter_le _ _
def wtB (t n g : Int) (z : EL) : Bool := (z.tree == t) && ((z.node == n) && (z.tgt == g))
theorem weightsE_yes {ls : List EL} {t n g : Int} {z : EL} (h : wtB t n g z = true) : weightsE (ls ++ [z]) t n g = weightsE ls t n g ++ [z.wt] := by
  unfold weightsE
  rw [List.filter_append, List.map_append, List.filter_cons_of_pos (by exact h)]; rfl
theorem weightsE_no {ls : List EL} {t n g : Int} {z : EL} (h : wtB t n g z = false) : weightsE (ls ++ [z]) t n g = weightsE ls t n g := by
  unfold weightsE
  rw [List.filter_append, List.map_append, List.filter_cons_of_neg (by rw [show (decide (z.tree = t) && (decide (z.node = n) && decide (z.tgt = g))) = false from h]; simp)]; simp
set_option maxRecDepth 100000 in
set_option maxHeartbeats 2000000 in
/-- Weights. -/
theorem rweights_any (v : Value) (e : EE) (bo : Option Addr) (bc : Nat) (no : Option Addr) (nc : Nat) (lo : Option Addr) (lc : Nat) (t n g : Int) (ws : List Nat) (w : World) (h : EnsIs w v e bo bc no nc lo lc) (hlim : e.leaves.length ≤ 100000) (hw : Hid (weightsE e.leaves t n g = ws)) :
    Calls Tryz.prog 19 #[v, .int .i64 t, .int .i64 n, .int .i64 g] w fun e_1 w' => ∃ r, e_1 = .returned r ∧ Owns w.heap.size 22 w' r (patV ws) ∧ Below w.heap.size w w' := by
  obtain ⟨rfl, h1, h2, h4, h5, h3, h6, h7, h8, h9⟩ := h
  obtain ⟨w0, hw0⟩ : ∃ w0, w0 = (w.alloc (.cells #[.int .i64 e.feats, .int .i64 e.tgts, .string ⟨e.agg.toArray⟩, .string ⟨e.post.toArray⟩, .slice bo e.base.length bc, .slice no e.nodes.length nc, .slice lo e.leaves.length lc] 33)) := ⟨_, rfl⟩
  have hbf : Below w.heap.size w w0 := by rw [hw0]; exact ((Below.refl _ w).alloc (Nat.le_refl _) _)
  obtain ⟨pe, hpe⟩ : ∃ p, p = w.heap.size := ⟨_, rfl⟩
  have hbe : BoxL w0 pe [.int .i64 e.feats, .int .i64 e.tgts, .string ⟨e.agg.toArray⟩, .string ⟨e.post.toArray⟩, .slice bo e.base.length bc, .slice no e.nodes.length nc, .slice lo e.leaves.length lc] := by rw [hw0, hpe]; exact BoxL.of7 (by go_simp) (by go_simp) (by go_simp) (by go_simp) (by go_simp) (by go_simp) (by go_simp) (by go_simp) (by go_simp) (by go_simp) (by go_simp) (by go_simp) (by go_simp) (by go_simp)
  have HP : Hid (w.heap.size ≤ pe) := Lib.hid (by omega)
  have HW := Lib.hid hw0; clear hw0
  go_enter Tryz.func19, Tryz.ntmps19
  go_upto_region 1 with fail
  rw [← HW.out, ← hpe]
  clear hpe HW
  have hE : EnsIs w0 (ensV e bo bc no nc lo lc) e bo bc no nc lo lc := EnsIs.below ⟨rfl, h1, h2, h4, h5, h3, h6, h7, h8, h9⟩ hbf
  have ee6 := hbe.cell 6 _ rfl
  go_wp2_with fail
  go_loopg [9, 10] e.leaves.length (fun gg ov iv wr => ∃ i : Nat, i + gg = e.leaves.length ∧ iv = .int .i64 (i : Int) ∧ Owns w0.heap.size 22 wr ov (patV (weightsE (e.leaves.take i) t n g)) ∧ Below w0.heap.size w0 wr)
  case atStart => exact ⟨0, by omega, rfl, by simpa [patV, weightsE] using Owns.nil _ _ _, Below.refl _ _⟩
  case round =>
    obtain ⟨i, hi, rfl, hO, hbr⟩ := hrel
    replace hbe := hbe.kept hbr
    clear ee6
    have hlen := weightsE_le (e.leaves.take i) t n g
    rw [List.length_take] at hlen
    have hvl := patV_len (weightsE (e.leaves.take i) t n g)
    by_cases hil : i < e.leaves.length
    · have hz : (i : Int) < (e.leaves.length : Int) := by omega
      have hz0 : (0 : Int) ≤ (i : Int) := by omega
      obtain ⟨b, off, rfl⟩ := h4.addr hil
      obtain ⟨z, hy⟩ : ∃ z, e.leaves[i] = z := ⟨_, rfl⟩
      obtain ⟨c0, c1, c2, c3⟩ := RowC.c4 h4 (hbf.trans (hbr.mono hbf.size)) hil z hy
      have HT : Hid (e.leaves.take (i + 1) = e.leaves.take i ++ [z]) := Lib.hid (by rw [List.take_succ_eq_append_getElem hil, hy])
      clear hy
      have ee6 := hbe.cell 6 _ rfl
      rcases Bool.eq_false_or_eq_true (z.tree == t) with q1 | q1
      · rcases Bool.eq_false_or_eq_true (z.node == n) with q2 | q2
        · rcases Bool.eq_false_or_eq_true (z.tgt == g) with q3 | q3
          · have hT2 := Lib.hid ((congrArg (fun l => weightsE l t n g) HT.out).trans (weightsE_yes (z := z) (ls := e.leaves.take i) (by unfold wtB; rw [q1, q2, q3]; rfl)))
            clear HT
            go_wp2_with (at_builtin; refine append1 E_u64 hO rfl rfl rfl rfl rfl (by rw [hvl]; omega) (by rw [hvl]; unfold maxLen; omega) hbr.size ?_; intro v6 w6 ho6 hb6 hg6)
            go_roundg (gk - 1)
            case measure => omega
            case rel => exact ⟨i + 1, by omega, by go_num, by rw [hT2.out]; simpa [patV] using ho6, hbr.trans hb6⟩
          · skip
            have hT2 := Lib.hid ((congrArg (fun l => weightsE l t n g) HT.out).trans (weightsE_no (z := z) (ls := e.leaves.take i) (by unfold wtB; rw [q1, q2, q3]; rfl)))
            clear HT
            go_wp2_with fail
            go_roundg (gk - 1)
            case measure => omega
            case rel => exact ⟨i + 1, by omega, by go_num, by rw [hT2.out]; exact hO, hbr⟩
        · skip
          have hT2 := Lib.hid ((congrArg (fun l => weightsE l t n g) HT.out).trans (weightsE_no (z := z) (ls := e.leaves.take i) (by unfold wtB; rw [q1, q2]; rfl)))
          clear HT
          go_wp2_with fail
          go_roundg (gk - 1)
          case measure => omega
          case rel => exact ⟨i + 1, by omega, by go_num, by rw [hT2.out]; exact hO, hbr⟩
      · skip
        have hT2 := Lib.hid ((congrArg (fun l => weightsE l t n g) HT.out).trans (weightsE_no (z := z) (ls := e.leaves.take i) (by unfold wtB; rw [q1]; rfl)))
        clear HT
        go_wp2_with fail
        go_roundg (gk - 1)
        case measure => omega
        case rel => exact ⟨i + 1, by omega, by go_num, by rw [hT2.out]; exact hO, hbr⟩
    · have hz : ¬ (i : Int) < (e.leaves.length : Int) := by omega
      have ee6 := hbe.cell 6 _ rfl
      rw [List.take_of_length_le (by omega), hw.out] at hO
      clear hlen hvl
      go_wp2_with fail
      go_ret
      exact ⟨_, rfl, hO.mono hbf.size, hbf.trans (hbr.mono hbf.size)⟩
end Go.Proofs.YtieffhkfefimeaaGreatDoor
