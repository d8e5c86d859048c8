/-
  Pk24: EnsQ (what is needed of them).
-/
import Derived.Test.YtcpfanpcdkoiaaaGreatPk21
import Derived.Test.YtcpfanpcdkoiaaaGreatPk23
set_option maxRecDepth 100000
set_option linter.unusedVariables false
set_option linter.unusedSimpArgs false

namespace Go.Proofs.YtcpfanpcdkoiaaaGreat
open Go.RowKit Go.Shelf


theorem E_u64 : Elem Tryz.prog 58 41 (.int .u64 0) 8 := elem_of Tryz.underlying58 (by kernel_rfl) rfl
def patV (ws : List Nat) : List Value := ws.map fun n : Nat => Value.int .u64 (n : Int)
theorem patV_len (ws : List Nat) : (patV ws).length = ws.length := by unfold patV; simp
theorem weightsE_le (ls : List EL) (t n g : Int) : (weightsE ls t n g).length ≤ ls.length := by
 unfold weightsE; rw [List.length_map]; exact List.length_filter_le _ _
def wtB (t n g : Int) (z : EL) : Bool := (z.tree == t) && ((z.node == n) && (z.tgt == g))
theorem weightsE_yes {ls : List EL} {t n g : Int} {z : EL} (h : wtB t n g z = true) : weightsE (ls ++ [z]) t n g = weightsE ls t n g ++ [z.wt] := by
 unfold weightsE
 rw [List.filter_append, List.map_append, List.filter_cons_of_pos (by exact h)]; rfl
theorem weightsE_no {ls : List EL} {t n g : Int} {z : EL} (h : wtB t n g z = false) : weightsE (ls ++ [z]) t n g = weightsE ls t n g := by
 unfold weightsE
 rw [List.filter_append, List.map_append, List.filter_cons_of_neg (by rw [show (decide (z.tree = t) && (decide (z.node = n) && decide (z.tgt = g))) = false from h]; simp)]; simp
set_option maxHeartbeats 2000000 in
theorem rfinite_any (p : Nat) (r : Bool) (w : World) (hp : p < 18446744073709551616) (hr : Hid (finP p = r)) :
  Calls Tryz.prog 99 #[.int .u64 (p : Int)] w fun e w' => e = .returned (.bool r) ∧ Below w.heap.size w w' := by
 obtain ⟨k, hk⟩ : ∃ k, dkind 8 23 p = k := ⟨_, rfl⟩
 obtain ⟨q, hq⟩ : ∃ q, dval' 8 23 p = q := ⟨_, rfl⟩
 have hR : (decide (p < 4294967296) && decide (k = 1)) = r := by rw [← hr.out, ← hk]; rfl
 have HR := Lib.hid hR
 have hN := rnumber_any p k q w (Lib.hid hk) (Lib.hid hq) hp
 clear hk hq hR hr
 go_enter Tryz.func99, Tryz.ntmps99
 go_upto_region 1 with fail
 go_upto_region 2 with (go_at_call 139; refine hN.mono ?_; rintro e w1 hq9; obtain ⟨xB, xxO, xxL, xxC, xyO, xyL, xyC, rfl, hS, hxx, hxy, hx, hb⟩ := hq9.out; clear hS hxx hxy hx hq9)
 have hb2 := hb.trans (((Below.refl _ w1).alloc (Nat.le_refl _) (.cells #[.bool xB, .slice xxO xxL xxC, .slice xyO xyL xyC] 193)).mono hb.size)
 by_cases q1 : p < 4294967296
 ·have e1 : (p : Int) < 4294967296 := by omega
  by_cases q2 : k = 1
  ·have h9 : true = r := by rw [← HR.out]; simp [q1, q2]
   have e2 : (k == 1) = true := by simp [q2]
   subst h9
   clear HR q1 q2
   go_wp2_with fail
   go_ret
   exact ⟨rfl, hb2⟩
  ·have h9 : false = r := by rw [← HR.out]; simp [q1, q2]
   have e2 : (k == 1) = false := by simp [q2]
   subst h9
   clear HR q1 q2
   go_wp2_with fail
   go_ret
   exact ⟨rfl, hb2⟩
 ·have h9 : false = r := by rw [← HR.out]; simp [q1]
  have e1 : ¬ (p : Int) < 4294967296 := by omega
  subst h9
  clear HR q1
  go_wp2_with fail
  go_ret
  exact ⟨rfl, hb2⟩
set_option maxHeartbeats 2000000 in
theorem rweights_any (v : Value) (e : EE) (bo : Option Addr) (bc : Nat) (no : Option Addr) (nc : Nat) (lo : Option Addr) (lc : Nat) (t n g : Int) (ws : List Nat) (w : World) (h : EnsIs w v e bo bc no nc lo lc) (hlim : e.leaves.length ≤ 100000) (hw : Hid (weightsE e.leaves t n g = ws)) :
  Calls Tryz.prog 39 #[v, .int .i64 t, .int .i64 n, .int .i64 g] w fun e_1 w' => ∃ r, e_1 = .returned r ∧ Owns w.heap.size 41 w' r (patV ws) ∧ Below w.heap.size w w' := by
 obtain ⟨rfl, h1, h2, h4, h5, h3, h6, h7, h8, h9⟩ := h
 obtain ⟨w0, hw0, hbf, pe, hpe, hbe⟩ := boxE w e bo bc no nc lo lc
 have HP : Hid (w.heap.size ≤ pe) := Lib.hid (by omega)
 have HW := Lib.hid hw0; clear hw0
 go_enter Tryz.func39, Tryz.ntmps39
 go_upto_region 1 with fail
 rw [← HW.out, ← hpe]
 clear hpe HW
 have hE : EnsIs w0 (ensV e bo bc no nc lo lc) e bo bc no nc lo lc := EnsIs.below ⟨rfl, h1, h2, h4, h5, h3, h6, h7, h8, h9⟩ hbf
 have ee6 := hbe.cell 6 _ rfl
 go_wp2_with fail
 go_loopg [9, 10] e.leaves.length (fun gg ov iv wr => ∃ i : Nat, i + gg = e.leaves.length ∧ iv = .int .i64 (i : Int) ∧ Owns w0.heap.size 41 wr ov (patV (weightsE (e.leaves.take i) t n g)) ∧ Below w0.heap.size w0 wr)
 case atStart => exact ⟨0, by omega, rfl, by simpa [patV, weightsE] using Owns.nil _ _ _, Below.refl _ _⟩
 case round =>
  obtain ⟨i, hi, rfl, hO, hbr⟩ := hrel
  replace hbe := hbe.kept hbr
  clear ee6
  have hlen := weightsE_le (e.leaves.take i) t n g
  rw [List.length_take] at hlen
  have hvl := patV_len (weightsE (e.leaves.take i) t n g)
  by_cases hil : i < e.leaves.length
  ·have hz : (i : Int) < (e.leaves.length : Int) := by omega
   have hz0 : (0 : Int) ≤ (i : Int) := by omega
   obtain ⟨b, off, rfl⟩ := h4.addr hil
   obtain ⟨z, hy⟩ : ∃ z, e.leaves[i] = z := ⟨_, rfl⟩
   obtain ⟨c0, c1, c2, c3⟩ := RowC.c4 h4 (hbf.trans (hbr.mono hbf.size)) hil z hy
   have HT : Hid (e.leaves.take (i + 1) = e.leaves.take i ++ [z]) := Lib.hid (by rw [List.take_succ_eq_append_getElem hil, hy])
   clear hy
   have ee6 := hbe.cell 6 _ rfl
   rcases Bool.eq_false_or_eq_true (z.tree == t) with q1 | q1
   ·rcases Bool.eq_false_or_eq_true (z.node == n) with q2 | q2
    ·rcases Bool.eq_false_or_eq_true (z.tgt == g) with q3 | q3
     ·have hT2 := Lib.hid ((congrArg (fun l => weightsE l t n g) HT.out).trans (weightsE_yes (z := z) (ls := e.leaves.take i) (by unfold wtB; rw [q1, q2, q3]; rfl)))
      clear HT
      go_wp2_with (at_builtin; refine append1 E_u64 hO rfl rfl rfl rfl rfl (by rw [hvl]; omega) (by rw [hvl]; unfold maxLen; omega) hbr.size ?_; intro v6 w6 ho6 hb6 hg6)
      go_roundg (gk - 1)
      case measure => omega
      case rel => exact ⟨i + 1, by omega, by go_num, by rw [hT2.out]; simpa [patV] using ho6, hbr.trans hb6⟩
     ·skip
      have hT2 := Lib.hid ((congrArg (fun l => weightsE l t n g) HT.out).trans (weightsE_no (z := z) (ls := e.leaves.take i) (by unfold wtB; rw [q1, q2, q3]; rfl)))
      clear HT
      go_wp2_with fail
      go_roundg (gk - 1)
      case measure => omega
      case rel => exact ⟨i + 1, by omega, by go_num, by rw [hT2.out]; exact hO, hbr⟩
    ·skip
     have hT2 := Lib.hid ((congrArg (fun l => weightsE l t n g) HT.out).trans (weightsE_no (z := z) (ls := e.leaves.take i) (by unfold wtB; rw [q1, q2]; rfl)))
     clear HT
     go_wp2_with fail
     go_roundg (gk - 1)
     case measure => omega
     case rel => exact ⟨i + 1, by omega, by go_num, by rw [hT2.out]; exact hO, hbr⟩
   ·skip
    have hT2 := Lib.hid ((congrArg (fun l => weightsE l t n g) HT.out).trans (weightsE_no (z := z) (ls := e.leaves.take i) (by unfold wtB; rw [q1]; rfl)))
    clear HT
    go_wp2_with fail
    go_roundg (gk - 1)
    case measure => omega
    case rel => exact ⟨i + 1, by omega, by go_num, by rw [hT2.out]; exact hO, hbr⟩
  ·have hz : ¬ (i : Int) < (e.leaves.length : Int) := by omega
   have ee6 := hbe.cell 6 _ rfl
   rw [List.take_of_length_le (by omega), hw.out] at hO
   clear hlen hvl
   go_wp2_with fail
   go_ret
   exact ⟨_, rfl, hO.mono hbf.size, hbf.trans (hbr.mono hbf.size)⟩
theorem reach_lim (ns : List EN) : ∀ (l p : Nat), (reachE ns l p).1 + 1 ≤ 2 ^ (l + 1)
 | 0, p => by rw [reachE]; decide
 | l + 1, p => by
  rw [reachE]
  have h1 := reach_lim ns l ((findE ns ns[p]!.tree ns[p]!.tru).getD 0)
  have h2 := reach_lim ns l ((findE ns ns[p]!.tree ns[p]!.fls).getD 0)
  have h3 : 2 ^ (l + 1 + 1) = 2 ^ (l + 1) + 2 ^ (l + 1) := by rw [Nat.pow_succ 2 (l + 1)]; omega
  split
  ·show 1 + 1 ≤ 2 ^ (l + 1 + 1); have : 1 ≤ 2 ^ (l + 1) := Nat.one_le_two_pow; omega
  ·simp only; omega
set_option maxHeartbeats 2000000 in
theorem rreached_any (v : Value) (e : EE) (bo : Option Addr) (bc : Nat) (no : Option Addr) (nc : Nat) (lo : Option Addr) (lc : Nat) (hN : NumOk e.nodes) : ∀ (l : Nat), l ≤ 40 → ∀ (p A D : Nat) (w : World), EnsIs w v e bo bc no nc lo lc → p < e.nodes.length → Hid (reachE e.nodes l p = (A, D)) →
  Calls Tryz.prog 101 #[v, .int .i64 (p : Int), .int .i64 (l : Int)] w fun e_1 w' => e_1 = .returned (.tuple #[.int .i64 (A : Int), .int .i64 (D : Int)]) ∧ Below w.heap.size w w' := by
 intro l
 induction l with
 | zero =>
  intro hl p A D w h hil hr
  obtain ⟨rfl, h1, h2, h4, h5, h3, h6, h7, h8, h9⟩ := h
  obtain ⟨w0, hw0, hbf, pe, hpe, hbe⟩ := boxE w e bo bc no nc lo lc
  have HP : Hid (w.heap.size ≤ pe) := Lib.hid (by omega)
  have HW := Lib.hid hw0; clear hw0
  go_enter Tryz.func101, Tryz.ntmps101
  go_upto_region 1 with fail
  rw [← HW.out, ← hpe]
  clear hpe HW
  have hE : EnsIs w0 (ensV e bo bc no nc lo lc) e bo bc no nc lo lc := EnsIs.below ⟨rfl, h1, h2, h4, h5, h3, h6, h7, h8, h9⟩ hbf
  have hz : (p : Int) < (e.nodes.length : Int) := by omega
  have hz0 : (0 : Int) ≤ (p : Int) := by omega
  obtain ⟨nb, noff, rfl⟩ := h2.addr hil
  obtain ⟨y, hy⟩ : ∃ y, e.nodes[p] = y := ⟨_, rfl⟩
  obtain ⟨c0, c1, c2, c3, c4, c5, c6, c7⟩ := RowC.c8 h2 hbf hil y hy
  clear hy
  have ee5 := hbe.cell 5 _ rfl
  obtain ⟨w2, hwE, hb2, px, hpE, hbx⟩ := boxN w0 y
  have HW := Lib.hid hwE; clear hwE
  go_upto_region 2 with fail
  rw [← HW.out, ← hpE]
  clear HW hpE
  clear c0 c1 c2 c3 c4 c5 c6 c7
  have h9 := hr.out
  rw [reachE] at h9
  injection h9 with h9 h10
  subst h9 h10
  clear hr
  have ex3 := hbx.cell 3 _ rfl
  rcases Bool.eq_false_or_eq_true (y.mode == 7) with q1 | q1
  ·go_wp2_with fail
   go_ret2
   exact ⟨rfl, hbf.trans (hb2.mono hbf.size)⟩
  ·go_wp2_with fail
   go_ret2
   exact ⟨rfl, hbf.trans (hb2.mono hbf.size)⟩
 | succ l ih =>
  intro hl p A D w h hil hr
  replace ih := ih (by omega)
  obtain ⟨rfl, h1, h2, h4, h5, h3, h6, h7, h8, h9⟩ := h
  obtain ⟨w0, hw0, hbf, pe, hpe, hbe⟩ := boxE w e bo bc no nc lo lc
  have HP : Hid (w.heap.size ≤ pe) := Lib.hid (by omega)
  have HW := Lib.hid hw0; clear hw0
  go_enter Tryz.func101, Tryz.ntmps101
  go_upto_region 1 with fail
  rw [← HW.out, ← hpe]
  clear hpe HW
  have hE : EnsIs w0 (ensV e bo bc no nc lo lc) e bo bc no nc lo lc := EnsIs.below ⟨rfl, h1, h2, h4, h5, h3, h6, h7, h8, h9⟩ hbf
  have hz : (p : Int) < (e.nodes.length : Int) := by omega
  have hz0 : (0 : Int) ≤ (p : Int) := by omega
  obtain ⟨nb, noff, rfl⟩ := h2.addr hil
  obtain ⟨y, hy⟩ : ∃ y, e.nodes[p] = y := ⟨_, rfl⟩
  obtain ⟨c0, c1, c2, c3, c4, c5, c6, c7⟩ := RowC.c8 h2 hbf hil y hy
  have HY : Hid (e.nodes[p]! = y) := Lib.hid (by rw [getElem!_pos e.nodes p hil, hy])
  clear hy
  have ee5 := hbe.cell 5 _ rfl
  obtain ⟨w2, hwE, hb2, px, hpE, hbx⟩ := boxN w0 y
  have HW := Lib.hid hwE; clear hwE
  go_upto_region 2 with fail
  rw [← HW.out, ← hpE]
  clear HW hpE
  clear c0 c1 c2 c3 c4 c5 c6 c7
  have h9 := hr.out
  rw [reachE, HY.out] at h9
  clear hr
  have ex3 := hbx.cell 3 _ rfl
  by_cases q0 : y.mode = 7
  ·have q1 : (y.mode == 7) = true := by simp [q0]
   rw [if_pos q0] at h9
   injection h9 with h9 h10
   subst h9 h10
   clear q0
   go_wp2_with fail
   go_ret2
   exact ⟨rfl, hbf.trans (hb2.mono hbf.size)⟩
  ·have q1 : (y.mode == 7) = false := by simp [q0]
   have q2 : ¬ ((l + 1 : Nat) : Int) ≤ 0 := by omega
   rw [if_neg q0] at h9
   obtain ⟨a, b, fa, fb, -, -, hla, hlb, -⟩ := hN.kids hil (by rw [HY.out]; exact q0)
   rw [HY.out] at fa fb
   rw [fa, fb] at h9
   have HPa : Hid (fidx (findE e.nodes y.tree y.tru) = (a : Int)) := Lib.hid (by rw [fa]; rfl)
   have HPb : Hid (fidx (findE e.nodes y.tree y.fls) = (b : Int)) := Lib.hid (by rw [fb]; rfl)
   simp only [Option.getD_some] at h9
   have la := reach_lim e.nodes l a
   have lb := reach_lim e.nodes l b
   have da := reach_le e.nodes l a
   have db := reach_le e.nodes l b
   have hpow : 2 ^ (l + 1) ≤ 2 ^ 40 := Nat.pow_le_pow_right (by decide) (by omega)
   obtain ⟨⟨Aa, Da⟩, hRa⟩ : ∃ x, reachE e.nodes l a = x := ⟨_, rfl⟩
   obtain ⟨⟨Ab, Db⟩, hRb⟩ : ∃ x, reachE e.nodes l b = x := ⟨_, rfl⟩
   rw [hRa] at h9 la da
   rw [hRb] at h9 lb db
   injection h9 with h9 h10
   subst h9 h10
   have HRa := Lib.hid hRa
   have HRb := Lib.hid hRb
   simp only at la lb da db
   have lA : Aa < 1099511627776 := by omega
   have lB : Ab < 1099511627776 := by omega
   clear la lb hpow hRa hRb q0 fa fb
   have hb2' := hb2
   replace hbe := hbe.kept hb2
   replace hE := hE.below hb2
   replace hbf := hbf.trans (hb2.mono hbf.size)
   clear ee5 hb2 hb2'
   have qw : IntKind.i64.wrap (l : Int) = (l : Int) := IntWalk.i64_in _ (by omega)
   go_upto_region 4 with fail
   clear ex3
   refine wp_region_seq (S := fun w' => BoxL w' pe [.int .i64 e.feats, .int .i64 e.tgts, .string ⟨e.agg.toArray⟩, .string ⟨e.post.toArray⟩, .slice bo e.base.length bc, .slice (some ⟨nb, noff, none⟩) e.nodes.length nc, .slice lo e.leaves.length lc] ∧ BoxL w' px [.int .i64 y.tree, .int .i64 y.node, .int .i64 y.feat, .int .i64 y.mode, .int .u64 (y.val : Int), .int .i64 y.tru, .int .i64 y.fls, .bool y.trk]) [(true, 0), (true, 1), (true, 2), (true, 3), (true, 4), (true, 5), (true, 7), (true, 8), (false, 6), (false, 9), (true, 10), (true, 11), (true, 12), (true, 13), (true, 14)] (by kernel_rfl) (by kernel_rfl) (by kernel_rfl) (by kernel_rfl) (by kernel_rfl) (fun d _ _ _ _ h => by cases d <;> exact h) ⟨hbe.drew, hbx.drew⟩ (fun _ => ?_)
   simp only [pickOps, List.append_eq, List.cons_append, List.nil_append, List.getElem?_toArray, List.getElem?_cons_succ, List.getElem?_cons_zero]
   have hb : Below w2.heap.size w2 w2.drew := (Below.refl _ _).drew
   generalize w2.drew = wd at hb ⊢
   replace hbe := hbe.kept hb
   replace hE := hE.below hb
   replace hbx := hbx.kept hb
   replace hbf := hbf.trans (hb.mono hbf.size)
   clear hb
   repeat (first | (refine seq_take (v := ?_) (by rfl) ?_ ?_; rotate_left; (· intro w hSw; (try dsimp only at hSw); obtain ⟨hL0, hX0⟩ := hSw; obtain ⟨ee0, ee1, ee2, ee3, ee4, ee5, ee6⟩ := hL0.c7; clear hL0; obtain ⟨ex0, ex1, ex2, ex3, ex4, ex5, ex6, ex7⟩ := hX0.c8; clear hX0; go_simp; all_goals with_reducible rfl); (try simp only [Act.put, List.setIfInBounds_toArray, List.set_cons_zero, List.set_cons_succ])) | (refine seq_leave (by rfl) ?_; (try simp only [Act.put, List.setIfInBounds_toArray, List.set_cons_zero, List.set_cons_succ])))
   refine seq_step (by rfl) (fun K hK => ?_)
   go_simp
   go_at_call 37
   (with_reducible refine (rplace_any _ e _ _ _ _ _ _ y.tree y.tru (a : Int) _ hE HPa).mono ?_)
   rintro e9 w5 ⟨rfl, hb⟩
   replace hbe := hbe.kept hb
   replace hE := hE.below hb
   replace hbx := hbx.kept hb
   replace hbf := hbf.trans (hb.mono hbf.size)
   clear hb
   first | refine hK.out _ _ ⟨hbe, hbx⟩ (fun _ => ?_) | (go_wp2_with fail; refine hK.out _ _ ⟨hbe, hbx⟩ (fun _ => ?_))
   clear hK K
   (try simp only [Act.put, List.setIfInBounds_toArray, List.set_cons_zero, List.set_cons_succ])
   repeat (first | (refine seq_take (v := ?_) (by rfl) ?_ ?_; rotate_left; (· intro w hSw; (try dsimp only at hSw); obtain ⟨hL0, hX0⟩ := hSw; obtain ⟨ee0, ee1, ee2, ee3, ee4, ee5, ee6⟩ := hL0.c7; clear hL0; obtain ⟨ex0, ex1, ex2, ex3, ex4, ex5, ex6, ex7⟩ := hX0.c8; clear hX0; go_simp; all_goals with_reducible rfl); (try simp only [Act.put, List.setIfInBounds_toArray, List.set_cons_zero, List.set_cons_succ])) | (refine seq_leave (by rfl) ?_; (try simp only [Act.put, List.setIfInBounds_toArray, List.set_cons_zero, List.set_cons_succ])))
   refine seq_step (by rfl) (fun K hK => ?_)
   go_simp
   go_at_call 101
   (with_reducible refine (ih a Aa Da _ hE hla HRa).mono ?_)
   rintro e9 w4 ⟨rfl, hb⟩
   replace hbe := hbe.kept hb
   replace hE := hE.below hb
   replace hbx := hbx.kept hb
   replace hbf := hbf.trans (hb.mono hbf.size)
   clear hb
   first | refine hK.out _ _ ⟨hbe, hbx⟩ (fun _ => ?_) | (go_wp2_with fail; refine hK.out _ _ ⟨hbe, hbx⟩ (fun _ => ?_))
   clear hK K
   (try simp only [Act.put, List.setIfInBounds_toArray, List.set_cons_zero, List.set_cons_succ])
   repeat (first | (refine seq_take (v := ?_) (by rfl) ?_ ?_; rotate_left; (· intro w hSw; (try dsimp only at hSw); obtain ⟨hL0, hX0⟩ := hSw; obtain ⟨ee0, ee1, ee2, ee3, ee4, ee5, ee6⟩ := hL0.c7; clear hL0; obtain ⟨ex0, ex1, ex2, ex3, ex4, ex5, ex6, ex7⟩ := hX0.c8; clear hX0; go_simp; all_goals with_reducible rfl); (try simp only [Act.put, List.setIfInBounds_toArray, List.set_cons_zero, List.set_cons_succ])) | (refine seq_leave (by rfl) ?_; (try simp only [Act.put, List.setIfInBounds_toArray, List.set_cons_zero, List.set_cons_succ])))
   refine seq_end ?_
   go_upto_region 5 with fail
   refine wp_region_seq (S := fun w' => BoxL w' pe [.int .i64 e.feats, .int .i64 e.tgts, .string ⟨e.agg.toArray⟩, .string ⟨e.post.toArray⟩, .slice bo e.base.length bc, .slice (some ⟨nb, noff, none⟩) e.nodes.length nc, .slice lo e.leaves.length lc] ∧ BoxL w' px [.int .i64 y.tree, .int .i64 y.node, .int .i64 y.feat, .int .i64 y.mode, .int .u64 (y.val : Int), .int .i64 y.tru, .int .i64 y.fls, .bool y.trk]) [(true, 0), (true, 1), (true, 2), (true, 3), (true, 4), (true, 5), (true, 7), (true, 8), (false, 6), (false, 9), (true, 10), (true, 11), (true, 12), (true, 13), (true, 14)] (by kernel_rfl) (by kernel_rfl) (by kernel_rfl) (by kernel_rfl) (by kernel_rfl) (fun d _ _ _ _ h => by cases d <;> exact h) ⟨hbe.drew, hbx.drew⟩ (fun _ => ?_)
   simp only [pickOps, List.append_eq, List.cons_append, List.nil_append, List.getElem?_toArray, List.getElem?_cons_succ, List.getElem?_cons_zero]
   have hb : Below w4.heap.size w4 w4.drew := (Below.refl _ _).drew
   generalize w4.drew = wd at hb ⊢
   replace hbe := hbe.kept hb
   replace hE := hE.below hb
   replace hbx := hbx.kept hb
   replace hbf := hbf.trans (hb.mono hbf.size)
   clear hb
   repeat (first | (refine seq_take (v := ?_) (by rfl) ?_ ?_; rotate_left; (· intro w hSw; (try dsimp only at hSw); obtain ⟨hL0, hX0⟩ := hSw; obtain ⟨ee0, ee1, ee2, ee3, ee4, ee5, ee6⟩ := hL0.c7; clear hL0; obtain ⟨ex0, ex1, ex2, ex3, ex4, ex5, ex6, ex7⟩ := hX0.c8; clear hX0; go_simp; all_goals with_reducible rfl); (try simp only [Act.put, List.setIfInBounds_toArray, List.set_cons_zero, List.set_cons_succ])) | (refine seq_leave (by rfl) ?_; (try simp only [Act.put, List.setIfInBounds_toArray, List.set_cons_zero, List.set_cons_succ])))
   refine seq_step (by rfl) (fun K hK => ?_)
   go_simp
   go_at_call 37
   (with_reducible refine (rplace_any _ e _ _ _ _ _ _ y.tree y.fls (b : Int) _ hE HPb).mono ?_)
   rintro e9 w5 ⟨rfl, hb⟩
   replace hbe := hbe.kept hb
   replace hE := hE.below hb
   replace hbx := hbx.kept hb
   replace hbf := hbf.trans (hb.mono hbf.size)
   clear hb
   first | refine hK.out _ _ ⟨hbe, hbx⟩ (fun _ => ?_) | (go_wp2_with fail; refine hK.out _ _ ⟨hbe, hbx⟩ (fun _ => ?_))
   clear hK K
   (try simp only [Act.put, List.setIfInBounds_toArray, List.set_cons_zero, List.set_cons_succ])
   repeat (first | (refine seq_take (v := ?_) (by rfl) ?_ ?_; rotate_left; (· intro w hSw; (try dsimp only at hSw); obtain ⟨hL0, hX0⟩ := hSw; obtain ⟨ee0, ee1, ee2, ee3, ee4, ee5, ee6⟩ := hL0.c7; clear hL0; obtain ⟨ex0, ex1, ex2, ex3, ex4, ex5, ex6, ex7⟩ := hX0.c8; clear hX0; go_simp; all_goals with_reducible rfl); (try simp only [Act.put, List.setIfInBounds_toArray, List.set_cons_zero, List.set_cons_succ])) | (refine seq_leave (by rfl) ?_; (try simp only [Act.put, List.setIfInBounds_toArray, List.set_cons_zero, List.set_cons_succ])))
   refine seq_step (by rfl) (fun K hK => ?_)
   go_simp
   go_at_call 101
   (with_reducible refine (ih b Ab Db _ hE hlb HRb).mono ?_)
   rintro e9 w4 ⟨rfl, hb⟩
   replace hbe := hbe.kept hb
   replace hE := hE.below hb
   replace hbx := hbx.kept hb
   replace hbf := hbf.trans (hb.mono hbf.size)
   clear hb
   first | refine hK.out _ _ ⟨hbe, hbx⟩ (fun _ => ?_) | (go_wp2_with fail; refine hK.out _ _ ⟨hbe, hbx⟩ (fun _ => ?_))
   clear hK K
   (try simp only [Act.put, List.setIfInBounds_toArray, List.set_cons_zero, List.set_cons_succ])
   repeat (first | (refine seq_take (v := ?_) (by rfl) ?_ ?_; rotate_left; (· intro w hSw; (try dsimp only at hSw); obtain ⟨hL0, hX0⟩ := hSw; obtain ⟨ee0, ee1, ee2, ee3, ee4, ee5, ee6⟩ := hL0.c7; clear hL0; obtain ⟨ex0, ex1, ex2, ex3, ex4, ex5, ex6, ex7⟩ := hX0.c8; clear hX0; go_simp; all_goals with_reducible rfl); (try simp only [Act.put, List.setIfInBounds_toArray, List.set_cons_zero, List.set_cons_succ])) | (refine seq_leave (by rfl) ?_; (try simp only [Act.put, List.setIfInBounds_toArray, List.set_cons_zero, List.set_cons_succ])))
   refine seq_end ?_
   go_wp2_with fail
   go_ret2
   exact ⟨by (try simp) <;> omega, hbf⟩
end Go.Proofs.YtcpfanpcdkoiaaaGreat
