/-
  onnx: kid, leaf, named, size, base, numbers.
-/
import Derived.Test.YtieffhkfefimeaaGreatOnxF
import Derived.Test.YtieffhkfefimeaaGreatOnxD
namespace Go.Proofs.YtieffhkfefimeaaGreat
open Go.RowKit
set_option linter.unusedVariables false
set_option linter.unusedSimpArgs false

set_option maxRecDepth 100000 in
set_option maxHeartbeats 1000000 in
theorem kid1_any (x : EN) (e : EE) (bo : Option Addr) (bc : Nat) (no : Option Addr) (nc : Nat) (lo : Option Addr) (lc : Nat) (pe : Nat) (w : World) (hE : EnsIs w (ensV e bo bc no nc lo lc) e bo bc no nc lo lc) (hbe : BoxL w pe [.int .i64 e.feats, .int .i64 e.tgts, .string ⟨e.agg.toArray⟩, .string ⟨e.post.toArray⟩, .slice bo e.base.length bc, .slice no e.nodes.length nc, .slice lo e.leaves.length lc]) (r : Bool) (hr : ((findE e.nodes x.tree x.tru).isSome && ((findE e.nodes x.tree x.fls).isSome && decide (x.tru ≠ x.fls))) = r) :
    Calls Tryz.prog 87 #[.agg (enC x).toArray, .pointer (some ⟨pe, 0, none⟩)] w fun e w' => e = .returned (.bool r) ∧ Below w.heap.size w w' := by
  unfold enC
  obtain ⟨w0, hw0⟩ : ∃ w0, w0 = (w.alloc (.cells #[.int .i64 x.tree, .int .i64 x.node, .int .i64 x.feat, .int .i64 x.mode, .int .u64 (x.val : Int), .int .i64 x.tru, .int .i64 x.fls, .bool x.trk] 33)) := ⟨_, rfl⟩
  have hbf : Below w.heap.size w w0 := by rw [hw0]; exact ((Below.refl _ w).alloc (Nat.le_refl _) _)
  obtain ⟨px, hpx⟩ : ∃ p, p = w.heap.size := ⟨_, rfl⟩
  have hbx : BoxL w0 px [.int .i64 x.tree, .int .i64 x.node, .int .i64 x.feat, .int .i64 x.mode, .int .u64 (x.val : Int), .int .i64 x.tru, .int .i64 x.fls, .bool x.trk] := by rw [hw0, hpx]; exact BoxL.of8 (by go_simp) (by go_simp) (by go_simp) (by go_simp) (by go_simp) (by go_simp) (by go_simp) (by go_simp) (by go_simp) (by go_simp) (by go_simp) (by go_simp) (by go_simp) (by go_simp) (by go_simp) (by go_simp)
  have HP : Hid (w.heap.size ≤ px) := Lib.hid (by omega)
  have HW := Lib.hid hw0; clear hw0
  go_enter Tryz.func87, Tryz.ntmps87
  go_upto_region 1 with fail
  rw [← HW.out, ← hpx]
  clear hpx HW
  replace hE := hE.below hbf
  replace hbe := hbe.kept hbf
  have ee0 := hbe.cell 0 _ rfl
  have ee1 := hbe.cell 1 _ rfl
  have ee2 := hbe.cell 2 _ rfl
  have ee3 := hbe.cell 3 _ rfl
  have ee4 := hbe.cell 4 _ rfl
  have ee5 := hbe.cell 5 _ rfl
  have ee6 := hbe.cell 6 _ rfl
  have ex0 := hbx.cell 0 _ rfl
  have ex1 := hbx.cell 1 _ rfl
  have ex2 := hbx.cell 2 _ rfl
  have ex3 := hbx.cell 3 _ rfl
  have ex4 := hbx.cell 4 _ rfl
  have ex5 := hbx.cell 5 _ rfl
  have ex6 := hbx.cell 6 _ rfl
  have ex7 := hbx.cell 7 _ rfl
  obtain ⟨q1, hq1⟩ : ∃ q, findE e.nodes x.tree x.tru = q := ⟨_, rfl⟩
  obtain ⟨q2, hq2⟩ : ∃ q, findE e.nodes x.tree x.fls = q := ⟨_, rfl⟩
  rw [hq1, hq2] at hr
  have hf1 := find_any _ e _ _ _ _ _ _ x.tree x.tru w0 hE _ _ (Lib.hid rfl) (Lib.hid rfl)
  have hf2 := fun W (hW : Below w0.heap.size w0 W) => find_any _ e _ _ _ _ _ _ x.tree x.fls W (hE.below hW) _ _ (Lib.hid rfl) (Lib.hid rfl)
  rw [hq1] at hf1
  rw [hq2] at hf2
  clear hq1 hq2
  generalize q1.isSome = b1 at hf1 hr
  generalize q2.isSome = b2 at hf2 hr
  generalize q1.getD 0 = g1 at hf1
  generalize q2.getD 0 = g2 at hf2
  go_upto_region 2 with (go_at_call 17; refine hf1.mono ?_; rintro e9 w1 ⟨rfl, hb1⟩; replace hf2 := hf2 w1 hb1; replace hbe := hbe.kept hb1; replace hbx := hbx.kept hb1)
  clear ee0 ee1 ee2 ee3 ee4 ee5 ee6 ex0 ex1 ex2 ex3 ex4 ex5 ex6 ex7
  have ee0 := hbe.cell 0 _ rfl
  have ee1 := hbe.cell 1 _ rfl
  have ee2 := hbe.cell 2 _ rfl
  have ee3 := hbe.cell 3 _ rfl
  have ee4 := hbe.cell 4 _ rfl
  have ee5 := hbe.cell 5 _ rfl
  have ee6 := hbe.cell 6 _ rfl
  have ex0 := hbx.cell 0 _ rfl
  have ex1 := hbx.cell 1 _ rfl
  have ex2 := hbx.cell 2 _ rfl
  have ex3 := hbx.cell 3 _ rfl
  have ex4 := hbx.cell 4 _ rfl
  have ex5 := hbx.cell 5 _ rfl
  have ex6 := hbx.cell 6 _ rfl
  have ex7 := hbx.cell 7 _ rfl
  go_upto_region 3 with (go_at_call 17; refine hf2.mono ?_; rintro e9 w2 ⟨rfl, hb2⟩; replace hbx := hbx.kept hb2)
  clear ee0 ee1 ee2 ee3 ee4 ee5 ee6 ex0 ex1 ex2 ex3 ex4 ex5 ex6 ex7
  have ex0 := hbx.cell 0 _ rfl
  have ex1 := hbx.cell 1 _ rfl
  have ex2 := hbx.cell 2 _ rfl
  have ex3 := hbx.cell 3 _ rfl
  have ex4 := hbx.cell 4 _ rfl
  have ex5 := hbx.cell 5 _ rfl
  have ex6 := hbx.cell 6 _ rfl
  have ex7 := hbx.cell 7 _ rfl
  replace hbf := hbf.trans ((hb1.trans (hb2.mono hb1.size)).mono hbf.size)
  subst hr
  by_cases q : x.tru = x.fls
  · have q3 : (x.tru != x.fls) = false := by simp [q]
    cases b1 <;> cases b2
    all_goals
      go_wp2_with fail
      go_ret
      exact ⟨ret_one (congrArg Value.bool (by simp [q])), hbf⟩
  · have q3 : (x.tru != x.fls) = true := by simp [q]
    cases b1 <;> cases b2
    all_goals
      go_wp2_with fail
      go_ret
      exact ⟨ret_one (congrArg Value.bool (by simp [q])), hbf⟩
theorem enter_kid1 : ∀ args w, (callFunc 87 args).run Tryz.prog w = .ok (.enter 87 args) w := enters_of Tryz.func87 (by kernel_rfl) rfl
set_option maxRecDepth 100000 in
set_option maxHeartbeats 1000000 in
theorem kid_any (v : Value) (e : EE) (bo : Option Addr) (bc : Nat) (no : Option Addr) (nc : Nat) (lo : Option Addr) (lc : Nat) (w : World) (h : EnsIs w v e bo bc no nc lo lc) (r : Bool) (hr : Hid (kidE e.nodes = r)) :
    Calls Tryz.prog 37 #[v] w fun e w' => e = .returned (.bool r) ∧ Below w.heap.size w w' := by
  obtain ⟨rfl, h1, h2, h4, h5, h3, h6, h7, h8, h9⟩ := h
  obtain ⟨w0, hw0⟩ : ∃ w0, w0 = (w.alloc (.cells #[.int .i64 e.feats, .int .i64 e.tgts, .string ⟨e.agg.toArray⟩, .string ⟨e.post.toArray⟩, .slice bo e.base.length bc, .slice no e.nodes.length nc, .slice lo e.leaves.length lc] 26)) := ⟨_, rfl⟩
  have hbf : Below w.heap.size w w0 := by rw [hw0]; exact ((Below.refl _ w).alloc (Nat.le_refl _) _)
  obtain ⟨pe, hpe⟩ : ∃ p, p = w.heap.size := ⟨_, rfl⟩
  have hbe : BoxL w0 pe [.int .i64 e.feats, .int .i64 e.tgts, .string ⟨e.agg.toArray⟩, .string ⟨e.post.toArray⟩, .slice bo e.base.length bc, .slice no e.nodes.length nc, .slice lo e.leaves.length lc] := by rw [hw0, hpe]; exact BoxL.of7 (by go_simp) (by go_simp) (by go_simp) (by go_simp) (by go_simp) (by go_simp) (by go_simp) (by go_simp) (by go_simp) (by go_simp) (by go_simp) (by go_simp) (by go_simp) (by go_simp)
  have HP : Hid (w.heap.size ≤ pe) := Lib.hid (by omega)
  have HW := Lib.hid hw0; clear hw0
  go_enter Tryz.func37, Tryz.ntmps37
  go_upto_region 1 with fail
  rw [← HW.out, ← hpe]
  clear hpe HW
  have hE : EnsIs w0 (ensV e bo bc no nc lo lc) e bo bc no nc lo lc := EnsIs.below ⟨rfl, h1, h2, h4, h5, h3, h6, h7, h8, h9⟩ hbf
  have ee0 := hbe.cell 0 _ rfl
  have ee1 := hbe.cell 1 _ rfl
  have ee2 := hbe.cell 2 _ rfl
  have ee3 := hbe.cell 3 _ rfl
  have ee4 := hbe.cell 4 _ rfl
  have ee5 := hbe.cell 5 _ rfl
  have ee6 := hbe.cell 6 _ rfl
  have hcall := every_any _ e _ _ _ _ _ _ false (fun n => (findE e.nodes n.tree n.tru).isSome && ((findE e.nodes n.tree n.fls).isSome && decide (n.tru ≠ n.fls))) 87 #[.pointer (some ⟨pe, 0, none⟩)] enter_kid1 w0 hE r (fun W x hx hb => kid1_any x e _ _ _ _ _ _ pe W (hE.below hb) (hbe.kept hb) _ rfl) hr
  go_wp2_with (go_at_call 31; refine hcall.mono ?_; rintro e9 w1 ⟨rfl, hb1⟩)
  go_ret
  exact ⟨rfl, hbf.trans (hb1.mono hbf.size)⟩
/-- Does a leaf's gift not stand where it may? -/
def leafB (e : EE) (l : EL) : Bool := match findE e.nodes l.tree l.node with | none => true | some k => decide (e.nodes[k]!.mode ≠ 7) || (decide (l.tgt < 0) || decide (e.tgts ≤ l.tgt))
theorem leafE_eq (e : EE) : leafE e = !e.leaves.any (leafB e) := rfl
set_option maxRecDepth 100000 in
set_option maxHeartbeats 1000000 in
theorem leaf1_any (x : EL) (e : EE) (bo : Option Addr) (bc : Nat) (no : Option Addr) (nc : Nat) (lo : Option Addr) (lc : Nat) (pe : Nat) (w : World) (hE : EnsIs w (ensV e bo bc no nc lo lc) e bo bc no nc lo lc) (hbe : BoxL w pe [.int .i64 e.feats, .int .i64 e.tgts, .string ⟨e.agg.toArray⟩, .string ⟨e.post.toArray⟩, .slice bo e.base.length bc, .slice no e.nodes.length nc, .slice lo e.leaves.length lc]) (r : Bool) (hr : leafB e x = r) :
    Calls Tryz.prog 90 #[.agg (elC x).toArray, .pointer (some ⟨pe, 0, none⟩)] w fun e w' => e = .returned (.bool r) ∧ Below w.heap.size w w' := by
  unfold elC
  obtain ⟨w0, hw0⟩ : ∃ w0, w0 = (w.alloc (.cells #[.int .i64 x.tree, .int .i64 x.node, .int .i64 x.tgt, .int .u64 (x.wt : Int)] 35)) := ⟨_, rfl⟩
  have hbf : Below w.heap.size w w0 := by rw [hw0]; exact ((Below.refl _ w).alloc (Nat.le_refl _) _)
  obtain ⟨px, hpx⟩ : ∃ p, p = w.heap.size := ⟨_, rfl⟩
  have hbx : BoxL w0 px [.int .i64 x.tree, .int .i64 x.node, .int .i64 x.tgt, .int .u64 (x.wt : Int)] := by rw [hw0, hpx]; exact BoxL.of4 (by go_simp) (by go_simp) (by go_simp) (by go_simp) (by go_simp) (by go_simp) (by go_simp) (by go_simp)
  have HP : Hid (w.heap.size ≤ px) := Lib.hid (by omega)
  have HW := Lib.hid hw0; clear hw0
  go_enter Tryz.func90, Tryz.ntmps90
  go_upto_region 1 with fail
  rw [← HW.out, ← hpx]
  clear hpx HW
  replace hE := hE.below hbf
  replace hbe := hbe.kept hbf
  have ee0 := hbe.cell 0 _ rfl
  have ee1 := hbe.cell 1 _ rfl
  have ee2 := hbe.cell 2 _ rfl
  have ee3 := hbe.cell 3 _ rfl
  have ee4 := hbe.cell 4 _ rfl
  have ee5 := hbe.cell 5 _ rfl
  have ee6 := hbe.cell 6 _ rfl
  have ex0 := hbx.cell 0 _ rfl
  have ex1 := hbx.cell 1 _ rfl
  have ex2 := hbx.cell 2 _ rfl
  have ex3 := hbx.cell 3 _ rfl
  obtain ⟨q1, hq1⟩ : ∃ q, findE e.nodes x.tree x.node = q := ⟨_, rfl⟩
  have hf1 := find_any _ e _ _ _ _ _ _ x.tree x.node w0 hE _ _ (Lib.hid rfl) (Lib.hid rfl)
  rw [hq1] at hf1
  have hq := Lib.hid hq1
  clear hq1
  cases q1 with
  | none =>
    have hr2 : r = true := by rw [← hr]; unfold leafB; rw [hq.out]
    subst hr2; clear hr
    go_upto_region 2 with (go_at_call 17; refine hf1.mono ?_; rintro e9 w1 ⟨rfl, hb1⟩)
    go_wp2_with fail
    go_ret
    exact ⟨rfl, hbf.trans (hb1.mono hbf.size)⟩
  | some k =>
    have hk := findE_lt hq.out
    have hr2 : (decide (e.nodes[k].mode ≠ 7) || (decide (x.tgt < 0) || decide (e.tgts ≤ x.tgt))) = r := by rw [← hr]; unfold leafB; rw [hq.out]; simp [getElem!_pos, hk]
    clear hr hq
    obtain ⟨b, off, rfl⟩ := hE.nodes.addr hk
    obtain ⟨y, hy⟩ : ∃ y, e.nodes[k] = y := ⟨_, rfl⟩
    rw [hy] at hr2
    go_upto_region 2 with (go_at_call 17; refine hf1.mono ?_; rintro e9 w1 ⟨rfl, hb1⟩; replace hbe := hbe.kept hb1; replace hbx := hbx.kept hb1)
    obtain ⟨c0, c1, c2, c3, c4, c5, c6, c7⟩ := RowC.c8 hE.nodes hb1 hk y hy
    clear hy hf1 ee0 ee1 ee2 ee3 ee4 ee5 ee6 ex0 ex1 ex2 ex3
    have hkz : (k : Int) < (e.nodes.length : Int) := by omega
    have hkz0 : (0 : Int) ≤ (k : Int) := by omega
    have ee0 := hbe.cell 0 _ rfl
    have ee1 := hbe.cell 1 _ rfl
    have ee2 := hbe.cell 2 _ rfl
    have ee3 := hbe.cell 3 _ rfl
    have ee4 := hbe.cell 4 _ rfl
    have ee5 := hbe.cell 5 _ rfl
    have ee6 := hbe.cell 6 _ rfl
    have ex0 := hbx.cell 0 _ rfl
    have ex1 := hbx.cell 1 _ rfl
    have ex2 := hbx.cell 2 _ rfl
    have ex3 := hbx.cell 3 _ rfl
    replace hbf := hbf.trans (hb1.mono hbf.size)
    subst hr2
    by_cases q : y.mode = 7
    · have q2 : (y.mode != 7) = false := by simp [q]
      by_cases q3 : x.tgt < 0
      · go_wp2_with fail
        go_ret
        exact ⟨ret_one (congrArg Value.bool (by simp [q, q3] <;> omega)), hbf⟩
      · go_wp2_with fail
        go_ret
        exact ⟨ret_one (congrArg Value.bool (by simp [q, q3] <;> omega)), hbf⟩
    · have q2 : (y.mode != 7) = true := by simp [q]
      go_wp2_with fail
      go_ret
      exact ⟨ret_one (congrArg Value.bool (by simp [q])), hbf⟩
theorem enter_leaf1 : ∀ args w, (callFunc 90 args).run Tryz.prog w = .ok (.enter 90 args) w := enters_of Tryz.func90 (by kernel_rfl) rfl
set_option maxRecDepth 100000 in
set_option maxHeartbeats 1000000 in
theorem leaf_any (v : Value) (e : EE) (bo : Option Addr) (bc : Nat) (no : Option Addr) (nc : Nat) (lo : Option Addr) (lc : Nat) (w : World) (h : EnsIs w v e bo bc no nc lo lc) (r : Bool) (hr : Hid (leafE e = r)) :
    Calls Tryz.prog 39 #[v] w fun e w' => e = .returned (.bool r) ∧ Below w.heap.size w w' := by
  obtain ⟨rfl, h1, h2, h4, h5, h3, h6, h7, h8, h9⟩ := h
  obtain ⟨w0, hw0⟩ : ∃ w0, w0 = (w.alloc (.cells #[.int .i64 e.feats, .int .i64 e.tgts, .string ⟨e.agg.toArray⟩, .string ⟨e.post.toArray⟩, .slice bo e.base.length bc, .slice no e.nodes.length nc, .slice lo e.leaves.length lc] 26)) := ⟨_, rfl⟩
  have hbf : Below w.heap.size w w0 := by rw [hw0]; exact ((Below.refl _ w).alloc (Nat.le_refl _) _)
  obtain ⟨pe, hpe⟩ : ∃ p, p = w.heap.size := ⟨_, rfl⟩
  have hbe : BoxL w0 pe [.int .i64 e.feats, .int .i64 e.tgts, .string ⟨e.agg.toArray⟩, .string ⟨e.post.toArray⟩, .slice bo e.base.length bc, .slice no e.nodes.length nc, .slice lo e.leaves.length lc] := by rw [hw0, hpe]; exact BoxL.of7 (by go_simp) (by go_simp) (by go_simp) (by go_simp) (by go_simp) (by go_simp) (by go_simp) (by go_simp) (by go_simp) (by go_simp) (by go_simp) (by go_simp) (by go_simp) (by go_simp)
  have HP : Hid (w.heap.size ≤ pe) := Lib.hid (by omega)
  have HW := Lib.hid hw0; clear hw0
  go_enter Tryz.func39, Tryz.ntmps39
  go_upto_region 1 with fail
  rw [← HW.out, ← hpe]
  clear hpe HW
  have hE : EnsIs w0 (ensV e bo bc no nc lo lc) e bo bc no nc lo lc := EnsIs.below ⟨rfl, h1, h2, h4, h5, h3, h6, h7, h8, h9⟩ hbf
  have ee0 := hbe.cell 0 _ rfl
  have ee1 := hbe.cell 1 _ rfl
  have ee2 := hbe.cell 2 _ rfl
  have ee3 := hbe.cell 3 _ rfl
  have ee4 := hbe.cell 4 _ rfl
  have ee5 := hbe.cell 5 _ rfl
  have ee6 := hbe.cell 6 _ rfl
  have hcall := cont_el (leafB e) 90 #[.pointer (some ⟨pe, 0, none⟩)] enter_leaf1 lo lc e.leaves w0 _ (fun W x hx hb => leaf1_any x e _ _ _ _ _ _ pe W (hE.below hb) (hbe.kept hb) _ rfl) hE.leaves h6 (Lib.hid rfl)
  have hr2 := hr.out
  rw [leafE_eq] at hr2
  generalize e.leaves.any (leafB e) = q at hr2 hcall
  subst hr2; clear hr
  go_wp2_with (go_at_call 40; refine hcall.mono ?_; rintro e9 w1 ⟨rfl, hb1⟩)
  go_ret
  exact ⟨by first | rfl | simp, hbf.trans (hb1.mono hbf.size)⟩
end Go.Proofs.YtieffhkfefimeaaGreat
