/-
  onnx: Same.
-/
import Derived.Test.YtieffhkfefimeaaGreatOnxL
namespace Go.Proofs.YtieffhkfefimeaaGreat
open Go.RowKit
set_option linter.unusedVariables false
set_option linter.unusedSimpArgs false

theorem ee_eq (e f : EE) : decide (e = f) = (decide (e.feats = f.feats) && (decide (e.tgts = f.tgts) && (decide (e.agg = f.agg) && (decide (e.post = f.post) && (decide (e.base = f.base) && (decide (e.nodes = f.nodes) && decide (e.leaves = f.leaves))))))) := by
  obtain ⟨a1, a2, a3, a4, a5, a6, a7⟩ := e; obtain ⟨b1, b2, b3, b4, b5, b6, b7⟩ := f; rw [Bool.eq_iff_iff]; simp
set_option maxRecDepth 100000 in
set_option maxHeartbeats 4000000 in
/-- Same. -/
theorem same_any (v : Value) (e : EE) (bo : Option Addr) (bc : Nat) (no : Option Addr) (nc : Nat) (lo : Option Addr) (lc : Nat) (v2 : Value) (f : EE) (bo2 : Option Addr) (bc2 : Nat) (no2 : Option Addr) (nc2 : Nat) (lo2 : Option Addr) (lc2 : Nat) (w : World) (h : EnsIs w v e bo bc no nc lo lc) (h' : EnsIs w v2 f bo2 bc2 no2 nc2 lo2 lc2) (r : Bool) (hr : Hid (decide (e = f) = r)) :
    Calls Tryz.prog 9 #[v, v2] w fun e w' => e = .returned (.bool r) ∧ Below w.heap.size w w' := by
  obtain ⟨rfl, h1, h2, h4, h5, h3, h6, h7, h8, h9⟩ := h
  obtain ⟨rfl, g1, g2, g4, g5, g3, g6, g7, g8, g9⟩ := h'
  obtain ⟨k1, hk1⟩ : ∃ b, decide (e.base = f.base) = b := ⟨_, rfl⟩
  obtain ⟨k2, hk2⟩ : ∃ b, decide (e.nodes = f.nodes) = b := ⟨_, rfl⟩
  obtain ⟨k3, hk3⟩ : ∃ b, decide (e.leaves = f.leaves) = b := ⟨_, rfl⟩
  have hr2 : r = (decide (e.feats = f.feats) && (decide (e.tgts = f.tgts) && (decide (e.agg = f.agg) && (decide (e.post = f.post) && (k1 && (k2 && k3)))))) := by rw [← hr.out, ← hk1, ← hk2, ← hk3]; exact ee_eq e f
  have Hk1 := Lib.hid hk1; have Hk2 := Lib.hid hk2; have Hk3 := Lib.hid hk3
  clear hk1 hk2 hk3 hr
  obtain ⟨w0, hw0⟩ : ∃ w0, w0 = ((w.alloc (.cells #[.int .i64 e.feats, .int .i64 e.tgts, .string ⟨e.agg.toArray⟩, .string ⟨e.post.toArray⟩, .slice bo e.base.length bc, .slice no e.nodes.length nc, .slice lo e.leaves.length lc] 26)).alloc (.cells #[.int .i64 f.feats, .int .i64 f.tgts, .string ⟨f.agg.toArray⟩, .string ⟨f.post.toArray⟩, .slice bo2 f.base.length bc2, .slice no2 f.nodes.length nc2, .slice lo2 f.leaves.length lc2] 26)) := ⟨_, rfl⟩
  have hbf : Below w.heap.size w w0 := by rw [hw0]; exact (((Below.refl _ w).alloc (Nat.le_refl _) _).alloc (by simp <;> omega) _)
  obtain ⟨pe, hpe⟩ : ∃ p, p = w.heap.size := ⟨_, rfl⟩
  have hbe : BoxL w0 pe [.int .i64 e.feats, .int .i64 e.tgts, .string ⟨e.agg.toArray⟩, .string ⟨e.post.toArray⟩, .slice bo e.base.length bc, .slice no e.nodes.length nc, .slice lo e.leaves.length lc] := by rw [hw0, hpe]; exact BoxL.of7 (by go_simp) (by go_simp) (by go_simp) (by go_simp) (by go_simp) (by go_simp) (by go_simp) (by go_simp) (by go_simp) (by go_simp) (by go_simp) (by go_simp) (by go_simp) (by go_simp)
  obtain ⟨pg, hpg⟩ : ∃ p, p = w.heap.size + 1 := ⟨_, rfl⟩
  have hbg : BoxL w0 pg [.int .i64 f.feats, .int .i64 f.tgts, .string ⟨f.agg.toArray⟩, .string ⟨f.post.toArray⟩, .slice bo2 f.base.length bc2, .slice no2 f.nodes.length nc2, .slice lo2 f.leaves.length lc2] := by rw [hw0, hpg]; exact BoxL.of7 (by go_simp) (by go_simp) (by go_simp) (by go_simp) (by go_simp) (by go_simp) (by go_simp) (by go_simp) (by go_simp) (by go_simp) (by go_simp) (by go_simp) (by go_simp) (by go_simp)
  have HP : Hid (w.heap.size ≤ pe ∧ pe < pg) := Lib.hid (by omega)
  have HW := Lib.hid hw0; clear hw0
  go_enter Tryz.func9, Tryz.ntmps9
  go_upto_region 1 with fail
  rw [← HW.out, ← hpg, ← hpe]
  clear hpe hpg HW
  have ee0 := hbe.cell 0 _ rfl
  have ee1 := hbe.cell 1 _ rfl
  have ee2 := hbe.cell 2 _ rfl
  have ee3 := hbe.cell 3 _ rfl
  have ee4 := hbe.cell 4 _ rfl
  have ee5 := hbe.cell 5 _ rfl
  have ee6 := hbe.cell 6 _ rfl
  have eg0 := hbg.cell 0 _ rfl
  have eg1 := hbg.cell 1 _ rfl
  have eg2 := hbg.cell 2 _ rfl
  have eg3 := hbg.cell 3 _ rfl
  have eg4 := hbg.cell 4 _ rfl
  have eg5 := hbg.cell 5 _ rfl
  have eg6 := hbg.cell 6 _ rfl
  have hP := eq_pat bo bo2 bc bc2 e.base f.base w0 k1 (h1.below hbf) (g1.below hbf) h5 g5 Hk1
  have hN := fun W (hW : Below w0.heap.size w0 W) => eq_en no no2 nc nc2 e.nodes f.nodes W k2 ((h2.below (B := 0) hbf).below (B := 0) hW) ((g2.below (B := 0) hbf).below (B := 0) hW) h3 g3 Hk2
  have hL := fun W (hW : Below w0.heap.size w0 W) => eq_el lo lo2 lc lc2 e.leaves f.leaves W k3 ((h4.below (B := 0) hbf).below (B := 0) hW) ((g4.below (B := 0) hbf).below (B := 0) hW) h6 g6 Hk3
  clear Hk1 Hk2 Hk3
  have hbe0 := hbe
  have hbg0 := hbg
  have hr3 := Lib.hid hr2
  clear hr2
  by_cases q0 : e.feats = f.feats
  case neg =>
    have z0 : (e.feats == f.feats) = false := by simp [q0]
    have hr4 : r = false := by rw [hr3.out]; simp [q0]
    subst hr4
    clear q0
    go_wp2_with fail
    go_ret
    exact ⟨rfl, hbf⟩
  have z0 : (e.feats == f.feats) = true := by simp [q0]
  have Q0 := Lib.hid q0
  clear q0
  by_cases q1 : e.tgts = f.tgts
  case neg =>
    have z1 : (e.tgts == f.tgts) = false := by simp [q1]
    have hr4 : r = false := by rw [hr3.out]; simp [Q0.out, q1]
    subst hr4
    clear q1
    go_wp2_with fail
    go_ret
    exact ⟨rfl, hbf⟩
  have z1 : (e.tgts == f.tgts) = true := by simp [q1]
  have Q1 := Lib.hid q1
  clear q1
  by_cases q2 : e.agg = f.agg
  case neg =>
    have z2 : (e.agg == f.agg) = false := by simp [q2]
    have hr4 : r = false := by rw [hr3.out]; simp [Q0.out, Q1.out, q2]
    subst hr4
    clear q2
    go_wp2_with fail
    go_ret
    exact ⟨rfl, hbf⟩
  have z2 : (e.agg == f.agg) = true := by simp [q2]
  have Q2 := Lib.hid q2
  clear q2
  by_cases q3 : e.post = f.post
  case neg =>
    have z3 : (e.post == f.post) = false := by simp [q3]
    have hr4 : r = false := by rw [hr3.out]; simp [Q0.out, Q1.out, Q2.out, q3]
    subst hr4
    clear q3
    go_wp2_with fail
    go_ret
    exact ⟨rfl, hbf⟩
  have z3 : (e.post == f.post) = true := by simp [q3]
  have Q3 := Lib.hid q3
  clear q3
  have hr4 : r = (k1 && (k2 && k3)) := by rw [hr3.out, Q0.out, Q1.out, Q2.out, Q3.out]; simp
  subst hr4
  clear hr3
  cases k1
  case false =>
    go_wp2_with (go_at_call 45; refine hP.mono ?_; rintro e9 w1 ⟨rfl, hb1⟩; replace hbe := hbe0.kept hb1; replace hbg := hbg0.kept hb1; clear ee0 ee1 ee2 ee3 ee4 ee5 ee6 eg0 eg1 eg2 eg3 eg4 eg5 eg6; have ee0 := hbe.cell 0 _ rfl; have ee1 := hbe.cell 1 _ rfl; have ee2 := hbe.cell 2 _ rfl; have ee3 := hbe.cell 3 _ rfl; have ee4 := hbe.cell 4 _ rfl; have ee5 := hbe.cell 5 _ rfl; have ee6 := hbe.cell 6 _ rfl; have eg0 := hbg.cell 0 _ rfl; have eg1 := hbg.cell 1 _ rfl; have eg2 := hbg.cell 2 _ rfl; have eg3 := hbg.cell 3 _ rfl; have eg4 := hbg.cell 4 _ rfl; have eg5 := hbg.cell 5 _ rfl; have eg6 := hbg.cell 6 _ rfl)
    go_ret
    exact ⟨rfl, hbf.trans (hb1.mono hbf.size)⟩
  cases k2
  case false =>
    go_wp2_with (first | (go_at_call 45; refine hP.mono ?_; rintro e9 w1 ⟨rfl, hb1⟩; replace hbe := hbe0.kept hb1; replace hbg := hbg0.kept hb1; clear ee0 ee1 ee2 ee3 ee4 ee5 ee6 eg0 eg1 eg2 eg3 eg4 eg5 eg6; have ee0 := hbe.cell 0 _ rfl; have ee1 := hbe.cell 1 _ rfl; have ee2 := hbe.cell 2 _ rfl; have ee3 := hbe.cell 3 _ rfl; have ee4 := hbe.cell 4 _ rfl; have ee5 := hbe.cell 5 _ rfl; have ee6 := hbe.cell 6 _ rfl; have eg0 := hbg.cell 0 _ rfl; have eg1 := hbg.cell 1 _ rfl; have eg2 := hbg.cell 2 _ rfl; have eg3 := hbg.cell 3 _ rfl; have eg4 := hbg.cell 4 _ rfl; have eg5 := hbg.cell 5 _ rfl; have eg6 := hbg.cell 6 _ rfl) | (go_at_call 46; refine (hN _ hb1).mono ?_; rintro e9 w2 ⟨rfl, hb2⟩; replace hb2 := hb1.trans (hb2.mono hb1.size); replace hbe := hbe0.kept hb2; replace hbg := hbg0.kept hb2; clear ee0 ee1 ee2 ee3 ee4 ee5 ee6 eg0 eg1 eg2 eg3 eg4 eg5 eg6; have ee0 := hbe.cell 0 _ rfl; have ee1 := hbe.cell 1 _ rfl; have ee2 := hbe.cell 2 _ rfl; have ee3 := hbe.cell 3 _ rfl; have ee4 := hbe.cell 4 _ rfl; have ee5 := hbe.cell 5 _ rfl; have ee6 := hbe.cell 6 _ rfl; have eg0 := hbg.cell 0 _ rfl; have eg1 := hbg.cell 1 _ rfl; have eg2 := hbg.cell 2 _ rfl; have eg3 := hbg.cell 3 _ rfl; have eg4 := hbg.cell 4 _ rfl; have eg5 := hbg.cell 5 _ rfl; have eg6 := hbg.cell 6 _ rfl))
    go_ret
    exact ⟨rfl, hbf.trans (hb2.mono hbf.size)⟩
  go_wp2_with (first | (go_at_call 45; refine hP.mono ?_; rintro e9 w1 ⟨rfl, hb1⟩; replace hbe := hbe0.kept hb1; replace hbg := hbg0.kept hb1; clear ee0 ee1 ee2 ee3 ee4 ee5 ee6 eg0 eg1 eg2 eg3 eg4 eg5 eg6; have ee0 := hbe.cell 0 _ rfl; have ee1 := hbe.cell 1 _ rfl; have ee2 := hbe.cell 2 _ rfl; have ee3 := hbe.cell 3 _ rfl; have ee4 := hbe.cell 4 _ rfl; have ee5 := hbe.cell 5 _ rfl; have ee6 := hbe.cell 6 _ rfl; have eg0 := hbg.cell 0 _ rfl; have eg1 := hbg.cell 1 _ rfl; have eg2 := hbg.cell 2 _ rfl; have eg3 := hbg.cell 3 _ rfl; have eg4 := hbg.cell 4 _ rfl; have eg5 := hbg.cell 5 _ rfl; have eg6 := hbg.cell 6 _ rfl) | (go_at_call 46; refine (hN _ hb1).mono ?_; rintro e9 w2 ⟨rfl, hb2⟩; replace hb2 := hb1.trans (hb2.mono hb1.size); replace hbe := hbe0.kept hb2; replace hbg := hbg0.kept hb2; clear ee0 ee1 ee2 ee3 ee4 ee5 ee6 eg0 eg1 eg2 eg3 eg4 eg5 eg6; have ee0 := hbe.cell 0 _ rfl; have ee1 := hbe.cell 1 _ rfl; have ee2 := hbe.cell 2 _ rfl; have ee3 := hbe.cell 3 _ rfl; have ee4 := hbe.cell 4 _ rfl; have ee5 := hbe.cell 5 _ rfl; have ee6 := hbe.cell 6 _ rfl; have eg0 := hbg.cell 0 _ rfl; have eg1 := hbg.cell 1 _ rfl; have eg2 := hbg.cell 2 _ rfl; have eg3 := hbg.cell 3 _ rfl; have eg4 := hbg.cell 4 _ rfl; have eg5 := hbg.cell 5 _ rfl; have eg6 := hbg.cell 6 _ rfl) | (go_at_call 47; refine (hL _ hb2).mono ?_; rintro e9 w3 ⟨rfl, hb3⟩; replace hb3 := hb2.trans (hb3.mono hb2.size)))
  go_ret
  exact ⟨by first | rfl | simp, hbf.trans (hb3.mono hbf.size)⟩
end Go.Proofs.YtieffhkfefimeaaGreat
