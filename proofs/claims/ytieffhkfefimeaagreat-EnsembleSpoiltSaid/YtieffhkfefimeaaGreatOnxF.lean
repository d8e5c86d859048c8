/-
  onnx: the functions handed to every, and what they serve.
-/
import Derived.Test.YtieffhkfefimeaaGreatOnxE
import Derived.Test.YtieffhkfefimeaaGreatSeqA
namespace Go.Proofs.YtieffhkfefimeaaGreat
open Go.RowKit
set_option linter.unusedVariables false
set_option linter.unusedSimpArgs false

theorem band_true {a b : Bool} (h : a = true) : (a && b) = b := by rw [h, Bool.true_and]
theorem band_false {a b : Bool} (h : a = false) : (a && b) = false := by rw [h, Bool.false_and]
set_option maxRecDepth 100000 in
set_option maxHeartbeats 1000000 in
theorem check1_any (x : EN) (w : World) (r : Bool) (hr : decide (1 ≤ x.mode ∧ x.mode ≤ 7) = r) :
    Calls Tryz.prog 32 #[.agg (enC x).toArray] w fun e w' => e = .returned (.bool r) ∧ Below w.heap.size w w' := by
  unfold enC
  have hM := fun W => modeName_any x.mode W _ (Lib.hid rfl)
  have hN := modeName_nil x.mode
  have hN2 := Lib.hid hN; clear hN
  generalize modeName x.mode = s at hM hN2
  subst hr
  obtain ⟨w0, hw0⟩ : ∃ w0, w0 = (w.alloc (.cells #[.int .i64 x.tree, .int .i64 x.node, .int .i64 x.feat, .int .i64 x.mode, .int .u64 (x.val : Int), .int .i64 x.tru, .int .i64 x.fls, .bool x.trk] 33)) := ⟨_, rfl⟩
  have hbf : Below w.heap.size w w0 := by rw [hw0]; exact ((Below.refl _ w).alloc (Nat.le_refl _) _)
  obtain ⟨px, hpx⟩ : ∃ p, p = w.heap.size := ⟨_, rfl⟩
  have hbx : BoxL w0 px [.int .i64 x.tree, .int .i64 x.node, .int .i64 x.feat, .int .i64 x.mode, .int .u64 (x.val : Int), .int .i64 x.tru, .int .i64 x.fls, .bool x.trk] := by rw [hw0, hpx]; exact BoxL.of8 (by go_simp) (by go_simp) (by go_simp) (by go_simp) (by go_simp) (by go_simp) (by go_simp) (by go_simp) (by go_simp) (by go_simp) (by go_simp) (by go_simp) (by go_simp) (by go_simp) (by go_simp) (by go_simp)
  have HP : Hid (w.heap.size ≤ px) := Lib.hid (by omega)
  have HW := Lib.hid hw0; clear hw0
  go_enter Tryz.func32, Tryz.ntmps32
  go_upto_region 1 with fail
  rw [← HW.out, ← hpx]
  clear hpx HW
  have ex0 := hbx.cell 0 _ rfl
  have ex1 := hbx.cell 1 _ rfl
  have ex2 := hbx.cell 2 _ rfl
  have ex3 := hbx.cell 3 _ rfl
  have ex4 := hbx.cell 4 _ rfl
  have ex5 := hbx.cell 5 _ rfl
  have ex6 := hbx.cell 6 _ rfl
  have ex7 := hbx.cell 7 _ rfl
  go_wp2_with (go_at_call 26; refine (hM _).mono ?_; rintro e w1 ⟨rfl, hb1⟩)
  go_ret
  exact ⟨ret_one (congrArg Value.bool (by rw [← hN2.out]; cases s <;> simp)), hbf.trans (hb1.mono hbf.size)⟩
theorem enter_check1 : ∀ args w, (callFunc 32 args).run Tryz.prog w = .ok (.enter 32 args) w := enters_of Tryz.func32 (by kernel_rfl) rfl
set_option maxRecDepth 100000 in
set_option maxHeartbeats 1000000 in
theorem check2_any (x : EN) (ft : Int) (pf : Nat) (w : World) (hpf : w.cell? ⟨pf, 0, none⟩ = some (.int .i64 ft)) :
    Calls Tryz.prog 33 #[.agg (enC x).toArray, .pointer (some ⟨pf, 0, none⟩)] w fun e w' => e = .returned (.bool (decide (0 ≤ x.feat ∧ x.feat < ft))) ∧ Below w.heap.size w w' := by
  unfold enC
  obtain ⟨w0, hw0⟩ : ∃ w0, w0 = (w.alloc (.cells #[.int .i64 x.tree, .int .i64 x.node, .int .i64 x.feat, .int .i64 x.mode, .int .u64 (x.val : Int), .int .i64 x.tru, .int .i64 x.fls, .bool x.trk] 33)) := ⟨_, rfl⟩
  have hbf : Below w.heap.size w w0 := by rw [hw0]; exact ((Below.refl _ w).alloc (Nat.le_refl _) _)
  obtain ⟨px, hpx⟩ : ∃ p, p = w.heap.size := ⟨_, rfl⟩
  have hbx : BoxL w0 px [.int .i64 x.tree, .int .i64 x.node, .int .i64 x.feat, .int .i64 x.mode, .int .u64 (x.val : Int), .int .i64 x.tru, .int .i64 x.fls, .bool x.trk] := by rw [hw0, hpx]; exact BoxL.of8 (by go_simp) (by go_simp) (by go_simp) (by go_simp) (by go_simp) (by go_simp) (by go_simp) (by go_simp) (by go_simp) (by go_simp) (by go_simp) (by go_simp) (by go_simp) (by go_simp) (by go_simp) (by go_simp)
  have HP : Hid (w.heap.size ≤ px) := Lib.hid (by omega)
  have HW := Lib.hid hw0; clear hw0
  go_enter Tryz.func33, Tryz.ntmps33
  go_upto_region 1 with fail
  rw [← HW.out, ← hpx]
  clear hpx HW
  have ex0 := hbx.cell 0 _ rfl
  have ex1 := hbx.cell 1 _ rfl
  have ex2 := hbx.cell 2 _ rfl
  have ex3 := hbx.cell 3 _ rfl
  have ex4 := hbx.cell 4 _ rfl
  have ex5 := hbx.cell 5 _ rfl
  have ex6 := hbx.cell 6 _ rfl
  have ex7 := hbx.cell 7 _ rfl
  replace hpf := (hbf.cell (p := ⟨pf, 0, none⟩) (World.block_lt_of_cell? w ⟨pf, 0, none⟩ hpf)).trans hpf
  by_cases q : 0 ≤ x.feat
  · by_cases q2 : x.feat < ft
    all_goals
      go_wp2_with fail
      go_ret
      exact ⟨ret_one (congrArg Value.bool (by simp [q, q2] <;> omega)), hbf⟩
  · go_wp2_with fail
    go_ret
    exact ⟨ret_one (congrArg Value.bool (by simp [q] <;> omega)), hbf⟩
theorem enter_check2 : ∀ args w, (callFunc 33 args).run Tryz.prog w = .ok (.enter 33 args) w := enters_of Tryz.func33 (by kernel_rfl) rfl
set_option maxRecDepth 100000 in
set_option maxHeartbeats 1000000 in
theorem check3_any (x : EN) (w : World) (r : Bool) (hv : x.val < 18446744073709551616) (hr : (finP x.val) = r) :
    Calls Tryz.prog 34 #[.agg (enC x).toArray] w fun e w' => e = .returned (.bool r) ∧ Below w.heap.size w w' := by
  unfold enC
  have hF := fun W => finite_any x.val _ W hv (Lib.hid rfl)
  subst hr
  generalize finP x.val = s at hF ⊢
  obtain ⟨w0, hw0⟩ : ∃ w0, w0 = (w.alloc (.cells #[.int .i64 x.tree, .int .i64 x.node, .int .i64 x.feat, .int .i64 x.mode, .int .u64 (x.val : Int), .int .i64 x.tru, .int .i64 x.fls, .bool x.trk] 33)) := ⟨_, rfl⟩
  have hbf : Below w.heap.size w w0 := by rw [hw0]; exact ((Below.refl _ w).alloc (Nat.le_refl _) _)
  obtain ⟨px, hpx⟩ : ∃ p, p = w.heap.size := ⟨_, rfl⟩
  have hbx : BoxL w0 px [.int .i64 x.tree, .int .i64 x.node, .int .i64 x.feat, .int .i64 x.mode, .int .u64 (x.val : Int), .int .i64 x.tru, .int .i64 x.fls, .bool x.trk] := by rw [hw0, hpx]; exact BoxL.of8 (by go_simp) (by go_simp) (by go_simp) (by go_simp) (by go_simp) (by go_simp) (by go_simp) (by go_simp) (by go_simp) (by go_simp) (by go_simp) (by go_simp) (by go_simp) (by go_simp) (by go_simp) (by go_simp)
  have HP : Hid (w.heap.size ≤ px) := Lib.hid (by omega)
  have HW := Lib.hid hw0; clear hw0
  go_enter Tryz.func34, Tryz.ntmps34
  go_upto_region 1 with fail
  rw [← HW.out, ← hpx]
  clear hpx HW
  have ex0 := hbx.cell 0 _ rfl
  have ex1 := hbx.cell 1 _ rfl
  have ex2 := hbx.cell 2 _ rfl
  have ex3 := hbx.cell 3 _ rfl
  have ex4 := hbx.cell 4 _ rfl
  have ex5 := hbx.cell 5 _ rfl
  have ex6 := hbx.cell 6 _ rfl
  have ex7 := hbx.cell 7 _ rfl
  go_wp2_with (go_at_call 35; refine (hF _).mono ?_; rintro e w1 ⟨rfl, hb1⟩)
  go_ret
  exact ⟨by first | rfl | simp, hbf.trans (hb1.mono hbf.size)⟩
theorem enter_check3 : ∀ args w, (callFunc 34 args).run Tryz.prog w = .ok (.enter 34 args) w := enters_of Tryz.func34 (by kernel_rfl) rfl
set_option maxRecDepth 100000 in
set_option maxHeartbeats 1000000 in
theorem check5_any (x : EL) (w : World) (r : Bool) (hv : x.wt < 18446744073709551616) (hr : (!finP x.wt) = r) :
    Calls Tryz.prog 41 #[.agg (elC x).toArray] w fun e w' => e = .returned (.bool r) ∧ Below w.heap.size w w' := by
  unfold elC
  have hF := fun W => finite_any x.wt _ W hv (Lib.hid rfl)
  subst hr
  generalize finP x.wt = s at hF ⊢
  obtain ⟨w0, hw0⟩ : ∃ w0, w0 = (w.alloc (.cells #[.int .i64 x.tree, .int .i64 x.node, .int .i64 x.tgt, .int .u64 (x.wt : Int)] 35)) := ⟨_, rfl⟩
  have hbf : Below w.heap.size w w0 := by rw [hw0]; exact ((Below.refl _ w).alloc (Nat.le_refl _) _)
  obtain ⟨px, hpx⟩ : ∃ p, p = w.heap.size := ⟨_, rfl⟩
  have hbx : BoxL w0 px [.int .i64 x.tree, .int .i64 x.node, .int .i64 x.tgt, .int .u64 (x.wt : Int)] := by rw [hw0, hpx]; exact BoxL.of4 (by go_simp) (by go_simp) (by go_simp) (by go_simp) (by go_simp) (by go_simp) (by go_simp) (by go_simp)
  have HP : Hid (w.heap.size ≤ px) := Lib.hid (by omega)
  have HW := Lib.hid hw0; clear hw0
  go_enter Tryz.func41, Tryz.ntmps41
  go_upto_region 1 with fail
  rw [← HW.out, ← hpx]
  clear hpx HW
  have ex0 := hbx.cell 0 _ rfl
  have ex1 := hbx.cell 1 _ rfl
  have ex2 := hbx.cell 2 _ rfl
  have ex3 := hbx.cell 3 _ rfl
  go_wp2_with (go_at_call 35; refine (hF _).mono ?_; rintro e w1 ⟨rfl, hb1⟩)
  go_ret
  exact ⟨by first | rfl | simp, hbf.trans (hb1.mono hbf.size)⟩
theorem enter_check5 : ∀ args w, (callFunc 41 args).run Tryz.prog w = .ok (.enter 41 args) w := enters_of Tryz.func41 (by kernel_rfl) rfl
set_option maxRecDepth 100000 in
set_option maxHeartbeats 1000000 in
theorem check4_any (x : EN) (w : World) (r : Bool) (hv : x.val < 18446744073709551616) (hr : decide (x.val < 4294967296) = r) :
    Calls Tryz.prog 36 #[.agg (enC x).toArray] w fun e w' => e = .returned (.bool r) ∧ Below w.heap.size w w' := by
  unfold enC
  obtain ⟨w0, hw0⟩ : ∃ w0, w0 = (w.alloc (.cells #[.int .i64 x.tree, .int .i64 x.node, .int .i64 x.feat, .int .i64 x.mode, .int .u64 (x.val : Int), .int .i64 x.tru, .int .i64 x.fls, .bool x.trk] 33)) := ⟨_, rfl⟩
  have hbf : Below w.heap.size w w0 := by rw [hw0]; exact ((Below.refl _ w).alloc (Nat.le_refl _) _)
  obtain ⟨px, hpx⟩ : ∃ p, p = w.heap.size := ⟨_, rfl⟩
  have hbx : BoxL w0 px [.int .i64 x.tree, .int .i64 x.node, .int .i64 x.feat, .int .i64 x.mode, .int .u64 (x.val : Int), .int .i64 x.tru, .int .i64 x.fls, .bool x.trk] := by rw [hw0, hpx]; exact BoxL.of8 (by go_simp) (by go_simp) (by go_simp) (by go_simp) (by go_simp) (by go_simp) (by go_simp) (by go_simp) (by go_simp) (by go_simp) (by go_simp) (by go_simp) (by go_simp) (by go_simp) (by go_simp) (by go_simp)
  have HP : Hid (w.heap.size ≤ px) := Lib.hid (by omega)
  have HW := Lib.hid hw0; clear hw0
  go_enter Tryz.func36, Tryz.ntmps36
  go_upto_region 1 with fail
  rw [← HW.out, ← hpx]
  clear hpx HW
  have ex0 := hbx.cell 0 _ rfl
  have ex1 := hbx.cell 1 _ rfl
  have ex2 := hbx.cell 2 _ rfl
  have ex3 := hbx.cell 3 _ rfl
  have ex4 := hbx.cell 4 _ rfl
  have ex5 := hbx.cell 5 _ rfl
  have ex6 := hbx.cell 6 _ rfl
  have ex7 := hbx.cell 7 _ rfl
  have hz : Hid ((((x.val : Int) / 4294967296) == 0) = r) := Lib.hid (by rw [← hr, Bool.eq_iff_iff]; simp; omega)
  clear hr
  go_wp2_with fail
  go_ret
  exact ⟨ret_one (congrArg Value.bool hz.out), hbf⟩
theorem enter_check4 : ∀ args w, (callFunc 36 args).run Tryz.prog w = .ok (.enter 36 args) w := enters_of Tryz.func36 (by kernel_rfl) rfl
set_option maxRecDepth 100000 in
set_option maxHeartbeats 1000000 in
theorem every1_any (x : EN) (all b : Bool) (g : Nat) (lb : Array Value) (eg : ∀ args w, (callFunc g args).run Tryz.prog w = .ok (.enter g args) w) (pa pg : Nat) (w : World) (ha : w.cell? ⟨pa, 0, none⟩ = some (.bool all)) (hg : w.cell? ⟨pg, 0, none⟩ = some (.func (.func g) #[] lb))
    (hp : ∀ W, Below w.heap.size w W → Calls Tryz.prog g (#[.agg (enC x).toArray] ++ lb) W fun e w' => e = .returned (.bool b) ∧ Below W.heap.size W w') :
    Calls Tryz.prog 84 #[.agg (enC x).toArray, .pointer (some ⟨pa, 0, none⟩), .pointer (some ⟨pg, 0, none⟩)] w fun e w' => e = .returned (.bool ((all || decide (x.mode ≠ 7)) && !b)) ∧ Below w.heap.size w w' := by
  unfold enC
  obtain ⟨w0, hw0⟩ : ∃ w0, w0 = (w.alloc (.cells #[.int .i64 x.tree, .int .i64 x.node, .int .i64 x.feat, .int .i64 x.mode, .int .u64 (x.val : Int), .int .i64 x.tru, .int .i64 x.fls, .bool x.trk] 33)) := ⟨_, rfl⟩
  have hbf : Below w.heap.size w w0 := by rw [hw0]; exact ((Below.refl _ w).alloc (Nat.le_refl _) _)
  obtain ⟨px, hpx⟩ : ∃ p, p = w.heap.size := ⟨_, rfl⟩
  have hbx : BoxL w0 px [.int .i64 x.tree, .int .i64 x.node, .int .i64 x.feat, .int .i64 x.mode, .int .u64 (x.val : Int), .int .i64 x.tru, .int .i64 x.fls, .bool x.trk] := by rw [hw0, hpx]; exact BoxL.of8 (by go_simp) (by go_simp) (by go_simp) (by go_simp) (by go_simp) (by go_simp) (by go_simp) (by go_simp) (by go_simp) (by go_simp) (by go_simp) (by go_simp) (by go_simp) (by go_simp) (by go_simp) (by go_simp)
  have HP : Hid (w.heap.size ≤ px) := Lib.hid (by omega)
  have HW := Lib.hid hw0; clear hw0
  go_enter Tryz.func84, Tryz.ntmps84
  go_upto_region 1 with fail
  rw [← HW.out, ← hpx]
  clear hpx HW
  have ex0 := hbx.cell 0 _ rfl
  have ex1 := hbx.cell 1 _ rfl
  have ex2 := hbx.cell 2 _ rfl
  have ex3 := hbx.cell 3 _ rfl
  have ex4 := hbx.cell 4 _ rfl
  have ex5 := hbx.cell 5 _ rfl
  have ex6 := hbx.cell 6 _ rfl
  have ex7 := hbx.cell 7 _ rfl
  have la := World.block_lt_of_cell? w ⟨pa, 0, none⟩ ha
  have lg := World.block_lt_of_cell? w ⟨pg, 0, none⟩ hg
  replace ha := (hbf.cell (p := ⟨pa, 0, none⟩) la).trans ha
  replace hg := (hbf.cell (p := ⟨pg, 0, none⟩) lg).trans hg
  replace hp := hp w0 hbf
  have ex := Lib.hid (show [.int .i64 x.tree, .int .i64 x.node, .int .i64 x.feat, .int .i64 x.mode, .int .u64 (x.val : Int), .int .i64 x.tru, .int .i64 x.fls, .bool x.trk] = enC x from rfl)
  unfold enC at hp
  cases all with
  | true =>
    go_wp2_with (go_at_fn g; refine hp.mono ?_; rintro e w1 ⟨rfl, hb1⟩)
    go_ret
    exact ⟨by first | rfl | simp, hbf.trans (hb1.mono hbf.size)⟩
  | false =>
    by_cases q : x.mode = 7
    · have q2 : (x.mode != 7) = false := by simp [q]
      go_wp2_with fail
      go_ret
      exact ⟨ret_one (congrArg Value.bool (by simp [q])), hbf⟩
    · have q2 : (x.mode != 7) = true := by simp [q]
      go_wp2_with (go_at_fn g; refine hp.mono ?_; rintro e w1 ⟨rfl, hb1⟩)
      go_ret
      exact ⟨ret_one (congrArg Value.bool (by simp [q])), hbf.trans (hb1.mono hbf.size)⟩
theorem enter_every1 : ∀ args w, (callFunc 84 args).run Tryz.prog w = .ok (.enter 84 args) w := enters_of Tryz.func84 (by kernel_rfl) rfl
set_option maxRecDepth 100000 in
set_option maxHeartbeats 1000000 in
/-- every. -/
theorem every_any (v : Value) (e : EE) (bo : Option Addr) (bc : Nat) (no : Option Addr) (nc : Nat) (lo : Option Addr) (lc : Nat) (all : Bool) (p : EN → Bool) (g : Nat) (lb : Array Value) (eg : ∀ args w, (callFunc g args).run Tryz.prog w = .ok (.enter g args) w) (w : World) (h : EnsIs w v e bo bc no nc lo lc) (r : Bool)
    (hp : PredOn Tryz.prog g lb (fun x => Value.agg (enC x).toArray) p w e.nodes) (hr : Hid (everyE e.nodes all p = r)) :
    Calls Tryz.prog 31 #[v, .bool all, .func (.func g) #[] lb] w fun e_1 w' => e_1 = .returned (.bool r) ∧ Below w.heap.size w w' := by
  obtain ⟨rfl, h1, h2, h4, h5, h3, h6, h7, h8, h9⟩ := h
  obtain ⟨w0, hw0⟩ : ∃ w0, w0 = (((w.alloc (.cells #[.int .i64 e.feats, .int .i64 e.tgts, .string ⟨e.agg.toArray⟩, .string ⟨e.post.toArray⟩, .slice bo e.base.length bc, .slice no e.nodes.length nc, .slice lo e.leaves.length lc] 26)).alloc (.cells #[.bool all] 4)).alloc (.cells #[.func (.func g) #[] lb] 66)) := ⟨_, rfl⟩
  have hbf : Below w.heap.size w w0 := by rw [hw0]; exact ((((Below.refl _ w).alloc (Nat.le_refl _) _).alloc (by simp <;> omega) _).alloc (by simp <;> omega) _)
  obtain ⟨pe, hpe⟩ : ∃ p, p = w.heap.size := ⟨_, rfl⟩
  have hbe : BoxL w0 pe [.int .i64 e.feats, .int .i64 e.tgts, .string ⟨e.agg.toArray⟩, .string ⟨e.post.toArray⟩, .slice bo e.base.length bc, .slice no e.nodes.length nc, .slice lo e.leaves.length lc] := by rw [hw0, hpe]; exact BoxL.of7 (by go_simp) (by go_simp) (by go_simp) (by go_simp) (by go_simp) (by go_simp) (by go_simp) (by go_simp) (by go_simp) (by go_simp) (by go_simp) (by go_simp) (by go_simp) (by go_simp)
  obtain ⟨pa, hpa⟩ : ∃ p, p = w.heap.size + 1 := ⟨_, rfl⟩
  have hba : Box w0 pa (Value.bool all) := by rw [hw0, hpa]; exact ⟨by go_simp, by go_simp, by simp <;> omega⟩
  obtain ⟨pg, hpg⟩ : ∃ p, p = w.heap.size + 1 + 1 := ⟨_, rfl⟩
  have hbg : Box w0 pg (Value.func (.func g) #[] lb) := by rw [hw0, hpg]; exact ⟨by go_simp, by go_simp, by simp <;> omega⟩
  have HP : Hid (w.heap.size ≤ pe ∧ pe < pa ∧ pa < pg) := Lib.hid (by omega)
  have HW := Lib.hid hw0; clear hw0
  go_enter Tryz.func31, Tryz.ntmps31
  go_upto_region 1 with fail
  rw [← HW.out, ← hpg, ← hpa, ← hpe]
  clear hpe hpa hpg HW
  have ee0 := hbe.cell 0 _ rfl
  have ee1 := hbe.cell 1 _ rfl
  have ee2 := hbe.cell 2 _ rfl
  have ee3 := hbe.cell 3 _ rfl
  have ee4 := hbe.cell 4 _ rfl
  have ee5 := hbe.cell 5 _ rfl
  have ee6 := hbe.cell 6 _ rfl
  have hcall := cont_en (fun n => (all || decide (n.mode ≠ 7)) && !p n) 84 #[.pointer (some ⟨pa, 0, none⟩), .pointer (some ⟨pg, 0, none⟩)] enter_every1 no nc e.nodes w0 _ (fun W x hx hb => every1_any x all (p x) g lb eg pa pg W ((hba.kept hb).cell) ((hbg.kept hb).cell) (fun W2 hb2 => hp W2 x hx (hbf.trans ((hb.trans (hb2.mono hb.size)).mono hbf.size)))) (h2.below (B := 0) hbf) h3 (Lib.hid rfl)
  have hr2 := hr.out
  unfold everyE at hr2
  generalize e.nodes.any (fun n => (all || decide (n.mode ≠ 7)) && !p n) = q at hcall hr2
  subst hr2; clear hr hp
  go_wp2_with (go_at_call 83; refine hcall.mono ?_; rintro e w1 ⟨rfl, hb1⟩)
  go_ret
  exact ⟨by first | rfl | simp, hbf.trans (hb1.mono hbf.size)⟩
end Go.Proofs.YtieffhkfefimeaaGreat
