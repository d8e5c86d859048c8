/-
  onnx: named, size, base, numbers.
-/
import Derived.Test.YtieffhkfefimeaaGreatOnxG
namespace Go.Proofs.YtieffhkfefimeaaGreat
open Go.RowKit
set_option linter.unusedVariables false
set_option linter.unusedSimpArgs false

def namedE (e : EE) : List UInt8 := if e.agg ∉ aggW then wordE 2 else if e.post ∉ postW then wordE 3 else []
theorem agg_strs (w : World) : Strs (w.alloc (.cells #[.string ⟨#[83, 85, 77]⟩, .string ⟨#[65, 86, 69, 82, 65, 71, 69]⟩, .string ⟨#[77, 73, 78]⟩, .string ⟨#[77, 65, 88]⟩] 9)) (.slice (some ⟨w.heap.size, 0, none⟩) 4 4) aggW := by
  refine strs_of (ls := aggW) (by simp) (by decide) (fun i hi => ?_)
  match i, hi with
  | 0, _ => go_simp; rfl
  | 1, _ => go_simp; rfl
  | 2, _ => go_simp; rfl
  | 3, _ => go_simp; rfl
theorem post_strs (w : World) : Strs (w.alloc (.cells #[.string ⟨#[78, 79, 78, 69]⟩, .string ⟨#[83, 79, 70, 84, 77, 65, 88]⟩, .string ⟨#[76, 79, 71, 73, 83, 84, 73, 67]⟩, .string ⟨#[83, 79, 70, 84, 77, 65, 88, 95, 90, 69, 82, 79]⟩, .string ⟨#[80, 82, 79, 66, 73, 84]⟩] 9)) (.slice (some ⟨w.heap.size, 0, none⟩) 5 5) postW := by
  refine strs_of (ls := postW) (by simp) (by decide) (fun i hi => ?_)
  match i, hi with
  | 0, _ => go_simp; rfl
  | 1, _ => go_simp; rfl
  | 2, _ => go_simp; rfl
  | 3, _ => go_simp; rfl
  | 4, _ => go_simp; rfl
set_option maxRecDepth 100000 in
set_option maxHeartbeats 1000000 in
theorem named_any (v : Value) (e : EE) (bo : Option Addr) (bc : Nat) (no : Option Addr) (nc : Nat) (lo : Option Addr) (lc : Nat) (w : World) (h : EnsIs w v e bo bc no nc lo lc) (s : List UInt8) (hs : Hid (namedE e = s)) :
    Calls Tryz.prog 28 #[v] w fun e w' => e = .returned (.string ⟨s.toArray⟩) ∧ Below w.heap.size w w' := by
  obtain ⟨rfl, h1, h2, h4, h5, h3, h6, h7, h8, h9⟩ := h
  obtain ⟨a, ha⟩ : ∃ a, decide (e.agg ∈ aggW) = a := ⟨_, rfl⟩
  obtain ⟨p, hp⟩ : ∃ p, decide (e.post ∈ postW) = p := ⟨_, rfl⟩
  have hs2 : s = (if a = false then wordE 2 else if p = false then wordE 3 else []) := by rw [← hs.out, ← ha, ← hp]; unfold namedE; simp
  have hA := fun W => cont_str _ aggW e.agg _ _ (agg_strs W) (Lib.hid ha)
  have hP := fun W => cont_str _ postW e.post _ _ (post_strs W) (Lib.hid hp)
  clear hs ha hp
  obtain ⟨w0, hw0⟩ : ∃ w0, w0 = (w.alloc (.cells #[.int .i64 e.feats, .int .i64 e.tgts, .string ⟨e.agg.toArray⟩, .string ⟨e.post.toArray⟩, .slice bo e.base.length bc, .slice no e.nodes.length nc, .slice lo e.leaves.length lc] 26)) := ⟨_, rfl⟩
  have hbf : Below w.heap.size w w0 := by rw [hw0]; exact ((Below.refl _ w).alloc (Nat.le_refl _) _)
  obtain ⟨pe, hpe⟩ : ∃ p, p = w.heap.size := ⟨_, rfl⟩
  have hbe : BoxL w0 pe [.int .i64 e.feats, .int .i64 e.tgts, .string ⟨e.agg.toArray⟩, .string ⟨e.post.toArray⟩, .slice bo e.base.length bc, .slice no e.nodes.length nc, .slice lo e.leaves.length lc] := by rw [hw0, hpe]; exact BoxL.of7 (by go_simp) (by go_simp) (by go_simp) (by go_simp) (by go_simp) (by go_simp) (by go_simp) (by go_simp) (by go_simp) (by go_simp) (by go_simp) (by go_simp) (by go_simp) (by go_simp)
  have HP : Hid (w.heap.size ≤ pe) := Lib.hid (by omega)
  have HW := Lib.hid hw0; clear hw0
  go_enter Tryz.func28, Tryz.ntmps28
  go_upto_region 1 with fail
  rw [← HW.out, ← hpe]
  clear hpe HW
  have ee0 := hbe.cell 0 _ rfl
  have ee1 := hbe.cell 1 _ rfl
  have ee2 := hbe.cell 2 _ rfl
  have ee3 := hbe.cell 3 _ rfl
  have ee4 := hbe.cell 4 _ rfl
  have ee5 := hbe.cell 5 _ rfl
  have ee6 := hbe.cell 6 _ rfl
  have hlt := hbe.lt
  cases a with
  | false =>
    have hs3 : s = wordE 2 := hs2
    subst hs3; clear hs2
    go_wp2_with (go_at_call 80; refine (hA _).mono ?_; rintro e9 w1 ⟨rfl, hb1⟩)
    go_ret
    exact ⟨rfl, hbf.trans (((Below.refl _ _).alloc (Nat.le_refl _) _ |>.trans (hb1.mono (by simp))).mono hbf.size)⟩
  | true =>
    have hs3 : s = (if p = false then wordE 3 else []) := hs2
    subst hs3; clear hs2
    go_upto_region 3 with (go_at_call 80; refine (hA _).mono ?_; rintro e9 w1 ⟨rfl, hb1⟩)
    have hb2 := ((Below.refl w0.heap.size w0).alloc (Nat.le_refl _) (.cells #[.string ⟨#[83, 85, 77]⟩, .string ⟨#[65, 86, 69, 82, 65, 71, 69]⟩, .string ⟨#[77, 73, 78]⟩, .string ⟨#[77, 65, 88]⟩] 9)).trans (hb1.mono (by simp))
    replace hbe := hbe.kept hb2
    replace hbf := hbf.trans (hb2.mono hbf.size)
    clear hlt
    have hlt := hbe.lt
    clear ee0 ee1 ee2 ee3 ee4 ee5 ee6 hb1 hb2
    have ee0 := hbe.cell 0 _ rfl
    have ee1 := hbe.cell 1 _ rfl
    have ee2 := hbe.cell 2 _ rfl
    have ee3 := hbe.cell 3 _ rfl
    have ee4 := hbe.cell 4 _ rfl
    have ee5 := hbe.cell 5 _ rfl
    have ee6 := hbe.cell 6 _ rfl
    cases p
    all_goals
      go_wp2_with (go_at_call 80; refine (hP _).mono ?_; rintro e9 w3 ⟨rfl, hb3⟩)
      go_ret
      exact ⟨rfl, hbf.trans (((Below.refl _ _).alloc (Nat.le_refl _) _ |>.trans (hb3.mono (by simp))).mono hbf.size)⟩
set_option maxRecDepth 100000 in
set_option maxHeartbeats 1000000 in
theorem size_any (v : Value) (e : EE) (bo : Option Addr) (bc : Nat) (no : Option Addr) (nc : Nat) (lo : Option Addr) (lc : Nat) (w : World) (h : EnsIs w v e bo bc no nc lo lc) (r : Bool) (hr : Hid (sizeE e = r)) :
    Calls Tryz.prog 27 #[v] w fun e w' => e = .returned (.bool r) ∧ Below w.heap.size w w' := by
  obtain ⟨rfl, h1, h2, h4, h5, h3, h6, h7, h8, h9⟩ := h
  have hr2 := hr.out
  unfold sizeE at hr2
  clear hr
  obtain ⟨w0, hw0⟩ : ∃ w0, w0 = (w.alloc (.cells #[.int .i64 e.feats, .int .i64 e.tgts, .string ⟨e.agg.toArray⟩, .string ⟨e.post.toArray⟩, .slice bo e.base.length bc, .slice no e.nodes.length nc, .slice lo e.leaves.length lc] 26)) := ⟨_, rfl⟩
  have hbf : Below w.heap.size w w0 := by rw [hw0]; exact ((Below.refl _ w).alloc (Nat.le_refl _) _)
  obtain ⟨pe, hpe⟩ : ∃ p, p = w.heap.size := ⟨_, rfl⟩
  have hbe : BoxL w0 pe [.int .i64 e.feats, .int .i64 e.tgts, .string ⟨e.agg.toArray⟩, .string ⟨e.post.toArray⟩, .slice bo e.base.length bc, .slice no e.nodes.length nc, .slice lo e.leaves.length lc] := by rw [hw0, hpe]; exact BoxL.of7 (by go_simp) (by go_simp) (by go_simp) (by go_simp) (by go_simp) (by go_simp) (by go_simp) (by go_simp) (by go_simp) (by go_simp) (by go_simp) (by go_simp) (by go_simp) (by go_simp)
  have HP : Hid (w.heap.size ≤ pe) := Lib.hid (by omega)
  have HW := Lib.hid hw0; clear hw0
  go_enter Tryz.func27, Tryz.ntmps27
  go_upto_region 1 with fail
  rw [← HW.out, ← hpe]
  clear hpe HW
  have hE : EnsIs w0 (ensV e bo bc no nc lo lc) e bo bc no nc lo lc := EnsIs.below ⟨rfl, h1, h2, h4, h5, h3, h6, h7, h8, h9⟩ hbf
  have ee0 := hbe.cell 0 _ rfl
  have ee1 := hbe.cell 1 _ rfl
  have ee2 := hbe.cell 2 _ rfl
  have ee3 := hbe.cell 3 _ rfl
  have ee4 := hbe.cell 4 _ rfl
  have ee5 := hbe.cell 5 _ rfl
  have ee6 := hbe.cell 6 _ rfl
  subst hr2
  by_cases q0 : 0 ≤ e.feats
  · by_cases q1 : e.feats ≤ 40
    · by_cases q2 : 1 ≤ e.tgts
      · by_cases q3 : e.tgts ≤ 20
        · by_cases q4 : 1 ≤ e.nodes.length
          · have z4 : (1 : Int) ≤ (e.nodes.length : Int) := by omega
            by_cases q5 : e.nodes.length ≤ 2000
            · have z5 : (e.nodes.length : Int) ≤ 2000 := by omega
              by_cases q6 : e.leaves.length ≤ 2000
              · have z6 : (e.leaves.length : Int) ≤ 2000 := by omega
                have hT := trees_any _ e _ _ _ _ _ _ w0 hE (by omega)
                go_wp2_with (go_at_call 11; refine hT.mono ?_; rintro e9 w1 ⟨r9, rfl, hO, hb1⟩; obtain ⟨ao, cp, rfl, _, _, _⟩ := OwnsK.slice (K := 1) hO; rw [ivals_length])
                go_ret
                exact ⟨ret_one (congrArg Value.bool (by simp [q0, q1, q2, q3, q4, q5, q6] <;> omega)), hbf.trans (hb1.mono hbf.size)⟩
              · have z6 : ¬ (e.leaves.length : Int) ≤ 2000 := by omega
                go_wp2_with fail
                go_ret
                exact ⟨ret_one (congrArg Value.bool (by simp [q0, q1, q2, q3, q4, q5, q6] <;> omega)), hbf⟩
            · have z5 : ¬ (e.nodes.length : Int) ≤ 2000 := by omega
              go_wp2_with fail
              go_ret
              exact ⟨ret_one (congrArg Value.bool (by simp [q0, q1, q2, q3, q4, q5] <;> omega)), hbf⟩
          · have z4 : ¬ (1 : Int) ≤ (e.nodes.length : Int) := by omega
            go_wp2_with fail
            go_ret
            exact ⟨ret_one (congrArg Value.bool (by simp [q0, q1, q2, q3, q4] <;> omega)), hbf⟩
        · go_wp2_with fail
          go_ret
          exact ⟨ret_one (congrArg Value.bool (by simp [q0, q1, q2, q3] <;> omega)), hbf⟩
      · go_wp2_with fail
        go_ret
        exact ⟨ret_one (congrArg Value.bool (by simp [q0, q1, q2] <;> omega)), hbf⟩
    · go_wp2_with fail
      go_ret
      exact ⟨ret_one (congrArg Value.bool (by simp [q0, q1] <;> omega)), hbf⟩
  · go_wp2_with fail
    go_ret
    exact ⟨ret_one (congrArg Value.bool (by simp [q0] <;> omega)), hbf⟩
set_option maxRecDepth 100000 in
set_option maxHeartbeats 1000000 in
theorem base_any (v : Value) (e : EE) (bo : Option Addr) (bc : Nat) (no : Option Addr) (nc : Nat) (lo : Option Addr) (lc : Nat) (w : World) (h : EnsIs w v e bo bc no nc lo lc) (r : Bool) (hr : Hid (baseE e = r)) :
    Calls Tryz.prog 29 #[v] w fun e w' => e = .returned (.bool r) ∧ Below w.heap.size w w' := by
  obtain ⟨rfl, h1, h2, h4, h5, h3, h6, h7, h8, h9⟩ := h
  have hr2 := hr.out
  unfold baseE at hr2
  clear hr
  obtain ⟨w0, hw0⟩ : ∃ w0, w0 = (w.alloc (.cells #[.int .i64 e.feats, .int .i64 e.tgts, .string ⟨e.agg.toArray⟩, .string ⟨e.post.toArray⟩, .slice bo e.base.length bc, .slice no e.nodes.length nc, .slice lo e.leaves.length lc] 26)) := ⟨_, rfl⟩
  have hbf : Below w.heap.size w w0 := by rw [hw0]; exact ((Below.refl _ w).alloc (Nat.le_refl _) _)
  obtain ⟨pe, hpe⟩ : ∃ p, p = w.heap.size := ⟨_, rfl⟩
  have hbe : BoxL w0 pe [.int .i64 e.feats, .int .i64 e.tgts, .string ⟨e.agg.toArray⟩, .string ⟨e.post.toArray⟩, .slice bo e.base.length bc, .slice no e.nodes.length nc, .slice lo e.leaves.length lc] := by rw [hw0, hpe]; exact BoxL.of7 (by go_simp) (by go_simp) (by go_simp) (by go_simp) (by go_simp) (by go_simp) (by go_simp) (by go_simp) (by go_simp) (by go_simp) (by go_simp) (by go_simp) (by go_simp) (by go_simp)
  have HP : Hid (w.heap.size ≤ pe) := Lib.hid (by omega)
  have HW := Lib.hid hw0; clear hw0
  go_enter Tryz.func29, Tryz.ntmps29
  go_upto_region 1 with fail
  rw [← HW.out, ← hpe]
  clear hpe HW
  have ee0 := hbe.cell 0 _ rfl
  have ee1 := hbe.cell 1 _ rfl
  have ee2 := hbe.cell 2 _ rfl
  have ee3 := hbe.cell 3 _ rfl
  have ee4 := hbe.cell 4 _ rfl
  have ee5 := hbe.cell 5 _ rfl
  have ee6 := hbe.cell 6 _ rfl
  have hall : e.base.all finP = !e.base.any (fun p => !finP p) := by rw [List.all_eq_not_any_not]
  have hcall := cont_pat (fun p => !finP p) 82 #[] enter_base1 bo bc e.base w0 _ (fun W x hx hb => base1_any x W (h7 x hx)) (h1.below hbf) h5 (Lib.hid rfl)
  rw [hall] at hr2
  clear hall
  generalize e.base.any (fun p => !finP p) = q at hr2 hcall
  subst hr2
  by_cases q0 : e.base.length = 0
  · have z0 : (((e.base.length : Nat) : Int) == 0) = true := by simp; exact List.eq_nil_of_length_eq_zero q0
    have q0h := Lib.hid q0
    clear q0
    go_wp2_with (go_at_call 81; refine hcall.mono ?_; rintro e9 w1 ⟨rfl, hb1⟩)
    go_ret
    exact ⟨ret_one (congrArg Value.bool (by simp [q0h.out])), hbf.trans (hb1.mono hbf.size)⟩
  · have z0 : (((e.base.length : Nat) : Int) == 0) = false := by simp; intro h; rw [h] at q0; simp at q0
    by_cases q1 : (e.base.length : Int) = e.tgts
    · have z1 : (((e.base.length : Nat) : Int) == e.tgts) = true := by simp [q1]
      have q1h := Lib.hid q1
      clear q1
      go_wp2_with (go_at_call 81; refine hcall.mono ?_; rintro e9 w1 ⟨rfl, hb1⟩)
      go_ret
      exact ⟨ret_one (congrArg Value.bool (by simp [q1h.out])), hbf.trans (hb1.mono hbf.size)⟩
    · have z1 : (((e.base.length : Nat) : Int) == e.tgts) = false := by simp [q1]
      go_wp2_with fail
      go_ret
      exact ⟨ret_one (congrArg Value.bool (by simp [q1]; exact fun h => absurd (by rw [h]; rfl) q0)), hbf⟩
def numB (ns : List EN) (k : Nat) : Bool := let n := ns[k]!; decide (0 ≤ n.tree) && (decide (0 ≤ n.node) && decide ((findE ns n.tree n.node).getD 0 = k))
theorem numsE_eq (ns : List EN) : numsE ns = (List.range ns.length).all (numB ns) := rfl
set_option maxRecDepth 100000 in
set_option maxHeartbeats 1000000 in
theorem numbers_any (v : Value) (e : EE) (bo : Option Addr) (bc : Nat) (no : Option Addr) (nc : Nat) (lo : Option Addr) (lc : Nat) (w : World) (h : EnsIs w v e bo bc no nc lo lc) (r : Bool) (hr : Hid (numsE e.nodes = r)) :
    Calls Tryz.prog 30 #[v] w fun e w' => e = .returned (.bool r) ∧ Below w.heap.size w w' := by
  obtain ⟨rfl, h1, h2, h4, h5, h3, h6, h7, h8, h9⟩ := h
  obtain ⟨w0, hw0⟩ : ∃ w0, w0 = (w.alloc (.cells #[.int .i64 e.feats, .int .i64 e.tgts, .string ⟨e.agg.toArray⟩, .string ⟨e.post.toArray⟩, .slice bo e.base.length bc, .slice no e.nodes.length nc, .slice lo e.leaves.length lc] 26)) := ⟨_, rfl⟩
  have hbf : Below w.heap.size w w0 := by rw [hw0]; exact ((Below.refl _ w).alloc (Nat.le_refl _) _)
  obtain ⟨pe, hpe⟩ : ∃ p, p = w.heap.size := ⟨_, rfl⟩
  have hbe : BoxL w0 pe [.int .i64 e.feats, .int .i64 e.tgts, .string ⟨e.agg.toArray⟩, .string ⟨e.post.toArray⟩, .slice bo e.base.length bc, .slice no e.nodes.length nc, .slice lo e.leaves.length lc] := by rw [hw0, hpe]; exact BoxL.of7 (by go_simp) (by go_simp) (by go_simp) (by go_simp) (by go_simp) (by go_simp) (by go_simp) (by go_simp) (by go_simp) (by go_simp) (by go_simp) (by go_simp) (by go_simp) (by go_simp)
  have HP : Hid (w.heap.size ≤ pe) := Lib.hid (by omega)
  have HW := Lib.hid hw0; clear hw0
  go_enter Tryz.func30, Tryz.ntmps30
  go_upto_region 1 with fail
  rw [← HW.out, ← hpe]
  clear hpe HW
  have hE : EnsIs w0 (ensV e bo bc no nc lo lc) e bo bc no nc lo lc := EnsIs.below ⟨rfl, h1, h2, h4, h5, h3, h6, h7, h8, h9⟩ hbf
  have ee5 := hbe.cell 5 _ rfl
  have h3b := h3
  unfold maxLen at h3b
  go_wp2_with fail
  go_loopg [10] e.nodes.length (fun gg iv wr => ∃ (i : Nat), i + gg = e.nodes.length ∧ iv = .int .i64 (i : Int) ∧ Hid (∀ k, k < i → numB e.nodes k = true) ∧ Below w0.heap.size w0 wr)
  case atStart => exact ⟨0, by omega, rfl, Lib.hid (fun k hk => absurd hk (Nat.not_lt_zero _)), Below.refl _ _⟩
  case round =>
    obtain ⟨i, hi, rfl, hA, hbr⟩ := hrel
    replace hbe := hbe.kept hbr
    replace hE := hE.below hbr
    clear ee5
    by_cases hil : i < e.nodes.length
    · have hz : (i : Int) < (e.nodes.length : Int) := by omega
      have hz0 : (0 : Int) ≤ (i : Int) := by omega
      obtain ⟨b, off, rfl⟩ := h2.addr hil
      obtain ⟨y, hy⟩ : ∃ y, e.nodes[i] = y := ⟨_, rfl⟩
      obtain ⟨c0, c1, c2, c3, c4, c5, c6, c7⟩ := RowC.c8 h2 (hbf.trans (hbr.mono hbf.size)) hil y hy
      have HN : Hid (numB e.nodes i = (decide (0 ≤ y.tree) && (decide (0 ≤ y.node) && decide ((findE e.nodes y.tree y.node).getD 0 = i)))) := Lib.hid (by unfold numB; rw [getElem!_pos e.nodes i hil, hy])
      clear hy
      obtain ⟨w2, hwE⟩ : ∃ W, W = wr.alloc (.cells #[.int .i64 y.tree, .int .i64 y.node, .int .i64 y.feat, .int .i64 y.mode, .int .u64 (y.val : Int), .int .i64 y.tru, .int .i64 y.fls, .bool y.trk] 33) := ⟨_, rfl⟩
      have hb2 : Below wr.heap.size wr w2 := by rw [hwE]; exact (Below.refl _ wr).alloc (Nat.le_refl _) _
      obtain ⟨px, hpE⟩ : ∃ p, p = wr.heap.size := ⟨_, rfl⟩
      have hbx : BoxL w2 px [.int .i64 y.tree, .int .i64 y.node, .int .i64 y.feat, .int .i64 y.mode, .int .u64 (y.val : Int), .int .i64 y.tru, .int .i64 y.fls, .bool y.trk] := by rw [hwE, hpE]; exact BoxL.new wr _ _
      have HW := Lib.hid hwE; clear hwE
      go_upto_region 4 with fail
      rw [← HW.out, ← hpE]
      have Hpx := Lib.hid (Nat.le_of_eq hpE.symm)
      clear HW hpE
      have hbr2 := hbr.trans (hb2.mono hbr.size)
      have hpl2 := hbx.lt
      clear c0 c1 c2 c3 c4 c5 c6 c7
      have ex0 := hbx.cell 0 _ rfl
      have ex1 := hbx.cell 1 _ rfl
      have ex2 := hbx.cell 2 _ rfl
      have ex3 := hbx.cell 3 _ rfl
      have ex4 := hbx.cell 4 _ rfl
      have ex5 := hbx.cell 5 _ rfl
      have ex6 := hbx.cell 6 _ rfl
      have ex7 := hbx.cell 7 _ rfl
      have no : numB e.nodes i = false → Hid (numsE e.nodes = false) := fun h => Lib.hid (by rw [numsE_eq]; exact List.all_eq_false.2 ⟨i, List.mem_range.2 hil, by rw [h]; simp⟩)
      by_cases q1 : y.tree < 0
      · have hr2 : r = false := by rw [← hr.out]; exact (no (by rw [HN.out]; simp; omega)).out
        subst hr2; clear hr no HN
        go_wp2_with fail
        go_ret
        exact ⟨rfl, hbf.trans (hbr2.mono hbf.size)⟩
      · by_cases q2 : y.node < 0
        · have hr2 : r = false := by rw [← hr.out]; exact (no (by rw [HN.out]; simp; omega)).out
          subst hr2; clear hr no HN
          go_wp2_with fail
          go_ret
          exact ⟨rfl, hbf.trans (hbr2.mono hbf.size)⟩
        · obtain ⟨g, hg⟩ : ∃ g, (findE e.nodes y.tree y.node).getD 0 = g := ⟨_, rfl⟩
          have hf := find_any _ e _ _ _ _ _ _ y.tree y.node w2 (hE.below hb2) g _ (Lib.hid hg) (Lib.hid rfl)
          generalize (findE e.nodes y.tree y.node).isSome = b9 at hf
          have HN2 : Hid (numB e.nodes i = decide (g = i)) := Lib.hid (by rw [HN.out, hg, decide_eq_true (show 0 ≤ y.tree by omega), decide_eq_true (show 0 ≤ y.node by omega), Bool.true_and, Bool.true_and])
          clear HN hg
          replace hbe := hbe.kept hb2
          have ee0 := hbe.cell 0 _ rfl
          have ee1 := hbe.cell 1 _ rfl
          have ee2 := hbe.cell 2 _ rfl
          have ee3 := hbe.cell 3 _ rfl
          have ee4 := hbe.cell 4 _ rfl
          have ee5 := hbe.cell 5 _ rfl
          have ee6 := hbe.cell 6 _ rfl
          by_cases q3 : g = i
          · have hA2 : Hid (∀ k, k < i + 1 → numB e.nodes k = true) := Lib.hid (fun k hk => by
              by_cases e9 : k = i
              · subst e9; rw [HN2.out]; simp [q3]
              · exact hA.out k (by omega))
            subst q3
            clear hA HN2 no
            go_wp2_with (go_at_call 17; refine hf.mono ?_; rintro e9 w3 ⟨rfl, hb3⟩)
            go_roundg (gk - 1)
            case measure => omega
            case rel => exact ⟨g + 1, by omega, by first | rfl | go_num, hA2, hbr2.trans (hb3.mono hbr2.size)⟩
          · have hr2 : r = false := by rw [← hr.out]; exact (no (by rw [HN2.out]; simp [q3])).out
            have q4 : ((g : Int) != (i : Int)) = true := by simp; omega
            subst hr2; clear hr no HN2 q3
            go_wp2_with (go_at_call 17; refine hf.mono ?_; rintro e9 w3 ⟨rfl, hb3⟩)
            go_ret
            exact ⟨rfl, hbf.trans ((hbr2.trans (hb3.mono hbr2.size)).mono hbf.size)⟩
    · have hz : ¬ (i : Int) < (e.nodes.length : Int) := by omega
      have hr2 : r = true := by rw [← hr.out, numsE_eq]; exact List.all_eq_true.2 fun k hk => hA.out k (by have := List.mem_range.1 hk; omega)
      subst hr2; clear hr hA
      go_wp2_with fail
      go_ret
      exact ⟨rfl, hbf.trans (hbr.mono hbf.size)⟩
end Go.Proofs.YtieffhkfefimeaaGreat
