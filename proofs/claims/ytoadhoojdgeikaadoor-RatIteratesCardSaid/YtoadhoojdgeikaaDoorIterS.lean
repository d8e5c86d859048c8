/-
  The laws' each over fractions: an iterator that counts in an old cell.
-/
import Derived.Test.YtoadhoojdgeikaaDoorIterR
namespace Go.Proofs.YtoadhoojdgeikaaDoor
open Go.RowKit Go.Shelf
set_option linter.unusedVariables false
set_option linter.unusedSimpArgs false
attribute [local go_sem] Oper.semAt_some field_nat

/-- A row of fractions that lies: its cells, three by three. -/
structure RatRow (W : World) (v : Value) (qs : List Rat) (B pn : Nat) : Prop where
  row : ∃ (ao : Option Addr) (cap : Nat), v = .slice ao qs.length cap ∧ (qs = [] ∨ ∃ g, ao = some ⟨g, 0, none⟩ ∧ g < B ∧ g < W.heap.size ∧ g ≠ pn ∧ ∀ i, i < qs.length → ∃ x y z, W.cell? ⟨g, i * 3, none⟩ = some x ∧ W.cell? ⟨g, i * 3 + 1, none⟩ = some y ∧ W.cell? ⟨g, i * 3 + 2, none⟩ = some z ∧ QIs W (.agg #[x, y, z]) (qs[i]?.getD 0))
theorem RatRow.keep {W W' : World} {v : Value} {qs : List Rat} {B pn : Nat} (h : RatRow W v qs B pn) (hs : W.heap.size ≤ W'.heap.size) (hc : ∀ g, g < B → g < W.heap.size → g ≠ pn → W'.heap[g]? = W.heap[g]?) (hk : KeepNat W W') : RatRow W' v qs B pn := by
  obtain ⟨ao, cap, h1, h2⟩ := h.row
  refine ⟨ao, cap, h1, ?_⟩
  rcases h2 with h2 | ⟨g, h3, h4, h5, h6, h7⟩
  · exact .inl h2
  · refine .inr ⟨g, h3, h4, Nat.lt_of_lt_of_le h5 hs, h6, fun i hi => ?_⟩
    obtain ⟨x, y, z, c0, c1, c2, hq⟩ := h7 i hi
    have e := hc g h4 h5 h6
    exact ⟨x, y, z, (World.cell?_of_block (a := ⟨g, i * 3, none⟩) e).trans c0, (World.cell?_of_block (a := ⟨g, i * 3 + 1, none⟩) e).trans c1, (World.cell?_of_block (a := ⟨g, i * 3 + 2, none⟩) e).trans c2, hq.keep hk⟩
theorem IntAt.free {W : World} {pn : Nat} (h : IntAt W pn) : W.frozen? ⟨pn, 0, none⟩ = false := by
  obtain ⟨n, t, h9⟩ := h
  simp [World.frozen?, h9]

set_option maxRecDepth 100000 in
set_option maxHeartbeats 2000000 in
theorem each2_iter (va : Value) (qs : List Rat) (bl bt pn B : Nat) (c0 : Int) (w : World) (hrow : RatRow w va qs B pn) (hl : w.cell? ⟨bl, 0, none⟩ = some va) (ht : w.cell? ⟨bt, 0, none⟩ = some (.pointer (some ⟨pn, 0, none⟩))) (hbl : bl < B) (hbt : bt < B) (hpn : pn < B) (hBw : B ≤ w.heap.size) (hne1 : bl ≠ pn) (hne2 : bt ≠ pn)
    (hlen : qs.length ≤ 1000000) (h0 : 0 ≤ c0) (h1 : c0 ≤ 1000000000) :
    IterX pn c0 Tryd.prog 35 #[.pointer (some ⟨bl, 0, none⟩), .pointer (some ⟨bt, 0, none⟩)] QIs qs B (KpX pn) w := by
  intro l J Jx S0 W1 hW1 hS0 hJ hJx hY h00 hcn hin
  have hl1 := (hW1.cell (p := ⟨bl, 0, none⟩) (by show bl < _; omega)).trans hl
  have ht1 := (hW1.cell (p := ⟨bt, 0, none⟩) (by show bt < _; omega)).trans ht
  have hr1 := hrow.keep hW1.size (fun g _ hg _ => hW1.block g hg) (KeepNat.below hW1)
  have hBw1 : B ≤ W1.heap.size := by have := hW1.size; omega
  obtain ⟨ao, cap, rfl, _⟩ := hrow.row
  clear hrow hl ht
  refine callsIn_of_wp Tryd.func35 rfl (by trivial) ?_ rfl
  simp only [IterArgs, Tryd.ntmps35, List.size_toArray, List.length_cons, List.length_nil, Nat.reduceAdd, Nat.reduceSub, Array.replicate_succ, Array.replicate_zero, List.push_toArray, List.append_toArray, List.nil_append, List.cons_append]
  gi_wp2_with fail
  gi_loopg [4] qs.length (fun g iv wr => ∃ (i : Nat) (S : Nat → Prop), i + g = qs.length ∧ iv = .int .i64 (i : Int) ∧ wr.cell? ⟨bl, 0, none⟩ = some (.slice ao qs.length cap) ∧ wr.cell? ⟨bt, 0, none⟩ = some (.pointer (some ⟨pn, 0, none⟩)) ∧ RatRow wr (.slice ao qs.length cap) qs B pn ∧
    J (qs.take i) S wr ∧ Top S wr ∧ (∀ k, S k → B ≤ k) ∧ wr.cell? ⟨pn, 0, none⟩ = some (.int .i64 (c0 + (i : Int))) ∧ IntAt wr pn ∧ B ≤ wr.heap.size)
  case atStart => exact ⟨0, S0, by omega, rfl, hl1, ht1, hr1, h00, fun k hk => (hS0 k hk).2, fun k hk => (hS0 k hk).1, by rw [hcn]; simp, hin, hBw1⟩
  case round =>
    obtain ⟨i, S, hi, rfl, hcl, hct, hrow, hJs, hT, hSB, hcp, hint, hBr⟩ := hrel
    by_cases hil : i < qs.length
    · obtain ⟨ao', cap', e, h3⟩ := hrow.row
      cases e
      rcases h3 with h3 | ⟨g, rfl, hgB, hgw, hgn, hcell⟩
      · rw [h3] at hil; simp at hil
      obtain ⟨W2, hW2⟩ : ∃ W2, W2 = wr.setCell ⟨pn, 0, none⟩ (.int .i64 (c0 + (i : Int) + 1)) := ⟨_, rfl⟩
      have hbx : BelowX pn wr.heap.size wr W2 := by rw [hW2]; exact BelowX.set _
      have hkn : KeepNat wr W2 := (KpX.ext (ExtX.of_belowX (B := 0) hbx) hint).2
      have hint2 := hbx.own hint
      have hJ2 := hJ _ _ _ _ hJs hbx
      have hsz2 : W2.heap.size = wr.heap.size := by rw [hW2]; simp [World.setCell]
      have hrow2 := hrow.keep hbx.size (fun g _ hg hne => hbx.block g hg hne) hkn
      obtain ⟨x, y, z, c3, c4, c5, hq⟩ := hcell i hil
      have hq2 := hq.keep hkn
      have eg := hbx.block g hgw hgn
      have k3 := (World.cell?_of_block (a := ⟨g, i * 3, none⟩) eg).trans c3
      have k4 := (World.cell?_of_block (a := ⟨g, i * 3 + 1, none⟩) eg).trans c4
      have k5 := (World.cell?_of_block (a := ⟨g, i * 3 + 2, none⟩) eg).trans c5
      have hblw : bl < wr.heap.size := World.block_lt_of_cell? wr ⟨bl, 0, none⟩ hcl
      have hbtw : bt < wr.heap.size := World.block_lt_of_cell? wr ⟨bt, 0, none⟩ hct
      have hcl2 := (World.cell?_of_block (a := ⟨bl, 0, none⟩) (hbx.block bl hblw hne1)).trans hcl
      have hct2 := (World.cell?_of_block (a := ⟨bt, 0, none⟩) (hbx.block bt hbtw hne2)).trans hct
      have hcp2 : W2.cell? ⟨pn, 0, none⟩ = some (.int .i64 (c0 + (i : Int) + 1)) := by rw [hW2]; exact cell_set hcp
      have hfp := hint.free
      have ht9 : qs.take i ++ [qs[i]?.getD 0] = qs.take (i + 1) := by
        rw [List.take_add_one, List.getElem?_eq_getElem hil]; rfl
      obtain ⟨fn, tmps, assign, body, hy, hR⟩ := hY _ _ _ _ _ hJ2 hq2 (by rw [ht9]; exact List.take_prefix _ _)
      have HT := Lib.hid ht9
      have HR := Lib.hid hR
      have HROW := Lib.hid hrow2
      have q1 : (i : Int) < (qs.length : Int) := by omega
      have q2 : (0 : Int) ≤ (i : Int) := by omega
      have HBX := Lib.hid hbx
      have HCL := Lib.hid hcl2
      have HCT := Lib.hid hct2
      have HCP := Lib.hid hcp2
      have HI2 := Lib.hid hint2
      clear ht9 hR hrow hrow2 hcell hq hq2 hbx hcl2 hct2 hcp2 k3 k4 k5 eg hkn hint2 hJ2
      subst hW2
      gi_wp2
      refine ⟨rfl, HR.out.mono ?_⟩
      rintro e W3 (⟨rfl, S3, hJ3, hF3, hT3, hK3⟩ | ⟨rfl, S3, hJ3, hF3⟩)
      · have hblk : ∀ k, k < B → k < wr.heap.size → W3.heap[k]? = (wr.setCell ⟨pn, 0, none⟩ (.int .i64 (c0 + (i : Int) + 1))).heap[k]? := fun k hk hkw => hF3.same k (by rw [hsz2]; exact hkw) (fun h => by have := hSB k h; omega)
        have hk9 := hK3 HI2.out
        have hrow3 := HROW.out.keep hF3.size (fun g hg hgw _ => hblk g hg (by rw [← hsz2]; exact hgw)) hk9.2
        have hcl3 := (World.cell?_of_block (a := ⟨bl, 0, none⟩) (hblk bl hbl hblw)).trans HCL.out
        have hct3 := (World.cell?_of_block (a := ⟨bt, 0, none⟩) (hblk bt hbt hbtw)).trans HCT.out
        have hcp3 := (World.cell?_of_block (a := ⟨pn, 0, none⟩) (hblk pn hpn (by omega))).trans HCP.out
        have hsz3 : B ≤ W3.heap.size := by have := hF3.size; omega
        rw [HT.out] at hJ3
        clear hcl hct c3 c4 c5
        gi_wp2
        gi_roundg (gk - 1)
        case measure => omega
        case rel =>
          refine ⟨i + 1, S3, by omega, by go_num, hcl3, hct3, hrow3, hJ3, hT3, fun k hk => ?_, by rw [hcp3]; congr 2; omega, hk9.1, hsz3⟩
          rcases hF3.fresh k hk with h1 | h1
          · exact hSB k h1
          · omega
      · rw [HT.out] at hJ3
        gi_wp2
        refine bodyPost_ret (results_none rfl _ _ _) rfl ?_
        exact ⟨⟨_, rfl⟩, .inr ⟨_, _, List.take_prefix _ _, hJ3⟩⟩
    · have hiq : qs.take i = qs := List.take_of_length_le (by omega)
      rw [hiq] at hJs
      obtain rfl : i = qs.length := by omega
      clear hiq
      gi_wp2
      go_end0
      exact ⟨⟨_, rfl⟩, .inl ⟨S, hJs, hcp⟩⟩
end Go.Proofs.YtoadhoojdgeikaaDoor
