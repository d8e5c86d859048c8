/-
  Pg24: TreO MathTh LawTg TreP OpenG OpenV OpenW (what is needed of them).
-/
import Derived.Test.YtlmjkbdodecbmaaDoorPg05
import Derived.Test.YtlmjkbdodecbmaaDoorPg09
import Derived.Test.YtlmjkbdodecbmaaDoorPg10
import Derived.Test.YtlmjkbdodecbmaaDoorPg11
import Derived.Test.YtlmjkbdodecbmaaDoorPg20
import Derived.Test.YtlmjkbdodecbmaaDoorPg22
import Derived.Test.YtlmjkbdodecbmaaDoorPg23
import Derived.WalkKit
import Derived.ProofKit
import Derived.OpenShut
import Derived.ShutString
import Derived.Carry
import Derived.Deep.Fields
import Derived.Deep.Slices

namespace Go.Proofs.YtlmjkbdodecbmaaDoor
open Go.RowKit Go.Shelf
set_option linter.unusedVariables false
set_option linter.unusedSimpArgs false
attribute [local go_sem] field_nat
theorem two_sz : twoT.nodes.length + (twoT.nodes.map fun x => x.kids.length).sum ≤ 1500 := by decide
theorem two_sm : ∀ x ∈ twoT.nodes, SmN x := by
  intro x hx
  have h9 : x = ⟨.mk 1 0 [] [], [], [], [1, 2], -1⟩ ∨ x = ⟨.mk 3 0 [⟨1, [53], []⟩] [], [49], [], [], -1⟩ ∨ x = ⟨.mk 7 0 [⟨1, [53], []⟩] [], [50], [], [], -1⟩ := by
    have : x ∈ [(⟨.mk 1 0 [] [], [], [], [1, 2], -1⟩ : TN), ⟨.mk 3 0 [⟨1, [53], []⟩] [], [49], [], [], -1⟩, ⟨.mk 7 0 [⟨1, [53], []⟩] [], [50], [], [], -1⟩] := hx
    simpa using this
  rcases h9 with rfl | rfl | rfl
  · exact ⟨by decide, by decide, by decide, SmP.mk (by decide) (by decide) (by simp) (by simp), by decide⟩
  · exact ⟨by decide, by decide, by decide, SmP.mk (by decide) (by decide) (by simp) (by simp), by decide⟩
  · exact ⟨by decide, by decide, by decide, SmP.mk (by decide) (by decide) (by simp) (by simp), by decide⟩
theorem valid_two (no : Option Addr) (nc B : Nat) (fo : Option Addr) (w : World) (hT : Hid (TrIs B w twoT no nc)) (hB : B ≤ w.heap.size) (hf : Hid (Flds w fo [⟨fldX, none, 0⟩])) :
    Calls Tryd.prog 16 #[.agg #[.slice no twoT.nodes.length nc, .int .i64 twoT.ms, .int .i64 twoT.nt], .slice fo 1 1] w fun e w' => e = .returned (.bool true) ∧ Below w.heap.size w w' :=
  tvalid_any twoT no nc B fo 1 [⟨fldX, none, 0⟩] true w hT.out hB two_sz (Lib.hid two_sm) hf (by decide) (Lib.hid two_valid.symm)
theorem valid_none (fo : Option Addr) (w : World) (hf : Hid (Flds w fo [⟨fldX, none, 0⟩])) :
    Calls Tryd.prog 16 #[.agg #[.slice none 0 0, .int .i64 0, .int .i64 0], .slice fo 1 1] w fun e w' => e = .returned (.bool false) ∧ Below w.heap.size w w' :=
  tvalid_any ⟨[], 0, 0⟩ none 0 0 fo 1 [⟨fldX, none, 0⟩] false w ⟨⟨Nat.le_refl _, Nat.zero_le _⟩, fun _ => rfl, fun i n h => by simp at h⟩ (Nat.zero_le _) (by decide) (Lib.hid (by simp)) hf (by decide) (Lib.hid (none_valid _).symm)
theorem leaf_two (no : Option Addr) (nc B : Nat) (w : World) (hT : Hid (TrIs B w twoT no nc)) (hB : B ≤ w.heap.size) :
    Calls Tryd.prog 41 #[.agg #[.slice no twoT.nodes.length nc, .int .i64 twoT.ms, .int .i64 twoT.nt], .int .i64 1] w fun e w' => e = .returned (.bool true) ∧ Below w.heap.size w w' := tleaf_any twoT 1 true no nc B w hT.out hB two_sz (Lib.hid (by decide))
theorem up_two (no : Option Addr) (nc B : Nat) (w : World) (hT : Hid (TrIs B w twoT no nc)) (hB : B ≤ w.heap.size) :
    Calls Tryd.prog 20 #[.agg #[.slice no twoT.nodes.length nc, .int .i64 twoT.ms, .int .i64 twoT.nt], .int .i64 2] w fun e w' => e = .returned (.int .i64 0) ∧ Below w.heap.size w w' := tup_any twoT 2 0 no nc B w hT.out hB two_sz (Lib.hid two_up.symm)
theorem depth_two (no : Option Addr) (nc B : Nat) (w : World) (hT : Hid (TrIs B w twoT no nc)) (hB : B ≤ w.heap.size) :
    Calls Tryd.prog 21 #[.agg #[.slice no twoT.nodes.length nc, .int .i64 twoT.ms, .int .i64 twoT.nt]] w fun e w' => e = .returned (.int .i64 2) ∧ Below w.heap.size w w' := tdepth_any twoT 2 no nc B w hT.out hB two_sz (Lib.hid two_deep.symm)
theorem same_two (no mo : Option Addr) (nc mc B : Nat) (w : World) (hT : Hid (TrIs B w twoT no nc)) (hM : Hid (TrIs B w twoT mo mc)) (hB : B ≤ w.heap.size) :
    Calls Tryd.prog 42 #[.agg #[.slice no twoT.nodes.length nc, .int .i64 twoT.ms, .int .i64 twoT.nt], .agg #[.slice mo twoT.nodes.length mc, .int .i64 twoT.ms, .int .i64 twoT.nt]] w fun e w' => e = .returned (.bool true) ∧ Below w.heap.size w w' := treeSame_self twoT no mo nc mc B w hT.out hM.out hB
theorem order_two (no : Option Addr) (nc B : Nat) (w : World) (hT : TrIs B w twoT no nc) (hB : B ≤ w.heap.size) :
    Calls Tryd.prog 39 #[.agg #[.slice no twoT.nodes.length nc, .int .i64 twoT.ms, .int .i64 twoT.nt]] w fun e w' => (∃ no nc, e = .returned (.tuple #[.agg #[.slice no twoT.nodes.length nc, .int .i64 twoT.ms, .int .i64 twoT.nt], .bool true]) ∧ TrIs w'.heap.size w' twoT no nc) ∧ Below w.heap.size w w' := (torder_any twoT no nc B w hT hB two_sz (Lib.hid two_sm)).mono (by
  rintro e w' ⟨hb, ⟨h, _⟩ | ⟨_, no, nc, rfl, hT⟩⟩
  · rw [two_shape] at h; cases h
  · rw [two_order] at hT ⊢
    exact ⟨⟨no, nc, rfl, hT⟩, hb⟩)
set_option maxRecDepth 100000 in
set_option maxHeartbeats 8000000 in
/-- alive. -/
theorem alive14_any (w : World) : Calls Tryd.prog 17 #[] w fun e w' => e = .returned (.bool true) ∧ Below w.heap.size w w' := by
  obtain ⟨w0, hw0⟩ : ∃ W, W = w.alloc (.cells #[.string ⟨#[120]⟩, .int .i64 1, .slice none 0 0, .int .i64 0, .string ⟨#[]⟩, .string ⟨#[]⟩, .int .i64 2] 59) := ⟨_, rfl⟩
  have hbf : Below w.heap.size w w0 := by rw [hw0]; exact (Below.refl _ w).alloc (Nat.le_refl _) _
  obtain ⟨pf, hpf⟩ : ∃ q, q = w.heap.size := ⟨_, rfl⟩
  obtain ⟨fo, hfo⟩ : ∃ q, q = some (⟨pf, 0, none⟩ : Addr) := ⟨_, rfl⟩
  have hbF : BoxL w0 pf [.string ⟨#[120]⟩, .int .i64 1, .slice none 0 0, .int .i64 0, .string ⟨#[]⟩, .string ⟨#[]⟩, .int .i64 2] := by rw [hw0, hpf]; exact BoxL.new w _ _
  have HF : Hid (Flds w0 fo [⟨fldX, none, 0⟩]) := Lib.hid (by
    refine ⟨.inr ⟨pf, 0, hfo, hbF.lt, fun i x hi j c hj => ?_⟩, fun x hx => ?_⟩
    · cases i with
      | zero =>
        simp at hi
        subst hi
        simp only [Nat.zero_mul, Nat.zero_add]
        exact hbF.cell j c hj
      | succ i => simp at hi
    · simp at hx
      subst hx
      exact ⟨none, 0, rfl, Nat.le_refl _, Nat.zero_le _, .inl rfl⟩)
  have HW := Lib.hid hw0
  clear hw0
  go_enter Tryd.func17, Tryd.ntmps17
  go_upto_region 2 with fail
  rw [← HW.out, ← hpf, ← hfo]
  clear HW hpf hfo hbF
  go_wp2_with fail
  refine (two_any _).mono ?_
  rintro e w1 ⟨⟨n1, c1, rfl, hT⟩, hb⟩
  replace hbf := hbf.trans (hb.mono hbf.size)
  replace HF : Hid (Flds w1 fo [⟨fldX, none, 0⟩]) := Lib.hid (HF.out.below hb)
  clear hb
  have hcall := order_two n1 c1 w1.heap.size w1 hT (Nat.le_refl _)
  clear hT
  go_wp2_with fail
  refine hcall.mono ?_
  rintro e w2 ⟨⟨no, nc, rfl, hT⟩, hb⟩
  replace hbf := hbf.trans (hb.mono hbf.size)
  replace HF : Hid (Flds w2 fo [⟨fldX, none, 0⟩]) := Lib.hid (HF.out.below hb)
  clear hb hcall
  obtain ⟨w3, hw3, hb3, -, p2, hp2, hb2⟩ := boxT w2 no twoT.nodes.length nc twoT.ms twoT.nt
  obtain ⟨B, hB⟩ : ∃ B, B = w2.heap.size := ⟨_, rfl⟩
  rw [← hB] at hT
  have hBw : B ≤ w3.heap.size := by rw [hB]; exact hb3.size
  have HT : Hid (TrIs B w3 twoT no nc) := Lib.hid (hT.low (Low.of_below hb3 (by omega)))
  replace hbf := hbf.trans (hb3.mono hbf.size)
  replace HF : Hid (Flds w3 fo [⟨fldX, none, 0⟩]) := Lib.hid (HF.out.below hb3)
  have HW := Lib.hid hw3
  clear hw3 hb3 hT hB
  go_upto_region 3 with fail
  rw [← HW.out, ← hp2]
  clear HW hp2
  (try go_wp2_with fail)
  refine wp_region_seq (S := fun w' => BoxL w' p2 [.slice no twoT.nodes.length nc, .int .i64 twoT.ms, .int .i64 twoT.nt]) [(true, 1), (false, 0), (false, 2), (true, 3), (true, 4), (true, 5), (false, 6), (true, 7), (true, 8), (true, 9), (false, 10), (false, 11), (true, 12), (true, 13), (false, 14), (false, 15), (true, 16), (true, 17), (true, 18), (false, 19), (false, 20), (true, 21), (true, 22), (true, 23), (true, 24), (true, 25), (true, 26), (true, 27), (false, 28), (false, 29), (true, 30), (true, 31)] (by kernel_rfl) (by kernel_rfl) (by kernel_rfl) (by kernel_rfl) (by kernel_rfl) (fun d _ _ _ _ h => by cases d <;> exact h) hb2.drew (fun _ => ?_)
  simp only [pickOps, List.append_eq, List.cons_append, List.nil_append, List.getElem?_toArray, List.getElem?_cons_succ, List.getElem?_cons_zero]
  have hb : Below w3.heap.size w3 w3.drew := (Below.refl _ _).drew
  generalize w3.drew = wd at hb ⊢
  replace hb2 := hb2.kept hb
  replace HF : Hid (Flds _ fo [⟨fldX, none, 0⟩]) := Lib.hid (HF.out.below hb)
  replace HT : Hid (TrIs B _ twoT no nc) := Lib.hid (HT.out.low (Low.of_below hb hBw))
  replace hBw := Nat.le_trans hBw (hb).size
  replace hbf := hbf.trans (hb.mono hbf.size)
  clear hb
  repeat (first | (refine seq_take (v := ?_) (by rfl) ?_ ?_; rotate_left; (· intro w hSw; (try dsimp only at hSw); have e0 := hSw.cell 0 _ rfl; have e1 := hSw.cell 1 _ rfl; have e2 := hSw.cell 2 _ rfl; clear hSw; go_simp; all_goals with_reducible rfl); (try simp only [Act.put, List.setIfInBounds_toArray, List.set_cons_zero, List.set_cons_succ])) | (refine seq_leave (by rfl) ?_; (try simp only [Act.put, List.setIfInBounds_toArray, List.set_cons_zero, List.set_cons_succ])))
  refine seq_step (by rfl) (fun K hK => ?_)
  go_simp
  go_at_call 40
  refine (two_any _).mono ?_
  rintro e w11 ⟨⟨n11, c11, rfl, hT9⟩, hb⟩
  have HT11 := Lib.hid hT9
  clear hT9
  replace hb2 := hb2.kept hb
  replace HF : Hid (Flds _ fo [⟨fldX, none, 0⟩]) := Lib.hid (HF.out.below hb)
  replace HT : Hid (TrIs B _ twoT no nc) := Lib.hid (HT.out.low (Low.of_below hb hBw))
  replace hBw := Nat.le_trans hBw (hb).size
  replace hbf := hbf.trans (hb.mono hbf.size)
  clear hb
  first | refine hK.out _ _ hb2 (fun _ => ?_) | (go_wp2_with fail; refine hK.out _ _ hb2 (fun _ => ?_))
  clear hK K
  (try simp only [Act.put, List.setIfInBounds_toArray, List.set_cons_zero, List.set_cons_succ])
  repeat (first | (refine seq_take (v := ?_) (by rfl) ?_ ?_; rotate_left; (· intro w hSw; (try dsimp only at hSw); have e0 := hSw.cell 0 _ rfl; have e1 := hSw.cell 1 _ rfl; have e2 := hSw.cell 2 _ rfl; clear hSw; go_simp; all_goals with_reducible rfl); (try simp only [Act.put, List.setIfInBounds_toArray, List.set_cons_zero, List.set_cons_succ])) | (refine seq_leave (by rfl) ?_; (try simp only [Act.put, List.setIfInBounds_toArray, List.set_cons_zero, List.set_cons_succ])))
  refine seq_step (by rfl) (fun K hK => ?_)
  go_simp
  go_at_call 16
  (with_reducible refine (valid_two n11 c11 _ fo _ HT11 (Nat.le_refl _) HF).mono ?_)
  rintro e w12 ⟨rfl, hb⟩
  replace hb2 := hb2.kept hb
  replace HF : Hid (Flds _ fo [⟨fldX, none, 0⟩]) := Lib.hid (HF.out.below hb)
  replace HT : Hid (TrIs B _ twoT no nc) := Lib.hid (HT.out.low (Low.of_below hb hBw))
  replace hBw := Nat.le_trans hBw (hb).size
  replace hbf := hbf.trans (hb.mono hbf.size)
  clear hb
  first | refine hK.out _ _ hb2 (fun _ => ?_) | (go_wp2_with fail; refine hK.out _ _ hb2 (fun _ => ?_))
  clear hK K
  (try simp only [Act.put, List.setIfInBounds_toArray, List.set_cons_zero, List.set_cons_succ])
  repeat (first | (refine seq_take (v := ?_) (by rfl) ?_ ?_; rotate_left; (· intro w hSw; (try dsimp only at hSw); have e0 := hSw.cell 0 _ rfl; have e1 := hSw.cell 1 _ rfl; have e2 := hSw.cell 2 _ rfl; clear hSw; go_simp; all_goals with_reducible rfl); (try simp only [Act.put, List.setIfInBounds_toArray, List.set_cons_zero, List.set_cons_succ])) | (refine seq_leave (by rfl) ?_; (try simp only [Act.put, List.setIfInBounds_toArray, List.set_cons_zero, List.set_cons_succ])))
  refine seq_step (by rfl) (fun K hK => ?_)
  go_simp
  go_at_call 16
  (with_reducible refine (valid_none fo _ HF).mono ?_)
  rintro e w13 ⟨rfl, hb⟩
  replace hb2 := hb2.kept hb
  replace HF : Hid (Flds _ fo [⟨fldX, none, 0⟩]) := Lib.hid (HF.out.below hb)
  replace HT : Hid (TrIs B _ twoT no nc) := Lib.hid (HT.out.low (Low.of_below hb hBw))
  replace hBw := Nat.le_trans hBw (hb).size
  replace hbf := hbf.trans (hb.mono hbf.size)
  clear hb
  first | refine hK.out _ _ hb2 (fun _ => ?_) | (go_wp2_with fail; refine hK.out _ _ hb2 (fun _ => ?_))
  clear hK K
  (try simp only [Act.put, List.setIfInBounds_toArray, List.set_cons_zero, List.set_cons_succ])
  repeat (first | (refine seq_take (v := ?_) (by rfl) ?_ ?_; rotate_left; (· intro w hSw; (try dsimp only at hSw); have e0 := hSw.cell 0 _ rfl; have e1 := hSw.cell 1 _ rfl; have e2 := hSw.cell 2 _ rfl; clear hSw; go_simp; all_goals with_reducible rfl); (try simp only [Act.put, List.setIfInBounds_toArray, List.set_cons_zero, List.set_cons_succ])) | (refine seq_leave (by rfl) ?_; (try simp only [Act.put, List.setIfInBounds_toArray, List.set_cons_zero, List.set_cons_succ])))
  refine seq_step (by rfl) (fun K hK => ?_)
  go_simp
  go_at_call 40
  refine (two_any _).mono ?_
  rintro e w14 ⟨⟨n14, c14, rfl, hT9⟩, hb⟩
  have HT14 := Lib.hid hT9
  clear hT9
  replace hb2 := hb2.kept hb
  replace HF : Hid (Flds _ fo [⟨fldX, none, 0⟩]) := Lib.hid (HF.out.below hb)
  replace HT : Hid (TrIs B _ twoT no nc) := Lib.hid (HT.out.low (Low.of_below hb hBw))
  replace hBw := Nat.le_trans hBw (hb).size
  replace hbf := hbf.trans (hb.mono hbf.size)
  clear hb
  first | refine hK.out _ _ hb2 (fun _ => ?_) | (go_wp2_with fail; refine hK.out _ _ hb2 (fun _ => ?_))
  clear hK K
  (try simp only [Act.put, List.setIfInBounds_toArray, List.set_cons_zero, List.set_cons_succ])
  repeat (first | (refine seq_take (v := ?_) (by rfl) ?_ ?_; rotate_left; (· intro w hSw; (try dsimp only at hSw); have e0 := hSw.cell 0 _ rfl; have e1 := hSw.cell 1 _ rfl; have e2 := hSw.cell 2 _ rfl; clear hSw; go_simp; all_goals with_reducible rfl); (try simp only [Act.put, List.setIfInBounds_toArray, List.set_cons_zero, List.set_cons_succ])) | (refine seq_leave (by rfl) ?_; (try simp only [Act.put, List.setIfInBounds_toArray, List.set_cons_zero, List.set_cons_succ])))
  refine seq_step (by rfl) (fun K hK => ?_)
  go_simp
  go_at_call 41
  (with_reducible refine (leaf_two n14 c14 _ _ HT14 (Nat.le_refl _)).mono ?_)
  rintro e w15 ⟨rfl, hb⟩
  replace hb2 := hb2.kept hb
  replace HF : Hid (Flds _ fo [⟨fldX, none, 0⟩]) := Lib.hid (HF.out.below hb)
  replace HT : Hid (TrIs B _ twoT no nc) := Lib.hid (HT.out.low (Low.of_below hb hBw))
  replace hBw := Nat.le_trans hBw (hb).size
  replace hbf := hbf.trans (hb.mono hbf.size)
  clear hb
  first | refine hK.out _ _ hb2 (fun _ => ?_) | (go_wp2_with fail; refine hK.out _ _ hb2 (fun _ => ?_))
  clear hK K
  (try simp only [Act.put, List.setIfInBounds_toArray, List.set_cons_zero, List.set_cons_succ])
  repeat (first | (refine seq_take (v := ?_) (by rfl) ?_ ?_; rotate_left; (· intro w hSw; (try dsimp only at hSw); have e0 := hSw.cell 0 _ rfl; have e1 := hSw.cell 1 _ rfl; have e2 := hSw.cell 2 _ rfl; clear hSw; go_simp; all_goals with_reducible rfl); (try simp only [Act.put, List.setIfInBounds_toArray, List.set_cons_zero, List.set_cons_succ])) | (refine seq_leave (by rfl) ?_; (try simp only [Act.put, List.setIfInBounds_toArray, List.set_cons_zero, List.set_cons_succ])))
  refine seq_step (by rfl) (fun K hK => ?_)
  go_simp
  go_at_call 40
  refine (two_any _).mono ?_
  rintro e w16 ⟨⟨n16, c16, rfl, hT9⟩, hb⟩
  have HT16 := Lib.hid hT9
  clear hT9
  replace hb2 := hb2.kept hb
  replace HF : Hid (Flds _ fo [⟨fldX, none, 0⟩]) := Lib.hid (HF.out.below hb)
  replace HT : Hid (TrIs B _ twoT no nc) := Lib.hid (HT.out.low (Low.of_below hb hBw))
  replace hBw := Nat.le_trans hBw (hb).size
  replace hbf := hbf.trans (hb.mono hbf.size)
  clear hb
  first | refine hK.out _ _ hb2 (fun _ => ?_) | (go_wp2_with fail; refine hK.out _ _ hb2 (fun _ => ?_))
  clear hK K
  (try simp only [Act.put, List.setIfInBounds_toArray, List.set_cons_zero, List.set_cons_succ])
  repeat (first | (refine seq_take (v := ?_) (by rfl) ?_ ?_; rotate_left; (· intro w hSw; (try dsimp only at hSw); have e0 := hSw.cell 0 _ rfl; have e1 := hSw.cell 1 _ rfl; have e2 := hSw.cell 2 _ rfl; clear hSw; go_simp; all_goals with_reducible rfl); (try simp only [Act.put, List.setIfInBounds_toArray, List.set_cons_zero, List.set_cons_succ])) | (refine seq_leave (by rfl) ?_; (try simp only [Act.put, List.setIfInBounds_toArray, List.set_cons_zero, List.set_cons_succ])))
  refine seq_step (by rfl) (fun K hK => ?_)
  go_simp
  go_at_call 20
  (with_reducible refine (up_two n16 c16 _ _ HT16 (Nat.le_refl _)).mono ?_)
  rintro e w17 ⟨rfl, hb⟩
  replace hb2 := hb2.kept hb
  replace HF : Hid (Flds _ fo [⟨fldX, none, 0⟩]) := Lib.hid (HF.out.below hb)
  replace HT : Hid (TrIs B _ twoT no nc) := Lib.hid (HT.out.low (Low.of_below hb hBw))
  replace hBw := Nat.le_trans hBw (hb).size
  replace hbf := hbf.trans (hb.mono hbf.size)
  clear hb
  first | refine hK.out _ _ hb2 (fun _ => ?_) | (go_wp2_with fail; refine hK.out _ _ hb2 (fun _ => ?_))
  clear hK K
  (try simp only [Act.put, List.setIfInBounds_toArray, List.set_cons_zero, List.set_cons_succ])
  repeat (first | (refine seq_take (v := ?_) (by rfl) ?_ ?_; rotate_left; (· intro w hSw; (try dsimp only at hSw); have e0 := hSw.cell 0 _ rfl; have e1 := hSw.cell 1 _ rfl; have e2 := hSw.cell 2 _ rfl; clear hSw; go_simp; all_goals with_reducible rfl); (try simp only [Act.put, List.setIfInBounds_toArray, List.set_cons_zero, List.set_cons_succ])) | (refine seq_leave (by rfl) ?_; (try simp only [Act.put, List.setIfInBounds_toArray, List.set_cons_zero, List.set_cons_succ])))
  refine seq_step (by rfl) (fun K hK => ?_)
  go_simp
  go_at_call 40
  refine (two_any _).mono ?_
  rintro e w18 ⟨⟨n18, c18, rfl, hT9⟩, hb⟩
  have HT18 := Lib.hid hT9
  clear hT9
  replace hb2 := hb2.kept hb
  replace HF : Hid (Flds _ fo [⟨fldX, none, 0⟩]) := Lib.hid (HF.out.below hb)
  replace HT : Hid (TrIs B _ twoT no nc) := Lib.hid (HT.out.low (Low.of_below hb hBw))
  replace hBw := Nat.le_trans hBw (hb).size
  replace hbf := hbf.trans (hb.mono hbf.size)
  clear hb
  first | refine hK.out _ _ hb2 (fun _ => ?_) | (go_wp2_with fail; refine hK.out _ _ hb2 (fun _ => ?_))
  clear hK K
  (try simp only [Act.put, List.setIfInBounds_toArray, List.set_cons_zero, List.set_cons_succ])
  repeat (first | (refine seq_take (v := ?_) (by rfl) ?_ ?_; rotate_left; (· intro w hSw; (try dsimp only at hSw); have e0 := hSw.cell 0 _ rfl; have e1 := hSw.cell 1 _ rfl; have e2 := hSw.cell 2 _ rfl; clear hSw; go_simp; all_goals with_reducible rfl); (try simp only [Act.put, List.setIfInBounds_toArray, List.set_cons_zero, List.set_cons_succ])) | (refine seq_leave (by rfl) ?_; (try simp only [Act.put, List.setIfInBounds_toArray, List.set_cons_zero, List.set_cons_succ])))
  refine seq_step (by rfl) (fun K hK => ?_)
  go_simp
  go_at_call 21
  (with_reducible refine (depth_two n18 c18 _ _ HT18 (Nat.le_refl _)).mono ?_)
  rintro e w19 ⟨rfl, hb⟩
  replace hb2 := hb2.kept hb
  replace HF : Hid (Flds _ fo [⟨fldX, none, 0⟩]) := Lib.hid (HF.out.below hb)
  replace HT : Hid (TrIs B _ twoT no nc) := Lib.hid (HT.out.low (Low.of_below hb hBw))
  replace hBw := Nat.le_trans hBw (hb).size
  replace hbf := hbf.trans (hb.mono hbf.size)
  clear hb
  first | refine hK.out _ _ hb2 (fun _ => ?_) | (go_wp2_with fail; refine hK.out _ _ hb2 (fun _ => ?_))
  clear hK K
  (try simp only [Act.put, List.setIfInBounds_toArray, List.set_cons_zero, List.set_cons_succ])
  repeat (first | (refine seq_take (v := ?_) (by rfl) ?_ ?_; rotate_left; (· intro w hSw; (try dsimp only at hSw); have e0 := hSw.cell 0 _ rfl; have e1 := hSw.cell 1 _ rfl; have e2 := hSw.cell 2 _ rfl; clear hSw; go_simp; all_goals with_reducible rfl); (try simp only [Act.put, List.setIfInBounds_toArray, List.set_cons_zero, List.set_cons_succ])) | (refine seq_leave (by rfl) ?_; (try simp only [Act.put, List.setIfInBounds_toArray, List.set_cons_zero, List.set_cons_succ])))
  refine seq_step (by rfl) (fun K hK => ?_)
  go_simp
  go_at_call 40
  refine (two_any _).mono ?_
  rintro e w20 ⟨⟨n20, c20, rfl, hT9⟩, hb⟩
  have HT20 := Lib.hid hT9
  clear hT9
  replace hb2 := hb2.kept hb
  replace HF : Hid (Flds _ fo [⟨fldX, none, 0⟩]) := Lib.hid (HF.out.below hb)
  replace HT : Hid (TrIs B _ twoT no nc) := Lib.hid (HT.out.low (Low.of_below hb hBw))
  replace hBw := Nat.le_trans hBw (hb).size
  replace hbf := hbf.trans (hb.mono hbf.size)
  clear hb
  first | refine hK.out _ _ hb2 (fun _ => ?_) | (go_wp2_with fail; refine hK.out _ _ hb2 (fun _ => ?_))
  clear hK K
  (try simp only [Act.put, List.setIfInBounds_toArray, List.set_cons_zero, List.set_cons_succ])
  repeat (first | (refine seq_take (v := ?_) (by rfl) ?_ ?_; rotate_left; (· intro w hSw; (try dsimp only at hSw); have e0 := hSw.cell 0 _ rfl; have e1 := hSw.cell 1 _ rfl; have e2 := hSw.cell 2 _ rfl; clear hSw; go_simp; all_goals with_reducible rfl); (try simp only [Act.put, List.setIfInBounds_toArray, List.set_cons_zero, List.set_cons_succ])) | (refine seq_leave (by rfl) ?_; (try simp only [Act.put, List.setIfInBounds_toArray, List.set_cons_zero, List.set_cons_succ])))
  refine seq_step (by rfl) (fun K hK => ?_)
  go_simp
  go_at_call 42
  (with_reducible refine (same_two no n20 nc c20 _ _ (Lib.hid (HT.out.mono (by omega))) HT20 (Nat.le_refl _)).mono ?_)
  rintro e w21 ⟨rfl, hb⟩
  replace hb2 := hb2.kept hb
  replace HF : Hid (Flds _ fo [⟨fldX, none, 0⟩]) := Lib.hid (HF.out.below hb)
  replace HT : Hid (TrIs B _ twoT no nc) := Lib.hid (HT.out.low (Low.of_below hb hBw))
  replace hBw := Nat.le_trans hBw (hb).size
  replace hbf := hbf.trans (hb.mono hbf.size)
  clear hb
  first | refine hK.out _ _ hb2 (fun _ => ?_) | (go_wp2_with fail; refine hK.out _ _ hb2 (fun _ => ?_))
  clear hK K
  (try simp only [Act.put, List.setIfInBounds_toArray, List.set_cons_zero, List.set_cons_succ])
  repeat (first | (refine seq_take (v := ?_) (by rfl) ?_ ?_; rotate_left; (· intro w hSw; (try dsimp only at hSw); have e0 := hSw.cell 0 _ rfl; have e1 := hSw.cell 1 _ rfl; have e2 := hSw.cell 2 _ rfl; clear hSw; go_simp; all_goals with_reducible rfl); (try simp only [Act.put, List.setIfInBounds_toArray, List.set_cons_zero, List.set_cons_succ])) | (refine seq_leave (by rfl) ?_; (try simp only [Act.put, List.setIfInBounds_toArray, List.set_cons_zero, List.set_cons_succ])))
  refine seq_end ?_
  go_wp2_with fail
  go_ret
  exact ⟨ret_one rfl, hbf⟩
end Go.Proofs.YtlmjkbdodecbmaaDoor

namespace Go.Proofs.YtlmjkbdodecbmaaDoor
open Go.RowKit
set_option linter.unusedVariables false
set_option linter.unusedSimpArgs false
/-- A tree with one node set anew. -/
def setT (t : TR) (n : Nat) (x : TN) : TR := ⟨t.nodes.set n x, t.ms, t.nt⟩
theorem setT_N (t : TR) (n : Nat) (x : TN) : (setT t n x).N = t.N := by unfold setT TR.N; simp
theorem setT_at {t : TR} {n : Nat} {x : TN} (hn : n < t.N) : (setT t n x).nodes[n]? = some x := by
  show (t.nodes.set n x)[n]? = some x
  rw [List.getElem?_set_self]
  exact hn
theorem setT_ne {t : TR} {n m : Nat} {x : TN} (h : m ≠ n) : (setT t n x).nodes[m]? = t.nodes[m]? := by
  show (t.nodes.set n x)[m]? = _
  rw [List.getElem?_set_ne (by omega)]
theorem shape_no {fs : List F5} {t : TR} (h : ∀ up, OnceT t up → shapeB t = true → False) : validT fs t = false := by
  cases hv : validT fs t with
  | false => rfl
  | true =>
    obtain ⟨_, _, hs, _⟩ := validT_out hv
    obtain ⟨up, _, ho, _⟩ := shapeB_true hs
    exact (h up ho hs).elim
/-- A kid once more. -/
theorem astray_0 {fs : List F5} {t : TR} (h : validT fs t = true) {n k : Nat} {x y : TN} (hx : t.nodes[n]? = some x) (hk : k < t.N) (hy : y.kids = x.kids ++ [(k : Int)]) : validT fs (setT t n y) = false := by
  obtain ⟨_, _, hs, _⟩ := validT_out h
  have hn : n < t.N := (List.getElem?_eq_some_iff.1 hx).1
  refine shape_no fun up ho hu => ?_
  have hyn := setT_at (x := y) hn
  have h1 := (ho.val n y hyn k (by rw [hy]; simp)).1
  obtain ⟨m, z, hz, hm⟩ := shape_parent hs k hk (by omega)
  by_cases hmn : m = n
  · subst hmn
    rw [hx] at hz
    cases hz
    have := ho.nd m y hyn
    rw [hy, List.nodup_append] at this
    exact this.2.2 _ hm _ (by simp) rfl
  · have hz2 : (setT t n y).nodes[m]? = some z := by rw [setT_ne hmn]; exact hz
    exact ho.dj m n z y hz2 hyn hmn _ hm (by rw [hy]; simp)
/-- A kid left out. -/
theorem astray_1 {fs : List F5} {t : TR} (h : validT fs t = true) {n : Nat} {x y : TN} (hx : t.nodes[n]? = some x) (hne : x.kids ≠ []) (hy : y.kids = x.kids.drop 1) : validT fs (setT t n y) = false := by
  obtain ⟨_, _, hs, _⟩ := validT_out h
  obtain ⟨up0, _, ho0, _⟩ := shapeB_true hs
  have hn : n < t.N := (List.getElem?_eq_some_iff.1 hx).1
  refine shape_no fun up ho hu => ?_
  have hyn := setT_at (x := y) hn
  cases hxk : x.kids with
  | nil => exact hne hxk
  | cons c r =>
    have hc : c ∈ x.kids := by rw [hxk]; simp
    obtain ⟨h1, h2, _⟩ := ho0.val n x hx c hc
    have hyr : y.kids = r := by rw [hy, hxk]; rfl
    have hnd := ho0.nd n x hx
    rw [hxk, List.nodup_cons] at hnd
    obtain ⟨m, z, hz, hm⟩ := shape_parent hu c.toNat (by rw [setT_N]; omega) (by omega)
    rw [Int.toNat_of_nonneg (by omega)] at hm
    by_cases hmn : m = n
    · subst hmn
      rw [hyn] at hz
      cases hz
      rw [hyr] at hm
      exact hnd.1 hm
    · rw [setT_ne hmn] at hz
      exact ho0.dj m n z x hz hx hmn _ hm hc
/-- A default that is no kid. -/
theorem astray_2 {fs : List F5} {t : TR} (h : validT fs t = true) {n : Nat} {x y : TN} (hx : t.nodes[n]? = some x) (hy : y.kids = x.kids) (hd : y.df = (t.N : Int)) : validT fs (setT t n y) = false := by
  obtain ⟨_, _, hs, _⟩ := validT_out h
  obtain ⟨up0, _, ho0, _⟩ := shapeB_true hs
  have hn : n < t.N := (List.getElem?_eq_some_iff.1 hx).1
  cases hv : validT fs (setT t n y) with
  | false => rfl
  | true =>
    obtain ⟨_, ha, _, _⟩ := validT_out hv
    have h1 := List.all_eq_true.1 ha y (List.mem_of_getElem? (setT_at (x := y) hn))
    unfold nodeB at h1
    simp only [Bool.and_eq_true, Bool.or_eq_true, decide_eq_true_eq] at h1
    rcases h1.2.2.2 with h2 | h2
    · rw [hd] at h2; omega
    · rw [hy, hd] at h2
      have := (ho0.val n x hx _ h2).2.1
      omega
/-- A kid that is no node. -/
theorem astray_3 {fs : List F5} {t : TR} {n : Nat} {x y : TN} (hx : t.nodes[n]? = some x) (hy : y.kids = x.kids ++ [(t.N : Int)]) : validT fs (setT t n y) = false := by
  have hn : n < t.N := (List.getElem?_eq_some_iff.1 hx).1
  refine shape_no fun up ho hu => ?_
  have h1 := (ho.val n y (setT_at (x := y) hn) (t.N : Int) (by rw [hy]; simp)).2.1
  rw [setT_N] at h1
  omega
end Go.Proofs.YtlmjkbdodecbmaaDoor

namespace Go.Proofs.YtlmjkbdodecbmaaDoor
open Go.RowKit Go.Shelf
set_option linter.unusedVariables false
set_option linter.unusedSimpArgs false
theorem fields_t (ao : Option Addr) (cap : Nat) (xs : List FV) (b9 : Bool) (w : World) (hv : Hid (Flds w ao xs)) (hlen : Hid (xs.length ≤ 9223372036854775807)) (hl : Hid (∀ x ∈ xs, BigF x.f)) (HB : Hid (b9 = fieldsB (xs.map (·.f)))) : Calls Tryd.prog 15 #[.slice ao xs.length cap] w fun e w' => e = .returned (.bool b9) ∧ Below w.heap.size w w' := fieldsBk_any ao cap xs b9 w hv.out hlen.out hl.out HB
theorem tvalid_h (t : TR) (no : Option Addr) (nc : Nat) (B : Nat) (ao : Option Addr) (cap : Nat) (xs : List FV) (b : Bool) (w : World) (hT : Hid (TrIs B w t no nc)) (hBw : B ≤ w.heap.size) (hsz : Hid (t.nodes.length + (t.nodes.map fun x => x.kids.length).sum ≤ 1500)) (hsm : Hid (∀ x ∈ t.nodes, SmN x)) (hf : Hid (Flds w ao xs)) (hxl : Hid (xs.length ≤ 1000000)) (HB : Hid (b = validT (xs.map (·.f)) t)) :
    Calls Tryd.prog 16 #[.agg #[.slice no t.nodes.length nc, .int .i64 t.ms, .int .i64 t.nt], .slice ao xs.length cap] w fun e w' => e = .returned (.bool b) ∧ Below w.heap.size w w' := tvalid_any t no nc B ao cap xs b w hT.out hBw hsz.out hsm hf hxl.out HB
end Go.Proofs.YtlmjkbdodecbmaaDoor

namespace Go.Proofs.YtlmjkbdodecbmaaDoor
open Go.RowKit Go.Shelf
set_option linter.unusedVariables false
set_option linter.unusedSimpArgs false
section
variable {P : Program} {t e : TypeId} {z : Value} {K bytes : Nat}
/-- append(nil, l...): l any slice. -/
theorem appendNil (E : ElemK P t e z K bytes) {w : World} {ops : Array Oper} {rest : List Oper} {o : Oper} {a : Act} {Q : Exit → Act → World → Prop} {s x : Operand} {m c : Nat} {news : List Value} {xo : Option Addr}
    (hsrc : (xo = none ∧ m = 0 ∧ c = 0) ∨ ∃ ad, xo = some ad ∧ ∀ j u, news[j]? = some u → w.cell? (ad.add j) = some u) (hl : news.length = m * K) (h1 : ∀ u ∈ news, u.oneCell' = true) (hb : m * bytes ≤ 140737488355328) (hm : m ≤ maxLen)
    (hgd : o.guard = none) (ho : o.op = .call { callee := .builtin .append, args := #[s, x], argTypes := #[t, t] }) (hs : a.eval s = .slice none 0 0) (hx : a.eval x = .slice xo m c)
    (h : ∀ v' w', OwnsK K w.heap.size e w' v' m news → Below w.heap.size w w' → wpList P ops Q rest (a.put o.dst v') w') : wpList P ops Q (o :: rest) a w := by
  refine wpList_plain hgd fun K' hK => step_appendT E (OwnsK.nil _ w.heap.size e w) ho hs hx hl hsrc h1 (by simpa using hb) (by simpa using hm) (Nat.le_refl _) fun v' w' r1 r2 _ => hK _ _ (h v' w' (by simpa using r1) ⟨r2.os, r2.tape, r2.output, r2.size, fun k hk => r2.block k hk (by simp [Value.ownBlock])⟩)
end
theorem BoxL.of_ownsC {K base : Nat} {e : TypeId} {w : World} {g n c : Nat} {xs : List Value} (h : OwnsK K base e w (.slice (some ⟨g, 0, none⟩) n c) n xs) : BoxL w g xs := by
  obtain ⟨h1, ⟨h2, _⟩ | ⟨g', cap, cur, e1, h3, h4, h5, h6, h7, h8⟩⟩ := h
  · cases h2
  · cases e1
    refine ⟨fun i x hi => ?_, fun i hi => ?_, (Array.getElem?_eq_some_iff.1 h4).1⟩
    · unfold World.cell?
      rw [h4]
      rw [← h8, List.getElem?_take] at hi
      split at hi
      · simpa using hi
      · cases hi
    · unfold World.frozen?
      rw [h4]
      simp
/-- The source of a copy of ints. -/
theorem IntsB.src {B : Nat} {w : World} {io : Option Addr} {ic : Nat} {ns : List Int} (h : IntsB B w io ic ns) : (io = none ∧ ns.length = 0 ∧ ic = 0) ∨ ∃ ad, io = some ad ∧ ∀ j u, (icel ns)[j]? = some u → w.cell? (ad.add j) = some u := by
  cases hio : io with
  | none =>
    have h1 := h.no hio
    have h2 := h.cap
    exact .inl ⟨rfl, by omega, h1⟩
  | some ad =>
    refine .inr ⟨ad, rfl, fun j u hj => ?_⟩
    obtain ⟨n, hn, rfl⟩ := icel_inv hj
    obtain ⟨b, off, e, hb, hc⟩ := h.at_ j n hn
    rw [hio] at e
    cases e
    rw [Addr.add_lit]
    exact hc
theorem IntsB.of_owns {base : Nat} {e : TypeId} {w : World} {io : Option Addr} {n ic : Nat} {ns : List Int} (h : OwnsK 1 base e w (.slice io n ic) n (icel ns)) (hn : ns.length = n) : IntsB w.heap.size w io ic ns := (IntsQ.of_owns h hn).toB
/-- The rest of a row of ints. -/
theorem IntsB.rest {B : Nat} {w : World} {b off ic : Nat} {n : Int} {ns : List Int} (h : IntsB B w (some ⟨b, off, none⟩) ic (n :: ns)) : IntsB B w (some ⟨b, off + 1, none⟩) (ic - 1) ns := by
  have hc := h.cap
  rw [List.length_cons] at hc
  refine ⟨⟨by omega, by omega⟩, fun e => (by cases e), fun i x hi => ?_⟩
  obtain ⟨b', off', e, hb, hx⟩ := h.at_ (i + 1) x (by simpa using hi)
  cases e
  exact ⟨b, off + 1, rfl, hb, by rw [show off + 1 + i = off + (i + 1) by omega]; exact hx⟩
theorem IntsB.rest2 {B : Nat} {w : World} {b off ic : Nat} {n : Int} {ns : List Int} (h : IntsB B w (some ⟨b, off, none⟩) ic (n :: ns)) : IntsB B w (if ic = 1 then some ⟨b, off, none⟩ else some ⟨b, off + 1, none⟩) (ic - 1) ns := by
  by_cases h1 : ic = 1
  · rw [if_pos h1]
    have hc := h.cap
    rw [List.length_cons] at hc
    have hn : ns = [] := List.eq_nil_of_length_eq_zero (by omega)
    subst hn
    exact ⟨⟨Nat.zero_le _, by omega⟩, fun e => (by cases e), fun i x hi => by simp at hi⟩
  · rw [if_neg h1]
    exact h.rest
/-- A tree's nodes as cells. -/
theorem TrIs.cells {B : Nat} {w : World} {t : TR} {b off nc : Nat} (h : TrIs B w t (some ⟨b, off, none⟩) nc) : ∀ k, k ≤ t.nodes.length → ∃ news : List Value, news.length = k * 8 ∧ (∀ j u, news[j]? = some u → w.cell? ⟨b, off + j, none⟩ = some u) ∧ (∀ u ∈ news, u.oneCell' = true) ∧ ∀ i n, i < k → t.nodes[i]? = some n → ∃ l, NdIs B w n l ∧ ndLs news (i * 8) n l := by
  intro k
  induction k with
  | zero => intro _; exact ⟨[], rfl, by simp, by simp, fun i n hi => absurd hi (Nat.not_lt_zero _)⟩
  | succ k ih =>
    intro hk
    obtain ⟨news, h1, h2, h3, h4⟩ := ih (by omega)
    obtain ⟨n, hn⟩ : ∃ n, t.nodes[k]? = some n := ⟨_, List.getElem?_eq_getElem (by omega)⟩
    obtain ⟨b', off', l, e, hb, h5, h6⟩ := h.at_ k n hn
    cases e
    obtain ⟨c0, c1, c2, c3, c4, c5, c6, c7⟩ := h6
    obtain ⟨cs, hcs⟩ : ∃ cs : List Value, cs = [.int .i64 n.p.op, .int .i64 n.p.fld, .slice l.vo n.p.vals.length l.vc, .slice l.ko n.p.kids.length l.kc, .string ⟨n.sc.toArray⟩, .string ⟨n.ct.toArray⟩, .slice l.io n.kids.length l.ic, .int .i64 n.df] := ⟨_, rfl⟩
    have hcl : cs.length = 8 := by rw [hcs]; rfl
    have hat : ∀ r u, cs[r]? = some u → w.cell? ⟨b, off + (k * 8 + r), none⟩ = some u := by
      intro r u hr
      rw [show off + (k * 8 + r) = off + k * 8 + r by omega]
      rw [hcs] at hr
      match r, hr with
      | 0, hr => cases hr; exact c0
      | 1, hr => cases hr; exact c1
      | 2, hr => cases hr; exact c2
      | 3, hr => cases hr; exact c3
      | 4, hr => cases hr; exact c4
      | 5, hr => cases hr; exact c5
      | 6, hr => cases hr; exact c6
      | 7, hr => cases hr; exact c7
    refine ⟨news ++ cs, by rw [List.length_append, h1, hcl]; omega, fun j u hj => ?_, fun u hu => ?_, fun i m hi hm => ?_⟩
    · rcases Nat.lt_or_ge j (k * 8) with h9 | h9
      · rw [List.getElem?_append_left (by omega)] at hj
        exact h2 j u hj
      · rw [List.getElem?_append_right (by omega), h1] at hj
        have := hat _ u hj
        rw [show k * 8 + (j - k * 8) = j by omega] at this
        exact this
    · rcases List.mem_append.1 hu with h9 | h9
      · exact h3 u h9
      · rw [hcs] at h9
        simp only [List.mem_cons, List.not_mem_nil, or_false] at h9
        rcases h9 with rfl | rfl | rfl | rfl | rfl | rfl | rfl | rfl <;> rfl
    · by_cases hik : i = k
      · subst hik
        rw [hn] at hm
        cases hm
        have hx : ∀ r, (news ++ cs)[i * 8 + r]? = cs[r]? := fun r => by rw [List.getElem?_append_right (by omega), h1, show i * 8 + r - i * 8 = r by omega]
        refine ⟨l, h5, ?_⟩
        have h0 := hx 0
        rw [Nat.add_zero] at h0
        exact ⟨by rw [h0, hcs]; rfl, by rw [hx, hcs]; rfl, by rw [hx, hcs]; rfl, by rw [hx, hcs]; rfl, by rw [hx, hcs]; rfl, by rw [hx, hcs]; rfl, by rw [hx, hcs]; rfl, by rw [hx, hcs]; rfl⟩
      · obtain ⟨l2, h7, h8⟩ := h4 i m (by omega) hm
        exact ⟨l2, h7, Ls8.keep h8 fun c hc => by rw [List.getElem?_append_left (by omega)]⟩
/-- The tree behind the change. -/
theorem TrIs.of_set {B hi : Nat} {w w' : World} {t : TR} {g n cap : Nat} {y : TN} {l : NdL} {news : List Value} (hlen : news.length = t.nodes.length * 8) (hall : ∀ i m, i < t.nodes.length → t.nodes[i]? = some m → ∃ l, NdIs B w m l ∧ ndLs news (i * 8) m l) (hlow : Low B w w') (hB : B ≤ hi)
    (hn : n < t.nodes.length) (hy : NdIs hi w' y l) (hb : BoxL w' g (set8 news (n * 8) (.int .i64 y.p.op) (.int .i64 y.p.fld) (.slice l.vo y.p.vals.length l.vc) (.slice l.ko y.p.kids.length l.kc) (.string ⟨y.sc.toArray⟩) (.string ⟨y.ct.toArray⟩) (.slice l.io y.kids.length l.ic) (.int .i64 y.df))) (hg : g < hi) (hc : t.nodes.length ≤ cap ∧ cap ≤ maxLen) :
    TrIs hi w' (setT t n y) (some ⟨g, 0, none⟩) cap := by
  refine ⟨by show (t.nodes.set n y).length ≤ cap ∧ _; rw [List.length_set]; exact hc, (fun e => by cases e), fun i m hm => ?_⟩
  have hi9 : i < t.nodes.length := by
    have h9 := (List.getElem?_eq_some_iff.1 hm).1
    have h8 : (setT t n y).nodes.length = t.nodes.length := by show (t.nodes.set n y).length = _; rw [List.length_set]
    omega
  by_cases hin : i = n
  · subst hin
    rw [setT_at (x := y) hi9] at hm
    cases hm
    refine ⟨g, 0, l, rfl, hg, hy, ?_⟩
    rw [Nat.zero_add]
    exact (set8_at (by omega)).at8 hb
  · rw [setT_ne hin] at hm
    obtain ⟨l2, h1, h2⟩ := hall i m hi9 hm
    refine ⟨g, 0, l2, rfl, hg, (h1.low hlow).mono hB, ?_⟩
    rw [Nat.zero_add]
    exact (Ls8.keep h2 fun c hc => set8_ne (by omega)).at8 hb
theorem sum_set (f : TN → Nat) : ∀ (l : List TN) (n : Nat) (x y : TN), l[n]? = some x → ((l.set n y).map f).sum + f x = (l.map f).sum + f y := by
  intro l
  induction l with
  | nil => intro n x y h; simp at h
  | cons a l ih =>
    intro n x y h
    cases n with
    | zero =>
      simp at h
      subst h
      rw [List.set_cons_zero, List.map_cons, List.map_cons, List.sum_cons, List.sum_cons]
      omega
    | succ n =>
      simp at h
      have := ih n x y h
      rw [List.set_cons_succ, List.map_cons, List.map_cons, List.sum_cons, List.sum_cons]
      omega
theorem treeR_big : ∀ (ls : List TN) (n : Int), 0 ≤ treeR n ls → n ≤ 2000 → treeR n ls + 2 * ((ls.length : Nat) : Int) + (((ls.map fun x => x.kids.length).sum : Nat) : Int) ≤ n := by
  intro ls
  induction ls with
  | nil => intro n h hn; rw [treeR] at h ⊢; simp
  | cons x r ih =>
    intro n h hn
    rw [treeR] at h ⊢
    by_cases h0 : n < 0
    · rw [if_pos h0] at h; omega
    · rw [if_neg h0] at h ⊢
      have h9 : 0 ≤ predR (roomL n [4, x.sc.length, x.ct.length, x.kids.length]) x.p := by
        by_cases h8 : predR (roomL n [4, x.sc.length, x.ct.length, x.kids.length]) x.p < 0
        · rw [treeR_neg h8] at h; omega
        · omega
      have h7 : 0 ≤ roomL n [4, x.sc.length, x.ct.length, x.kids.length] := by
        by_cases h8 : roomL n [4, x.sc.length, x.ct.length, x.kids.length] < 0
        · have hz : predR (roomL n [4, x.sc.length, x.ct.length, x.kids.length]) x.p < 0 := by
            generalize roomL n [4, x.sc.length, x.ct.length, x.kids.length] = m at h8
            have hl : roomL m [1] ≤ m ∨ roomL m [1] = -1 := roomL_le _ _
            have hl2 : roomL m [1] < 0 := by omega
            rw [predR_eq, valsRoom_neg hl2, predsR_neg hl2]; exact hl2
          omega
        · omega
      obtain ⟨h5, h6⟩ := roomL_sum _ h7
      simp only [List.sum_cons, List.sum_nil, Int.natCast_add] at h5
      obtain ⟨h1, h2, h3⟩ := predR_le x.p _ h9 (by omega)
      have k1 := ih _ h (by omega)
      rw [List.length_cons, List.map_cons, List.sum_cons]
      omega
/-- A tree that the book takes has room for one kid more. -/
theorem treeB_room {t : TR} (h : treeB t = true) {n : Nat} {x y : TN} (hx : t.nodes[n]? = some x) (hk : y.kids.length ≤ x.kids.length + 1) (hp : y.p = x.p ∧ y.sc = x.sc ∧ y.ct = x.ct) :
    (setT t n y).nodes.length + ((setT t n y).nodes.map fun x => x.kids.length).sum ≤ 1500 ∧ ∀ z ∈ (setT t n y).nodes, SmN z := by
  obtain ⟨h1, h2⟩ := treeB_le h
  unfold treeB at h
  simp only [decide_eq_true_eq] at h
  have h3 := treeR_big t.nodes 1500 h (by decide)
  have hn : n < t.nodes.length := (List.getElem?_eq_some_iff.1 hx).1
  have hs := sum_set (fun x => x.kids.length) t.nodes n x y hx
  have hsx := h2 x (List.mem_of_getElem? hx)
  refine ⟨?_, fun z hz => ?_⟩
  · show (t.nodes.set n y).length + ((t.nodes.set n y).map fun x => x.kids.length).sum ≤ 1500
    rw [List.length_set]
    (try dsimp only at hs)
    omega
  · have hz9 : z ∈ t.nodes.set n y := hz
    rcases List.mem_or_eq_of_mem_set hz9 with h9 | rfl
    · exact h2 z h9
    · have hxk := kids_sum hx
      exact ⟨by rw [hp.2.1]; exact hsx.sc, by rw [hp.2.2]; exact hsx.ct, by omega, by rw [hp.1]; exact hsx.p, by rw [hp.1]; exact hsx.sz⟩
/-- Valid, of a tree by its letters. -/
theorem tvalid_l (t : TR) (N : Nat) (ms nt : Int) (no : Option Addr) (nc : Nat) (B : Nat) (ao : Option Addr) (cap : Nat) (xs : List FV) (b : Bool) (w : World) (hN : Hid (t.nodes.length = N ∧ t.ms = ms ∧ t.nt = nt)) (hT : Hid (TrIs B w t no nc)) (hBw : B ≤ w.heap.size) (hsz : Hid ((t.nodes.length + (t.nodes.map fun x => x.kids.length).sum ≤ 1500) ∧ ∀ x ∈ t.nodes, SmN x)) (hf : Hid (Flds w ao xs)) (hxl : Hid (xs.length ≤ 1000000)) (HB : Hid (b = validT (xs.map (·.f)) t)) :
    Calls Tryd.prog 16 #[.agg #[.slice no N nc, .int .i64 ms, .int .i64 nt], .slice ao xs.length cap] w fun e w' => e = .returned (.bool b) ∧ Below w.heap.size w w' := by
  obtain ⟨rfl, rfl, rfl⟩ := hN.out
  exact tvalid_any t no nc B ao cap xs b w hT.out hBw hsz.out.1 (Lib.hid hsz.out.2) hf hxl.out HB
end Go.Proofs.YtlmjkbdodecbmaaDoor

namespace Go.Proofs.YtlmjkbdodecbmaaDoor
open Go.ChangeShapes Go.WideShapes Go.ChangeAt Go.RowKit Go.Deep
set_option linter.unusedVariables false
set_option maxRecDepth 100000 in
theorem laidOutN : laidOutB Tryd.prog = true := by kernel_rfl
theorem string_field {H : Type} {enc : TypeId × Value → H} {P : Program} {W : World} {base : Nat} {spare : Nat → Bool} {held : Bool} {n : Nat} {t : TypeId} {u : Value} {y : DataW H × List MemPlace} (ht : P.underlying t = some .string) (h : DataW.trod enc P W base spare held n t [u] = some y) :
    ∃ l : List UInt8, u = .string ⟨l.toArray⟩ ∧ l.length ≤ 9223372036854775807 := by
  obtain ⟨s, hs, _, hm⟩ := DataW.trod_string ht h
  obtain ⟨⟨l⟩⟩ := s
  simp at hs
  refine ⟨l, hs, ?_⟩
  unfold maxLen at hm
  have h9 : (⟨⟨l⟩⟩ : ByteArray).size = l.length := rfl
  omega
end Go.Proofs.YtlmjkbdodecbmaaDoor

namespace Go.Proofs.YtlmjkbdodecbmaaDoor
open Go.ChangeShapes Go.WideShapes Go.ChangeAt Go.RowKit Go.Deep
set_option linter.unusedVariables false
instance : Inhabited V3 := ⟨⟨0, [], []⟩⟩
theorem hone_at {P : Program} {t : TypeId} {fs : Array Field} (_ : P.underlying t = some (.struct fs)) (h : oneCellFields P fs = true) : ∀ (i : Nat) (f : Field), fs[i]? = some f → f.offset = i ∧ P.cellsOf f.type = 1 := fun i f hi => hone_of h i f hi
end Go.Proofs.YtlmjkbdodecbmaaDoor
