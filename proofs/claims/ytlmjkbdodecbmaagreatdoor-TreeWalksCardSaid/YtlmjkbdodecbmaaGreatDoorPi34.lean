/-
  Pi34: TreO OpenG OpenV OpenW OpenF OpenP OpenR (what is needed of them).
-/
import Derived.Test.YtlmjkbdodecbmaaGreatDoorPi09
import Derived.Test.YtlmjkbdodecbmaaGreatDoorPi12
import Derived.Test.YtlmjkbdodecbmaaGreatDoorPi13
import Derived.Test.YtlmjkbdodecbmaaGreatDoorPi14
import Derived.Test.YtlmjkbdodecbmaaGreatDoorPi15
import Derived.Test.YtlmjkbdodecbmaaGreatDoorPi19
import Derived.Test.YtlmjkbdodecbmaaGreatDoorPi28
import Derived.WalkKit
import Derived.ProofKit
import Derived.OpenShut
import Derived.ShutString
import Derived.Carry
import Derived.Deep.Fields
import Derived.Deep.Slices

namespace Go.Proofs.YtlmjkbdodecbmaaGreatDoor
open Go.RowKit Go.Shelf
set_option linter.unusedVariables false
set_option linter.unusedSimpArgs false
attribute [local go_sem] field_nat
theorem two_sz : twoT.nodes.length + (twoT.nodes.map fun x => x.kids.length).sum ≤ 1500 := by decide
theorem two_sm : ∀ x ∈ twoT.nodes, SmN x := by
  intro x hx
  have h9 : x = ⟨.mk 1 0 [] [], [], [], [1, 2], -1⟩ ∨ x = ⟨.mk 3 0 [⟨1, [53], []⟩] [], [49], [], [], -1⟩ ∨ x = ⟨.mk 7 0 [⟨1, [53], []⟩] [], [50], [], [], -1⟩ := by
    have : x ∈ [(⟨.mk 1 0 [] [], [], [], [1, 2], -1⟩ : TN), ⟨.mk 3 0 [⟨1, [53], []⟩] [], [49], [], [], -1⟩, ⟨.mk 7 0 [⟨1, [53], []⟩] [], [50], [], [], -1⟩] := hx
    simpa using this
  rcases h9 with rfl | rfl | rfl
  · exact ⟨by decide, by decide, by decide, SmP.mk (by decide) (by decide) (by simp) (by simp), by decide⟩
  · exact ⟨by decide, by decide, by decide, SmP.mk (by decide) (by decide) (by simp) (by simp), by decide⟩
  · exact ⟨by decide, by decide, by decide, SmP.mk (by decide) (by decide) (by simp) (by simp), by decide⟩
theorem valid_two (no : Option Addr) (nc B : Nat) (fo : Option Addr) (w : World) (hT : Hid (TrIs B w twoT no nc)) (hB : B ≤ w.heap.size) (hf : Hid (Flds w fo [⟨fldX, none, 0⟩])) :
    Calls Tryz.prog 19 #[.agg #[.slice no twoT.nodes.length nc, .int .i64 twoT.ms, .int .i64 twoT.nt], .slice fo 1 1] w fun e w' => e = .returned (.bool true) ∧ Below w.heap.size w w' :=
  tvalid_any twoT no nc B fo 1 [⟨fldX, none, 0⟩] true w hT.out hB two_sz (Lib.hid two_sm) hf (by decide) (Lib.hid two_valid.symm)
theorem valid_none (fo : Option Addr) (w : World) (hf : Hid (Flds w fo [⟨fldX, none, 0⟩])) :
    Calls Tryz.prog 19 #[.agg #[.slice none 0 0, .int .i64 0, .int .i64 0], .slice fo 1 1] w fun e w' => e = .returned (.bool false) ∧ Below w.heap.size w w' :=
  tvalid_any ⟨[], 0, 0⟩ none 0 0 fo 1 [⟨fldX, none, 0⟩] false w ⟨⟨Nat.le_refl _, Nat.zero_le _⟩, fun _ => rfl, fun i n h => by simp at h⟩ (Nat.zero_le _) (by decide) (Lib.hid (by simp)) hf (by decide) (Lib.hid (none_valid _).symm)
theorem leaf_two (no : Option Addr) (nc B : Nat) (w : World) (hT : Hid (TrIs B w twoT no nc)) (hB : B ≤ w.heap.size) :
    Calls Tryz.prog 36 #[.agg #[.slice no twoT.nodes.length nc, .int .i64 twoT.ms, .int .i64 twoT.nt], .int .i64 1] w fun e w' => e = .returned (.bool true) ∧ Below w.heap.size w w' := tleaf_any twoT 1 true no nc B w hT.out hB two_sz (Lib.hid (by decide))
theorem up_two (no : Option Addr) (nc B : Nat) (w : World) (hT : Hid (TrIs B w twoT no nc)) (hB : B ≤ w.heap.size) :
    Calls Tryz.prog 37 #[.agg #[.slice no twoT.nodes.length nc, .int .i64 twoT.ms, .int .i64 twoT.nt], .int .i64 2] w fun e w' => e = .returned (.int .i64 0) ∧ Below w.heap.size w w' := tup_any twoT 2 0 no nc B w hT.out hB two_sz (Lib.hid two_up.symm)
theorem depth_two (no : Option Addr) (nc B : Nat) (w : World) (hT : Hid (TrIs B w twoT no nc)) (hB : B ≤ w.heap.size) :
    Calls Tryz.prog 21 #[.agg #[.slice no twoT.nodes.length nc, .int .i64 twoT.ms, .int .i64 twoT.nt]] w fun e w' => e = .returned (.int .i64 2) ∧ Below w.heap.size w w' := tdepth_any twoT 2 no nc B w hT.out hB two_sz (Lib.hid two_deep.symm)
theorem same_two (no mo : Option Addr) (nc mc B : Nat) (w : World) (hT : Hid (TrIs B w twoT no nc)) (hM : Hid (TrIs B w twoT mo mc)) (hB : B ≤ w.heap.size) :
    Calls Tryz.prog 20 #[.agg #[.slice no twoT.nodes.length nc, .int .i64 twoT.ms, .int .i64 twoT.nt], .agg #[.slice mo twoT.nodes.length mc, .int .i64 twoT.ms, .int .i64 twoT.nt]] w fun e w' => e = .returned (.bool true) ∧ Below w.heap.size w w' := treeSame_self twoT no mo nc mc B w hT.out hM.out hB
theorem order_two (no : Option Addr) (nc B : Nat) (w : World) (hT : TrIs B w twoT no nc) (hB : B ≤ w.heap.size) :
    Calls Tryz.prog 18 #[.agg #[.slice no twoT.nodes.length nc, .int .i64 twoT.ms, .int .i64 twoT.nt]] w fun e w' => (∃ no nc, e = .returned (.tuple #[.agg #[.slice no twoT.nodes.length nc, .int .i64 twoT.ms, .int .i64 twoT.nt], .bool true]) ∧ TrIs w'.heap.size w' twoT no nc) ∧ Below w.heap.size w w' := (torder_any twoT no nc B w hT hB two_sz (Lib.hid two_sm)).mono (by
  rintro e w' ⟨hb, ⟨h, _⟩ | ⟨_, no, nc, rfl, hT⟩⟩
  · rw [two_shape] at h; cases h
  · rw [two_order] at hT ⊢
    exact ⟨⟨no, nc, rfl, hT⟩, hb⟩)
set_option maxRecDepth 100000 in
set_option maxHeartbeats 8000000 in
/-- alive. -/
theorem alive14_any (w : World) : Calls Tryz.prog 7 #[] w fun e w' => e = .returned (.bool true) ∧ Below w.heap.size w w' := by
  obtain ⟨w0, hw0⟩ : ∃ W, W = w.alloc (.cells #[.string ⟨#[120]⟩, .int .i64 1, .slice none 0 0, .int .i64 0, .string ⟨#[]⟩, .string ⟨#[]⟩, .int .i64 2] 67) := ⟨_, rfl⟩
  have hbf : Below w.heap.size w w0 := by rw [hw0]; exact (Below.refl _ w).alloc (Nat.le_refl _) _
  obtain ⟨pf, hpf⟩ : ∃ q, q = w.heap.size := ⟨_, rfl⟩
  obtain ⟨fo, hfo⟩ : ∃ q, q = some (⟨pf, 0, none⟩ : Addr) := ⟨_, rfl⟩
  have hbF : BoxL w0 pf [.string ⟨#[120]⟩, .int .i64 1, .slice none 0 0, .int .i64 0, .string ⟨#[]⟩, .string ⟨#[]⟩, .int .i64 2] := by rw [hw0, hpf]; exact BoxL.new w _ _
  have HF : Hid (Flds w0 fo [⟨fldX, none, 0⟩]) := Lib.hid (by
    refine ⟨.inr ⟨pf, 0, hfo, hbF.lt, fun i x hi j c hj => ?_⟩, fun x hx => ?_⟩
    · cases i with
      | zero =>
        simp at hi
        subst hi
        simp only [Nat.zero_mul, Nat.zero_add]
        exact hbF.cell j c hj
      | succ i => simp at hi
    · simp at hx
      subst hx
      exact ⟨none, 0, rfl, Nat.le_refl _, Nat.zero_le _, .inl rfl⟩)
  have HW := Lib.hid hw0
  clear hw0
  go_enter Tryz.func7, Tryz.ntmps7
  go_upto_region 2 with fail
  rw [← HW.out, ← hpf, ← hfo]
  clear HW hpf hfo hbF
  go_wp2_with fail
  refine (two_any _).mono ?_
  rintro e w1 ⟨⟨n1, c1, rfl, hT⟩, hb⟩
  replace hbf := hbf.trans (hb.mono hbf.size)
  replace HF : Hid (Flds w1 fo [⟨fldX, none, 0⟩]) := Lib.hid (HF.out.below hb)
  clear hb
  have hcall := order_two n1 c1 w1.heap.size w1 hT (Nat.le_refl _)
  clear hT
  go_wp2_with fail
  refine hcall.mono ?_
  rintro e w2 ⟨⟨no, nc, rfl, hT⟩, hb⟩
  replace hbf := hbf.trans (hb.mono hbf.size)
  replace HF : Hid (Flds w2 fo [⟨fldX, none, 0⟩]) := Lib.hid (HF.out.below hb)
  clear hb hcall
  obtain ⟨w3, hw3, hb3, -, p2, hp2, hb2⟩ := boxT w2 no twoT.nodes.length nc twoT.ms twoT.nt
  obtain ⟨B, hB⟩ : ∃ B, B = w2.heap.size := ⟨_, rfl⟩
  rw [← hB] at hT
  have hBw : B ≤ w3.heap.size := by rw [hB]; exact hb3.size
  have HT : Hid (TrIs B w3 twoT no nc) := Lib.hid (hT.low (Low.of_below hb3 (by omega)))
  replace hbf := hbf.trans (hb3.mono hbf.size)
  replace HF : Hid (Flds w3 fo [⟨fldX, none, 0⟩]) := Lib.hid (HF.out.below hb3)
  have HW := Lib.hid hw3
  clear hw3 hb3 hT hB
  go_upto_region 3 with fail
  rw [← HW.out, ← hp2]
  clear HW hp2
  (try go_wp2_with fail)
  refine wp_region_seq (S := fun w' => BoxL w' p2 [.slice no twoT.nodes.length nc, .int .i64 twoT.ms, .int .i64 twoT.nt]) [(true, 1), (false, 0), (false, 2), (true, 3), (true, 4), (true, 5), (false, 6), (true, 7), (true, 8), (true, 9), (false, 10), (false, 11), (true, 12), (true, 13), (false, 14), (false, 15), (true, 16), (true, 17), (true, 18), (false, 19), (false, 20), (true, 21), (true, 22), (true, 23), (true, 24), (true, 25), (true, 26), (true, 27), (false, 28), (false, 29), (true, 30), (true, 31)] (by kernel_rfl) (by kernel_rfl) (by kernel_rfl) (by kernel_rfl) (by kernel_rfl) (fun d _ _ _ _ h => by cases d <;> exact h) hb2.drew (fun _ => ?_)
  simp only [pickOps, List.append_eq, List.cons_append, List.nil_append, List.getElem?_toArray, List.getElem?_cons_succ, List.getElem?_cons_zero]
  have hb : Below w3.heap.size w3 w3.drew := (Below.refl _ _).drew
  generalize w3.drew = wd at hb ⊢
  replace hb2 := hb2.kept hb
  replace HF : Hid (Flds _ fo [⟨fldX, none, 0⟩]) := Lib.hid (HF.out.below hb)
  replace HT : Hid (TrIs B _ twoT no nc) := Lib.hid (HT.out.low (Low.of_below hb hBw))
  replace hBw := Nat.le_trans hBw (hb).size
  replace hbf := hbf.trans (hb.mono hbf.size)
  clear hb
  repeat (first | (refine seq_take (v := ?_) (by rfl) ?_ ?_; rotate_left; (· intro w hSw; (try dsimp only at hSw); have e0 := hSw.cell 0 _ rfl; have e1 := hSw.cell 1 _ rfl; have e2 := hSw.cell 2 _ rfl; clear hSw; go_simp; all_goals with_reducible rfl); (try simp only [Act.put, List.setIfInBounds_toArray, List.set_cons_zero, List.set_cons_succ])) | (refine seq_leave (by rfl) ?_; (try simp only [Act.put, List.setIfInBounds_toArray, List.set_cons_zero, List.set_cons_succ])))
  refine seq_step (by rfl) (fun K hK => ?_)
  go_simp
  go_at_call 35
  refine (two_any _).mono ?_
  rintro e w11 ⟨⟨n11, c11, rfl, hT9⟩, hb⟩
  have HT11 := Lib.hid hT9
  clear hT9
  replace hb2 := hb2.kept hb
  replace HF : Hid (Flds _ fo [⟨fldX, none, 0⟩]) := Lib.hid (HF.out.below hb)
  replace HT : Hid (TrIs B _ twoT no nc) := Lib.hid (HT.out.low (Low.of_below hb hBw))
  replace hBw := Nat.le_trans hBw (hb).size
  replace hbf := hbf.trans (hb.mono hbf.size)
  clear hb
  first | refine hK.out _ _ hb2 (fun _ => ?_) | (go_wp2_with fail; refine hK.out _ _ hb2 (fun _ => ?_))
  clear hK K
  (try simp only [Act.put, List.setIfInBounds_toArray, List.set_cons_zero, List.set_cons_succ])
  repeat (first | (refine seq_take (v := ?_) (by rfl) ?_ ?_; rotate_left; (· intro w hSw; (try dsimp only at hSw); have e0 := hSw.cell 0 _ rfl; have e1 := hSw.cell 1 _ rfl; have e2 := hSw.cell 2 _ rfl; clear hSw; go_simp; all_goals with_reducible rfl); (try simp only [Act.put, List.setIfInBounds_toArray, List.set_cons_zero, List.set_cons_succ])) | (refine seq_leave (by rfl) ?_; (try simp only [Act.put, List.setIfInBounds_toArray, List.set_cons_zero, List.set_cons_succ])))
  refine seq_step (by rfl) (fun K hK => ?_)
  go_simp
  go_at_call 19
  (with_reducible refine (valid_two n11 c11 _ fo _ HT11 (Nat.le_refl _) HF).mono ?_)
  rintro e w12 ⟨rfl, hb⟩
  replace hb2 := hb2.kept hb
  replace HF : Hid (Flds _ fo [⟨fldX, none, 0⟩]) := Lib.hid (HF.out.below hb)
  replace HT : Hid (TrIs B _ twoT no nc) := Lib.hid (HT.out.low (Low.of_below hb hBw))
  replace hBw := Nat.le_trans hBw (hb).size
  replace hbf := hbf.trans (hb.mono hbf.size)
  clear hb
  first | refine hK.out _ _ hb2 (fun _ => ?_) | (go_wp2_with fail; refine hK.out _ _ hb2 (fun _ => ?_))
  clear hK K
  (try simp only [Act.put, List.setIfInBounds_toArray, List.set_cons_zero, List.set_cons_succ])
  repeat (first | (refine seq_take (v := ?_) (by rfl) ?_ ?_; rotate_left; (· intro w hSw; (try dsimp only at hSw); have e0 := hSw.cell 0 _ rfl; have e1 := hSw.cell 1 _ rfl; have e2 := hSw.cell 2 _ rfl; clear hSw; go_simp; all_goals with_reducible rfl); (try simp only [Act.put, List.setIfInBounds_toArray, List.set_cons_zero, List.set_cons_succ])) | (refine seq_leave (by rfl) ?_; (try simp only [Act.put, List.setIfInBounds_toArray, List.set_cons_zero, List.set_cons_succ])))
  refine seq_step (by rfl) (fun K hK => ?_)
  go_simp
  go_at_call 19
  (with_reducible refine (valid_none fo _ HF).mono ?_)
  rintro e w13 ⟨rfl, hb⟩
  replace hb2 := hb2.kept hb
  replace HF : Hid (Flds _ fo [⟨fldX, none, 0⟩]) := Lib.hid (HF.out.below hb)
  replace HT : Hid (TrIs B _ twoT no nc) := Lib.hid (HT.out.low (Low.of_below hb hBw))
  replace hBw := Nat.le_trans hBw (hb).size
  replace hbf := hbf.trans (hb.mono hbf.size)
  clear hb
  first | refine hK.out _ _ hb2 (fun _ => ?_) | (go_wp2_with fail; refine hK.out _ _ hb2 (fun _ => ?_))
  clear hK K
  (try simp only [Act.put, List.setIfInBounds_toArray, List.set_cons_zero, List.set_cons_succ])
  repeat (first | (refine seq_take (v := ?_) (by rfl) ?_ ?_; rotate_left; (· intro w hSw; (try dsimp only at hSw); have e0 := hSw.cell 0 _ rfl; have e1 := hSw.cell 1 _ rfl; have e2 := hSw.cell 2 _ rfl; clear hSw; go_simp; all_goals with_reducible rfl); (try simp only [Act.put, List.setIfInBounds_toArray, List.set_cons_zero, List.set_cons_succ])) | (refine seq_leave (by rfl) ?_; (try simp only [Act.put, List.setIfInBounds_toArray, List.set_cons_zero, List.set_cons_succ])))
  refine seq_step (by rfl) (fun K hK => ?_)
  go_simp
  go_at_call 35
  refine (two_any _).mono ?_
  rintro e w14 ⟨⟨n14, c14, rfl, hT9⟩, hb⟩
  have HT14 := Lib.hid hT9
  clear hT9
  replace hb2 := hb2.kept hb
  replace HF : Hid (Flds _ fo [⟨fldX, none, 0⟩]) := Lib.hid (HF.out.below hb)
  replace HT : Hid (TrIs B _ twoT no nc) := Lib.hid (HT.out.low (Low.of_below hb hBw))
  replace hBw := Nat.le_trans hBw (hb).size
  replace hbf := hbf.trans (hb.mono hbf.size)
  clear hb
  first | refine hK.out _ _ hb2 (fun _ => ?_) | (go_wp2_with fail; refine hK.out _ _ hb2 (fun _ => ?_))
  clear hK K
  (try simp only [Act.put, List.setIfInBounds_toArray, List.set_cons_zero, List.set_cons_succ])
  repeat (first | (refine seq_take (v := ?_) (by rfl) ?_ ?_; rotate_left; (· intro w hSw; (try dsimp only at hSw); have e0 := hSw.cell 0 _ rfl; have e1 := hSw.cell 1 _ rfl; have e2 := hSw.cell 2 _ rfl; clear hSw; go_simp; all_goals with_reducible rfl); (try simp only [Act.put, List.setIfInBounds_toArray, List.set_cons_zero, List.set_cons_succ])) | (refine seq_leave (by rfl) ?_; (try simp only [Act.put, List.setIfInBounds_toArray, List.set_cons_zero, List.set_cons_succ])))
  refine seq_step (by rfl) (fun K hK => ?_)
  go_simp
  go_at_call 36
  (with_reducible refine (leaf_two n14 c14 _ _ HT14 (Nat.le_refl _)).mono ?_)
  rintro e w15 ⟨rfl, hb⟩
  replace hb2 := hb2.kept hb
  replace HF : Hid (Flds _ fo [⟨fldX, none, 0⟩]) := Lib.hid (HF.out.below hb)
  replace HT : Hid (TrIs B _ twoT no nc) := Lib.hid (HT.out.low (Low.of_below hb hBw))
  replace hBw := Nat.le_trans hBw (hb).size
  replace hbf := hbf.trans (hb.mono hbf.size)
  clear hb
  first | refine hK.out _ _ hb2 (fun _ => ?_) | (go_wp2_with fail; refine hK.out _ _ hb2 (fun _ => ?_))
  clear hK K
  (try simp only [Act.put, List.setIfInBounds_toArray, List.set_cons_zero, List.set_cons_succ])
  repeat (first | (refine seq_take (v := ?_) (by rfl) ?_ ?_; rotate_left; (· intro w hSw; (try dsimp only at hSw); have e0 := hSw.cell 0 _ rfl; have e1 := hSw.cell 1 _ rfl; have e2 := hSw.cell 2 _ rfl; clear hSw; go_simp; all_goals with_reducible rfl); (try simp only [Act.put, List.setIfInBounds_toArray, List.set_cons_zero, List.set_cons_succ])) | (refine seq_leave (by rfl) ?_; (try simp only [Act.put, List.setIfInBounds_toArray, List.set_cons_zero, List.set_cons_succ])))
  refine seq_step (by rfl) (fun K hK => ?_)
  go_simp
  go_at_call 35
  refine (two_any _).mono ?_
  rintro e w16 ⟨⟨n16, c16, rfl, hT9⟩, hb⟩
  have HT16 := Lib.hid hT9
  clear hT9
  replace hb2 := hb2.kept hb
  replace HF : Hid (Flds _ fo [⟨fldX, none, 0⟩]) := Lib.hid (HF.out.below hb)
  replace HT : Hid (TrIs B _ twoT no nc) := Lib.hid (HT.out.low (Low.of_below hb hBw))
  replace hBw := Nat.le_trans hBw (hb).size
  replace hbf := hbf.trans (hb.mono hbf.size)
  clear hb
  first | refine hK.out _ _ hb2 (fun _ => ?_) | (go_wp2_with fail; refine hK.out _ _ hb2 (fun _ => ?_))
  clear hK K
  (try simp only [Act.put, List.setIfInBounds_toArray, List.set_cons_zero, List.set_cons_succ])
  repeat (first | (refine seq_take (v := ?_) (by rfl) ?_ ?_; rotate_left; (· intro w hSw; (try dsimp only at hSw); have e0 := hSw.cell 0 _ rfl; have e1 := hSw.cell 1 _ rfl; have e2 := hSw.cell 2 _ rfl; clear hSw; go_simp; all_goals with_reducible rfl); (try simp only [Act.put, List.setIfInBounds_toArray, List.set_cons_zero, List.set_cons_succ])) | (refine seq_leave (by rfl) ?_; (try simp only [Act.put, List.setIfInBounds_toArray, List.set_cons_zero, List.set_cons_succ])))
  refine seq_step (by rfl) (fun K hK => ?_)
  go_simp
  go_at_call 37
  (with_reducible refine (up_two n16 c16 _ _ HT16 (Nat.le_refl _)).mono ?_)
  rintro e w17 ⟨rfl, hb⟩
  replace hb2 := hb2.kept hb
  replace HF : Hid (Flds _ fo [⟨fldX, none, 0⟩]) := Lib.hid (HF.out.below hb)
  replace HT : Hid (TrIs B _ twoT no nc) := Lib.hid (HT.out.low (Low.of_below hb hBw))
  replace hBw := Nat.le_trans hBw (hb).size
  replace hbf := hbf.trans (hb.mono hbf.size)
  clear hb
  first | refine hK.out _ _ hb2 (fun _ => ?_) | (go_wp2_with fail; refine hK.out _ _ hb2 (fun _ => ?_))
  clear hK K
  (try simp only [Act.put, List.setIfInBounds_toArray, List.set_cons_zero, List.set_cons_succ])
  repeat (first | (refine seq_take (v := ?_) (by rfl) ?_ ?_; rotate_left; (· intro w hSw; (try dsimp only at hSw); have e0 := hSw.cell 0 _ rfl; have e1 := hSw.cell 1 _ rfl; have e2 := hSw.cell 2 _ rfl; clear hSw; go_simp; all_goals with_reducible rfl); (try simp only [Act.put, List.setIfInBounds_toArray, List.set_cons_zero, List.set_cons_succ])) | (refine seq_leave (by rfl) ?_; (try simp only [Act.put, List.setIfInBounds_toArray, List.set_cons_zero, List.set_cons_succ])))
  refine seq_step (by rfl) (fun K hK => ?_)
  go_simp
  go_at_call 35
  refine (two_any _).mono ?_
  rintro e w18 ⟨⟨n18, c18, rfl, hT9⟩, hb⟩
  have HT18 := Lib.hid hT9
  clear hT9
  replace hb2 := hb2.kept hb
  replace HF : Hid (Flds _ fo [⟨fldX, none, 0⟩]) := Lib.hid (HF.out.below hb)
  replace HT : Hid (TrIs B _ twoT no nc) := Lib.hid (HT.out.low (Low.of_below hb hBw))
  replace hBw := Nat.le_trans hBw (hb).size
  replace hbf := hbf.trans (hb.mono hbf.size)
  clear hb
  first | refine hK.out _ _ hb2 (fun _ => ?_) | (go_wp2_with fail; refine hK.out _ _ hb2 (fun _ => ?_))
  clear hK K
  (try simp only [Act.put, List.setIfInBounds_toArray, List.set_cons_zero, List.set_cons_succ])
  repeat (first | (refine seq_take (v := ?_) (by rfl) ?_ ?_; rotate_left; (· intro w hSw; (try dsimp only at hSw); have e0 := hSw.cell 0 _ rfl; have e1 := hSw.cell 1 _ rfl; have e2 := hSw.cell 2 _ rfl; clear hSw; go_simp; all_goals with_reducible rfl); (try simp only [Act.put, List.setIfInBounds_toArray, List.set_cons_zero, List.set_cons_succ])) | (refine seq_leave (by rfl) ?_; (try simp only [Act.put, List.setIfInBounds_toArray, List.set_cons_zero, List.set_cons_succ])))
  refine seq_step (by rfl) (fun K hK => ?_)
  go_simp
  go_at_call 21
  (with_reducible refine (depth_two n18 c18 _ _ HT18 (Nat.le_refl _)).mono ?_)
  rintro e w19 ⟨rfl, hb⟩
  replace hb2 := hb2.kept hb
  replace HF : Hid (Flds _ fo [⟨fldX, none, 0⟩]) := Lib.hid (HF.out.below hb)
  replace HT : Hid (TrIs B _ twoT no nc) := Lib.hid (HT.out.low (Low.of_below hb hBw))
  replace hBw := Nat.le_trans hBw (hb).size
  replace hbf := hbf.trans (hb.mono hbf.size)
  clear hb
  first | refine hK.out _ _ hb2 (fun _ => ?_) | (go_wp2_with fail; refine hK.out _ _ hb2 (fun _ => ?_))
  clear hK K
  (try simp only [Act.put, List.setIfInBounds_toArray, List.set_cons_zero, List.set_cons_succ])
  repeat (first | (refine seq_take (v := ?_) (by rfl) ?_ ?_; rotate_left; (· intro w hSw; (try dsimp only at hSw); have e0 := hSw.cell 0 _ rfl; have e1 := hSw.cell 1 _ rfl; have e2 := hSw.cell 2 _ rfl; clear hSw; go_simp; all_goals with_reducible rfl); (try simp only [Act.put, List.setIfInBounds_toArray, List.set_cons_zero, List.set_cons_succ])) | (refine seq_leave (by rfl) ?_; (try simp only [Act.put, List.setIfInBounds_toArray, List.set_cons_zero, List.set_cons_succ])))
  refine seq_step (by rfl) (fun K hK => ?_)
  go_simp
  go_at_call 35
  refine (two_any _).mono ?_
  rintro e w20 ⟨⟨n20, c20, rfl, hT9⟩, hb⟩
  have HT20 := Lib.hid hT9
  clear hT9
  replace hb2 := hb2.kept hb
  replace HF : Hid (Flds _ fo [⟨fldX, none, 0⟩]) := Lib.hid (HF.out.below hb)
  replace HT : Hid (TrIs B _ twoT no nc) := Lib.hid (HT.out.low (Low.of_below hb hBw))
  replace hBw := Nat.le_trans hBw (hb).size
  replace hbf := hbf.trans (hb.mono hbf.size)
  clear hb
  first | refine hK.out _ _ hb2 (fun _ => ?_) | (go_wp2_with fail; refine hK.out _ _ hb2 (fun _ => ?_))
  clear hK K
  (try simp only [Act.put, List.setIfInBounds_toArray, List.set_cons_zero, List.set_cons_succ])
  repeat (first | (refine seq_take (v := ?_) (by rfl) ?_ ?_; rotate_left; (· intro w hSw; (try dsimp only at hSw); have e0 := hSw.cell 0 _ rfl; have e1 := hSw.cell 1 _ rfl; have e2 := hSw.cell 2 _ rfl; clear hSw; go_simp; all_goals with_reducible rfl); (try simp only [Act.put, List.setIfInBounds_toArray, List.set_cons_zero, List.set_cons_succ])) | (refine seq_leave (by rfl) ?_; (try simp only [Act.put, List.setIfInBounds_toArray, List.set_cons_zero, List.set_cons_succ])))
  refine seq_step (by rfl) (fun K hK => ?_)
  go_simp
  go_at_call 20
  (with_reducible refine (same_two no n20 nc c20 _ _ (Lib.hid (HT.out.mono (by omega))) HT20 (Nat.le_refl _)).mono ?_)
  rintro e w21 ⟨rfl, hb⟩
  replace hb2 := hb2.kept hb
  replace HF : Hid (Flds _ fo [⟨fldX, none, 0⟩]) := Lib.hid (HF.out.below hb)
  replace HT : Hid (TrIs B _ twoT no nc) := Lib.hid (HT.out.low (Low.of_below hb hBw))
  replace hBw := Nat.le_trans hBw (hb).size
  replace hbf := hbf.trans (hb.mono hbf.size)
  clear hb
  first | refine hK.out _ _ hb2 (fun _ => ?_) | (go_wp2_with fail; refine hK.out _ _ hb2 (fun _ => ?_))
  clear hK K
  (try simp only [Act.put, List.setIfInBounds_toArray, List.set_cons_zero, List.set_cons_succ])
  repeat (first | (refine seq_take (v := ?_) (by rfl) ?_ ?_; rotate_left; (· intro w hSw; (try dsimp only at hSw); have e0 := hSw.cell 0 _ rfl; have e1 := hSw.cell 1 _ rfl; have e2 := hSw.cell 2 _ rfl; clear hSw; go_simp; all_goals with_reducible rfl); (try simp only [Act.put, List.setIfInBounds_toArray, List.set_cons_zero, List.set_cons_succ])) | (refine seq_leave (by rfl) ?_; (try simp only [Act.put, List.setIfInBounds_toArray, List.set_cons_zero, List.set_cons_succ])))
  refine seq_end ?_
  go_wp2_with fail
  go_ret
  exact ⟨ret_one rfl, hbf⟩
end Go.Proofs.YtlmjkbdodecbmaaGreatDoor

namespace Go.Proofs.YtlmjkbdodecbmaaGreatDoor
open Go.ChangeShapes Go.WideShapes Go.ChangeAt Go.RowKit Go.Deep
set_option linter.unusedVariables false
set_option maxRecDepth 100000 in
theorem laidOutN : laidOutB Tryz.prog = true := by kernel_rfl
theorem string_field {H : Type} {enc : TypeId × Value → H} {P : Program} {W : World} {base : Nat} {spare : Nat → Bool} {held : Bool} {n : Nat} {t : TypeId} {u : Value} {y : DataW H × List MemPlace} (ht : P.underlying t = some .string) (h : DataW.trod enc P W base spare held n t [u] = some y) :
    ∃ l : List UInt8, u = .string ⟨l.toArray⟩ ∧ l.length ≤ 9223372036854775807 := by
  obtain ⟨s, hs, _, hm⟩ := DataW.trod_string ht h
  obtain ⟨⟨l⟩⟩ := s
  simp at hs
  refine ⟨l, hs, ?_⟩
  unfold maxLen at hm
  have h9 : (⟨⟨l⟩⟩ : ByteArray).size = l.length := rfl
  omega
end Go.Proofs.YtlmjkbdodecbmaaGreatDoor

namespace Go.Proofs.YtlmjkbdodecbmaaGreatDoor
open Go.ChangeShapes Go.WideShapes Go.ChangeAt Go.RowKit Go.Deep
set_option linter.unusedVariables false
instance : Inhabited V3 := ⟨⟨0, [], []⟩⟩
theorem hone_at {P : Program} {t : TypeId} {fs : Array Field} (_ : P.underlying t = some (.struct fs)) (h : oneCellFields P fs = true) : ∀ (i : Nat) (f : Field), fs[i]? = some f → f.offset = i ∧ P.cellsOf f.type = 1 := fun i f hi => hone_of h i f hi
end Go.Proofs.YtlmjkbdodecbmaaGreatDoor

namespace Go.Proofs.YtlmjkbdodecbmaaGreatDoor
open Go.ChangeShapes Go.WideShapes Go.ChangeAt Go.RowKit Go.Deep
set_option linter.unusedVariables false
/-- A row of structs of k cells in memory. -/
def RowG {α : Type} (k : Nat) (enc : α → List Value) (w : World) (ao : Option Addr) (xs : List α) : Prop :=
  xs = [] ∨ ∃ b off, ao = some ⟨b, off, none⟩ ∧ b < w.heap.size ∧ ∀ i x, xs[i]? = some x → ∀ j c, (enc x)[j]? = some c → w.cell? ⟨b, off + i * k + j, none⟩ = some c
/-- A row of elements of k cells that came in: the elements, their cells. -/
theorem rowG_field {α : Type} [Inhabited α] {k : Nat} {enc : α → List Value} {good : α → Prop} (hk0 : 0 < k) (henc : ∀ x, (enc x).length = k) {t el : TypeId} {H : Type} {eh : TypeId × Value → H} {W : World} {u : Value} {n : Nat} {y : DataW H × List MemPlace} (ht : Tryz.prog.underlying t = some (.slice el)) (hc : Tryz.prog.cellsOf el = k)
    (each : ∀ (m : Nat) (cs : List Value) (x : DataW H × List MemPlace), m < n → cs.length = k → DataW.trod eh Tryz.prog W 0 (fun _ => true) true m el cs = some x → ∃ z, good z ∧ cs = enc z)
    (hf : DataW.trod eh Tryz.prog W 0 (fun _ => true) true n t [u] = some y) :
    ∃ (ao : Option Addr) (cap : Nat) (xs : List α), u = .slice ao xs.length cap ∧ RowG k enc W ao xs ∧ xs.length ≤ cap ∧ cap ≤ maxLen ∧ (ao = none → cap = 0) ∧ ∀ x ∈ xs, good x := by
  rcases DataW.trod_slice ht hf with ⟨hcs, _⟩ | ⟨a, len, cap, elems, rest, n', hn, hcs, _, _, hl, hm, hel, hx, _, _⟩
  · injection hcs with h1 _
    subst h1
    exact ⟨none, 0, [], rfl, .inl rfl, Nat.le_refl _, Nat.zero_le _, fun _ => rfl, by simp⟩
  · injection hcs with h1 _
    subst h1
    rw [hc] at hx
    have each2 : ∀ i, i < len → ∃ z : α, good z ∧ ∀ j c, (enc z)[j]? = some c → W.cell? (a.add (i * k + j)) = some c := by
      intro i hi
      have h0 := hx i hi
      rw [List.getElem?_eq_getElem (by omega)] at h0
      obtain ⟨cs', h1, h2⟩ := Option.bind_eq_some_iff.1 h0
      obtain ⟨_, hlen, hcell⟩ := World.cells?_some h1
      obtain ⟨z, hg, rfl⟩ := each _ _ _ (by omega) hlen h2
      refine ⟨z, hg, fun j c hj => ?_⟩
      have hjk : j < k := by rw [← henc z]; exact (List.getElem?_eq_some_iff.1 hj).1
      have e := hcell j (by omega)
      rw [add_add] at e
      rw [e]
      exact hj
    obtain ⟨V, hV⟩ := choose_lt each2
    have hlV : ((List.range len).map V).length = len := by simp
    refine ⟨some a, cap, (List.range len).map V, by rw [hlV], ?_, by rw [hlV]; exact hl, hm, fun h => (Option.some_ne_none _ h).elim, ?_⟩
    · rcases Nat.eq_zero_or_pos len with h0 | h0
      · left; subst h0; rfl
      · right
        have c0 := (hV 0 h0).2 0 _ (List.getElem?_eq_getElem (by rw [henc]; exact hk0))
        obtain ⟨blk, off, spot⟩ := a
        have hsp : spot = none := by
          unfold World.cell? at c0
          split at c0
          · cases spot with
            | none => rfl
            | some x => simp [Addr.add] at c0
          · cases c0
        subst hsp
        rw [Addr.add_lit] at c0
        refine ⟨blk, off, rfl, World.block_lt_of_cell? W ⟨blk, off + (0 * k + 0), none⟩ c0, fun i o hi j c hj => ?_⟩
        have hil : i < len := by
          have := (List.getElem?_eq_some_iff.1 hi).1
          rwa [hlV] at this
        have hv : o = V i := by
          rw [List.getElem?_map, List.getElem?_range hil] at hi
          simpa using hi.symm
        subst hv
        have h9 := (hV i hil).2 j c hj
        rw [Addr.add_lit, ← Nat.add_assoc] at h9
        exact h9
    · intro o ho
      obtain ⟨i, hi, rfl⟩ := List.mem_map.1 ho
      exact (hV i (List.mem_range.1 hi)).1
set_option maxRecDepth 100000 in
theorem value_cells {H : Type} {enc : TypeId × Value → H} {W : World} {n : Nat} {cs : List Value} {y : DataW H × List MemPlace} (hlen : cs.length = 3) (hf : DataW.trod enc Tryz.prog W 0 (fun _ => true) true n 65 cs = some y) :
    ∃ u : V3, cs = [.int .i64 u.k, .string ⟨u.n.toArray⟩, .string ⟨u.c.toArray⟩] ∧ u.n.length ≤ 9223372036854775807 ∧ u.c.length ≤ 9223372036854775807 := by
  obtain ⟨xs, k, _, _, _, hxl, hff⟩ := DataW.trod_struct Tryz.underlying65 hf
  have hone := hone_at Tryz.underlying65 (by kernel_rfl)
  have hxl3 : xs.length = 3 := hxl
  match xs, hxl3, cs, hlen, hff with
  | [y0, y1, y2], _, [v0, v1, v2], _, hff =>
    have g0 := hff 0 _ rfl
    have g1 := hff 1 _ rfl
    have g2 := hff 2 _ rfl
    have t0 := hone 0 _ rfl
    have t1 := hone 1 _ rfl
    have t2 := hone 2 _ rfl
    rw [t0.1, t0.2] at g0
    rw [t1.1, t1.2] at g1
    rw [t2.1, t2.2] at g2
    simp at g0 g1 g2
    obtain ⟨c, hc, _, _⟩ := DataW.trod_int Tryz.underlying3 g0
    simp at hc
    obtain ⟨l1, hl1, m1⟩ := string_field Tryz.underlying9 g1
    obtain ⟨l2, hl2, m2⟩ := string_field Tryz.underlying9 g2
    exact ⟨⟨c, l1, l2⟩, by rw [hc, hl1, hl2], m1, m2⟩
instance : Inhabited FV := ⟨⟨⟨[], 0, [], ⟨0, [], []⟩, 0⟩, none, 0⟩⟩
end Go.Proofs.YtlmjkbdodecbmaaGreatDoor

namespace Go.Proofs.YtlmjkbdodecbmaaGreatDoor
open Go.ChangeShapes Go.WideShapes Go.ChangeAt Go.RowKit Go.Deep
set_option linter.unusedVariables false
set_option maxRecDepth 100000 in
theorem vals_cell {H : Type} {enc : TypeId × Value → H} {W : World} {u : Value} {n : Nat} {y : DataW H × List MemPlace} (hf : DataW.trod enc Tryz.prog W 0 (fun _ => true) true n 31 [u] = some y) :
    ∃ (ao : Option Addr) (cap : Nat) (vs : List V3), u = .slice ao vs.length cap ∧ ValsB W.heap.size W ao cap vs := by
  have e3 : Tryz.prog.cellsOf 65 = 3 := by kernel_rfl
  obtain ⟨ao, cap, xs, rfl, hr, hl, hm, hno, hg⟩ := rowG_field (α := V3) (k := 3) (enc := fun u => [.int .i64 u.k, .string ⟨u.n.toArray⟩, .string ⟨u.c.toArray⟩]) (good := fun u => u.n.length ≤ 9223372036854775807 ∧ u.c.length ≤ 9223372036854775807) (by decide) (fun _ => rfl) Tryz.underlying31 e3 (fun m cs x _ hlen h2 => by
    obtain ⟨u, h1, h3, h4⟩ := value_cells hlen h2
    exact ⟨u, ⟨h3, h4⟩, h1⟩) hf
  refine ⟨ao, cap, xs, rfl, ⟨fun i v hi => ?_, ⟨hl, hm⟩, hg, fun hn => ?_, hno⟩⟩
  · rcases hr with h | ⟨b, off, h1, h2, h3⟩
    · rw [h] at hi; simp at hi
    · have c := h3 i v hi
      exact ⟨b, off, h1, ⟨c 0 _ rfl⟩, ⟨c 1 _ rfl⟩, ⟨c 2 _ rfl⟩⟩
  · rcases hr with h | ⟨b, off, h1, h2, h3⟩
    · exact absurd h hn
    · exact ⟨b, off, h1, h2⟩
def pq4 (x : PT × Value × Value × Value × Value) : List Value := [x.2.1, x.2.2.1, x.2.2.2.1, x.2.2.2.2]
instance : Inhabited (PT × Value × Value × Value × Value) := ⟨(default, .bool false, .bool false, .bool false, .bool false)⟩
set_option maxRecDepth 100000 in
theorem pred_cells {H : Type} {enc : TypeId × Value → H} {W : World} (n : Nat) : ∀ (cs : List Value) (y : DataW H × List MemPlace), cs.length = 4 → DataW.trod enc Tryz.prog W 0 (fun _ => true) true n 34 cs = some y → ∃ p : PT, PIs W.heap.size W p cs := by
  induction n using Nat.strongRecOn with
  | _ n ih =>
  intro cs y hlen hf
  obtain ⟨xs, k, hnk, _, _, hxl, hff⟩ := DataW.trod_struct Tryz.underlying34 hf
  have hone := hone_at Tryz.underlying34 (by kernel_rfl)
  have hxl4 : xs.length = 4 := hxl
  have e4 : Tryz.prog.cellsOf 34 = 4 := by kernel_rfl
  match xs, hxl4, cs, hlen, hff with
  | [y0, y1, y2, y3], _, [v0, v1, v2, v3], _, hff =>
    have g0 := hff 0 _ rfl
    have g1 := hff 1 _ rfl
    have g2 := hff 2 _ rfl
    have g3 := hff 3 _ rfl
    have t0 := hone 0 _ rfl
    have t1 := hone 1 _ rfl
    have t2 := hone 2 _ rfl
    have t3 := hone 3 _ rfl
    rw [t0.1, t0.2] at g0
    rw [t1.1, t1.2] at g1
    rw [t2.1, t2.2] at g2
    rw [t3.1, t3.2] at g3
    simp at g0 g1 g2 g3
    obtain ⟨op, hc0, _, _⟩ := DataW.trod_int Tryz.underlying3 g0
    obtain ⟨fld, hc1, _, _⟩ := DataW.trod_int Tryz.underlying3 g1
    simp at hc0 hc1
    obtain ⟨vo, vc, vs, rfl, hV⟩ := vals_cell g2
    obtain ⟨ko, kc, ks, rfl, hr, hl, hm, hno, hg⟩ := rowG_field (α := PT × Value × Value × Value × Value) (k := 4) (enc := pq4) (good := fun x => PIs W.heap.size W x.1 (pq4 x)) (by decide) (fun _ => rfl) Tryz.underlying32 e4 (fun m cs x hmn hlen h2 => by
      obtain ⟨p, hp⟩ := ih m (by omega) cs x hlen h2
      match cs, hlen with
      | [a, b, c, d], _ => exact ⟨(p, a, b, c, d), hp, rfl⟩) g3
    refine ⟨.mk op fld vs (ks.map (·.1)), ?_⟩
    rw [hc0, hc1]
    have hlk : ks.length = (ks.map (·.1)).length := by simp
    rw [hlk]
    refine PIs.mk (fun i => pq4 (ks[i]?.getD default)) hV ⟨by simpa using hl, hm⟩ hno ?_ ?_
    · rcases hr with h | ⟨b, off, h1, h2, h3⟩
      · left; rw [h]; rfl
      · right
        refine ⟨b, off, h1, h2, fun i hi j c hj => ?_⟩
        have hil : i < ks.length := by simpa using hi
        rw [List.getElem?_eq_getElem hil] at hj
        exact h3 i _ (List.getElem?_eq_getElem hil) j c hj
    · intro i p hi
      rw [List.getElem?_map] at hi
      cases hx : ks[i]? with
      | none => rw [hx] at hi; cases hi
      | some x =>
        rw [hx] at hi
        cases hi
        exact hg x (List.mem_of_getElem? hx)
end Go.Proofs.YtlmjkbdodecbmaaGreatDoor

namespace Go.Proofs.YtlmjkbdodecbmaaGreatDoor
open Go.ChangeShapes Go.WideShapes Go.ChangeAt Go.RowKit Go.Deep
set_option linter.unusedVariables false
set_option maxRecDepth 100000 in
theorem ints_cell {H : Type} {enc : TypeId × Value → H} {W : World} {u : Value} {n : Nat} {y : DataW H × List MemPlace} (hf : DataW.trod enc Tryz.prog W 0 (fun _ => true) true n 27 [u] = some y) :
    ∃ (io : Option Addr) (ic : Nat) (ns : List Int), u = .slice io ns.length ic ∧ IntsB W.heap.size W io ic ns := by
  have e1 : Tryz.prog.cellsOf 3 = 1 := by kernel_rfl
  obtain ⟨ao, cap, xs, rfl, hr, hl, hm, hno, hg⟩ := rowG_field (α := Int) (k := 1) (enc := fun n => [.int .i64 n]) (good := fun _ => True) (by decide) (fun _ => rfl) Tryz.underlying27 e1 (fun m cs x _ hlen h2 => by
    match cs, hlen with
    | [c], _ =>
      obtain ⟨i, hc, _, _⟩ := DataW.trod_int Tryz.underlying3 h2
      exact ⟨i, trivial, hc⟩) hf
  refine ⟨ao, cap, xs, rfl, ⟨⟨hl, hm⟩, hno, fun i n hi => ?_⟩⟩
  rcases hr with h | ⟨b, off, h1, h2, h3⟩
  · rw [h] at hi; simp at hi
  · have c := h3 i n hi 0 _ rfl
    rw [Nat.mul_one, Nat.add_zero] at c
    exact ⟨b, off, h1, h2, c⟩
/-- A node's cells. -/
def ndc (x : TN × NdL) : List Value := [.int .i64 x.1.p.op, .int .i64 x.1.p.fld, .slice x.2.vo x.1.p.vals.length x.2.vc, .slice x.2.ko x.1.p.kids.length x.2.kc, .string ⟨x.1.sc.toArray⟩, .string ⟨x.1.ct.toArray⟩, .slice x.2.io x.1.kids.length x.2.ic, .int .i64 x.1.df]
instance : Inhabited (TN × NdL) := ⟨(default, ⟨none, 0, none, 0, none, 0⟩)⟩
set_option maxRecDepth 100000 in
theorem node_cells {H : Type} {enc : TypeId × Value → H} {W : World} {n : Nat} {cs : List Value} {y : DataW H × List MemPlace} (hlen : cs.length = 8) (hf : DataW.trod enc Tryz.prog W 0 (fun _ => true) true n 36 cs = some y) :
    ∃ x : TN × NdL, NdIs W.heap.size W x.1 x.2 ∧ cs = ndc x := by
  obtain ⟨xs, k, _, _, _, hxl, hff⟩ := DataW.trod_struct Tryz.underlying36 hf
  have hxl5 : xs.length = 5 := hxl
  have e0 : Tryz.prog.cellsOf 9 = 1 := by kernel_rfl
  have e1 : Tryz.prog.cellsOf 3 = 1 := by kernel_rfl
  have e2 : Tryz.prog.cellsOf 27 = 1 := by kernel_rfl
  have e3 : Tryz.prog.cellsOf 34 = 4 := by kernel_rfl
  match xs, hxl5, cs, hlen, hff with
  | [y0, y1, y2, y3, y4], _, [v0, v1, v2, v3, v4, v5, v6, v7], _, hff =>
    have g0 : DataW.trod enc Tryz.prog W 0 (fun _ => true) true k 34 (List.take (Tryz.prog.cellsOf 34) (List.drop 0 [v0, v1, v2, v3, v4, v5, v6, v7])) = some y0 := hff 0 _ rfl
    have g1 : DataW.trod enc Tryz.prog W 0 (fun _ => true) true k 9 (List.take (Tryz.prog.cellsOf 9) (List.drop 4 [v0, v1, v2, v3, v4, v5, v6, v7])) = some y1 := hff 1 _ rfl
    have g2 : DataW.trod enc Tryz.prog W 0 (fun _ => true) true k 9 (List.take (Tryz.prog.cellsOf 9) (List.drop 5 [v0, v1, v2, v3, v4, v5, v6, v7])) = some y2 := hff 2 _ rfl
    have g3 : DataW.trod enc Tryz.prog W 0 (fun _ => true) true k 27 (List.take (Tryz.prog.cellsOf 27) (List.drop 6 [v0, v1, v2, v3, v4, v5, v6, v7])) = some y3 := hff 3 _ rfl
    have g4 : DataW.trod enc Tryz.prog W 0 (fun _ => true) true k 3 (List.take (Tryz.prog.cellsOf 3) (List.drop 7 [v0, v1, v2, v3, v4, v5, v6, v7])) = some y4 := hff 4 _ rfl
    rw [e3] at g0
    rw [e0] at g1
    rw [e0] at g2
    rw [e2] at g3
    rw [e1] at g4
    simp at g0 g1 g2 g3 g4
    obtain ⟨q, hq⟩ := pred_cells k [v0, v1, v2, v3] _ rfl g0
    obtain ⟨vo, vc, ko, kc, he, hP⟩ := hq.form
    obtain ⟨sc, rfl, m1⟩ := string_field Tryz.underlying9 g1
    obtain ⟨ct, rfl, m2⟩ := string_field Tryz.underlying9 g2
    obtain ⟨io, ic, ns, rfl, hI⟩ := ints_cell g3
    obtain ⟨df, hc4, _, _⟩ := DataW.trod_int Tryz.underlying3 g4
    simp at hc4
    simp only [pcs, List.cons.injEq, and_true] at he
    obtain ⟨rfl, rfl, rfl, rfl⟩ := he
    exact ⟨(⟨q, sc, ct, ns, df⟩, ⟨vo, vc, ko, kc, io, ic⟩), ⟨hP, hI, m1, m2⟩, by rw [hc4]; rfl⟩
/-- A tree that came in. -/
def TreeIn (w : World) (v : Value) : Prop := ∃ (t : TR) (no : Option Addr) (nc : Nat), v = .agg #[.slice no t.nodes.length nc, .int .i64 t.ms, .int .i64 t.nt] ∧ TrIs w.heap.size w t no nc
set_option maxRecDepth 100000 in
theorem tree_of_trod {H : Type} {enc : TypeId × Value → H} {W : World} {base : Nat} {v : Value} {d : DataW H} {p : List MemPlace} (hok : Value.okWide Tryz.prog W .any base 24 v) (h : DataW.Trod enc Tryz.prog W 0 (fun _ => true) true 24 v d p) : TreeIn W v := by
  obtain ⟨⟨l⟩, rfl, hsz⟩ := okWide_struct Tryz.underlying24 hok
  obtain ⟨fuel, hf⟩ := h
  have e3 : Tryz.prog.cellsOf 24 = 3 := by kernel_rfl
  rw [e3] at hsz
  have hlen : l.length = 3 := by simpa using hsz
  obtain ⟨xs, k, _, _, _, hxl, hff⟩ := DataW.trod_struct Tryz.underlying24 hf
  have hone := hone_at Tryz.underlying24 (by kernel_rfl)
  have hxl3 : xs.length = 3 := hxl
  have e8 : Tryz.prog.cellsOf 36 = 8 := by kernel_rfl
  match xs, hxl3, l, hlen, hff with
  | [y0, y1, y2], _, [v0, v1, v2], _, hff =>
    have g0 := hff 0 _ rfl
    have g1 := hff 1 _ rfl
    have g2 := hff 2 _ rfl
    have t0 := hone 0 _ rfl
    have t1 := hone 1 _ rfl
    have t2 := hone 2 _ rfl
    rw [t0.1, t0.2] at g0
    rw [t1.1, t1.2] at g1
    rw [t2.1, t2.2] at g2
    simp [Value.cells] at g0 g1 g2
    obtain ⟨ms, hc1, _, _⟩ := DataW.trod_int Tryz.underlying3 g1
    obtain ⟨nt, hc2, _, _⟩ := DataW.trod_int Tryz.underlying3 g2
    simp at hc1 hc2
    obtain ⟨no, nc, ns, rfl, hr, hl, hm, hno, hg⟩ := rowG_field (α := TN × NdL) (k := 8) (enc := ndc) (good := fun x => NdIs W.heap.size W x.1 x.2) (by decide) (fun _ => rfl) Tryz.underlying22 e8 (fun m cs x hmn hlen h2 => node_cells hlen h2) g0
    refine ⟨⟨ns.map (·.1), ms, nt⟩, no, nc, by rw [hc1, hc2]; simp, ⟨by simpa using hl, hm⟩, hno, fun i n hi => ?_⟩
    rw [List.getElem?_map] at hi
    cases hx : ns[i]? with
    | none => rw [hx] at hi; cases hi
    | some x =>
      rw [hx] at hi
      cases hi
      rcases hr with h | ⟨b, off, h1, h2, h3⟩
      · rw [h] at hx; simp at hx
      · have c := h3 i x hx
        exact ⟨b, off, x.2, h1, h2, hg x (List.mem_of_getElem? hx), ⟨c 0 _ rfl, c 1 _ rfl, c 2 _ rfl, c 3 _ rfl, c 4 _ rfl, c 5 _ rfl, c 6 _ rfl, c 7 _ rfl⟩⟩
end Go.Proofs.YtlmjkbdodecbmaaGreatDoor
