/-
  Pe05: PrdD (what is needed of them).
-/
import Derived.Test.YtlmjkbdodecbmaaDoorPe04
import Derived.Laws.StructEq
import Derived.OwnWalk

namespace Go.Proofs.YtlmjkbdodecbmaaDoor
open Go.RowKit
set_option linter.unusedVariables false
set_option linter.unusedSimpArgs false
attribute [local go_sem] field_nat
set_option maxRecDepth 100000 in
set_option maxHeartbeats 2000000 in
/-- SamePred of two that are alike. -/
theorem same_self (p : PT) : ∀ (vo : Option Addr) (vc : Nat) (ko : Option Addr) (kc : Nat) (uo : Option Addr) (uc : Nat) (lo : Option Addr) (lc : Nat) (B : Nat) (w : World), PtIs B w p vo vc ko kc → PtIs B w p uo uc lo lc → Hid (B ≤ w.heap.size) →
    Calls Tryd.prog 13 #[.agg #[.int .i64 p.op, .int .i64 p.fld, .slice vo p.vals.length vc, .slice ko p.kids.length kc], .agg #[.int .i64 p.op, .int .i64 p.fld, .slice uo p.vals.length uc, .slice lo p.kids.length lc]] w fun e w' => e = .returned (.bool true) ∧ Below w.heap.size w w' := by
  induction p using PT.ind with
  | h op fld vs ks ih =>
  intro vo vc ko kc uo uc lo lc B w hA hB HBS
  show Calls Tryd.prog 13 #[.agg #[.int .i64 op, .int .i64 fld, .slice vo vs.length vc, .slice ko ks.length kc], .agg #[.int .i64 op, .int .i64 fld, .slice uo vs.length uc, .slice lo ks.length lc]] w fun e w' => e = .returned (.bool true) ∧ Below w.heap.size w w'
  have HIH := Lib.hid ih
  obtain ⟨w0, hw0, hbf, hz0, pa, hpa, hba⟩ := boxP w op fld vo vs.length vc ko ks.length kc
  obtain ⟨w1, hw1, hb1, hz1, pb, hpb, hbb⟩ := boxP w0 op fld uo vs.length uc lo ks.length lc
  replace hba := hba.kept hb1
  replace hbf := hbf.trans (hb1.mono hbf.size)
  replace hA := hA.low (Low.of_below hbf HBS.out)
  replace hB := hB.low (Low.of_below hbf HBS.out)
  replace HBS : Hid (B ≤ w1.heap.size) := Lib.hid (Nat.le_trans HBS.out hbf.size)
  have hvl : vs.length ≤ 9223372036854775807 := by have := hA.vals.cap; unfold maxLen at this; exact Nat.le_trans this.1 (by omega)
  have hkl : ks.length ≤ 9223372036854775807 := Nat.le_trans hA.kcap.1 hA.kcap.2
  have HW0 := Lib.hid hw0
  have HW1 := Lib.hid hw1
  have HPB : Hid (w.heap.size + 1 = pb) := Lib.hid (by rw [hpb, hz0])
  have HPA := Lib.hid hpa
  clear hw0 hw1 hz0 hz1 hpb hpa hb1 ih
  go_enter Tryd.func13, Tryd.ntmps13
  go_upto_region 1 with fail
  rw [← HW0.out, ← HW1.out, HPB.out, ← HPA.out]
  clear HW0 HW1 HPB HPA
  have a0 := hba.cell 0 _ rfl
  have a1 := hba.cell 1 _ rfl
  have a2 := hba.cell 2 _ rfl
  have a3 := hba.cell 3 _ rfl
  have b0 := hbb.cell 0 _ rfl
  have b1 := hbb.cell 1 _ rfl
  have b2 := hbb.cell 2 _ rfl
  have b3 := hbb.cell 3 _ rfl
  go_wp2_with fail
  clear a0 a1 a2 a3 b0 b1 b2 b3
  go_loopg [5] vs.length (fun gg iv wr => ∃ (i : Nat), i + gg = vs.length ∧ iv = .int .i64 (i : Int) ∧ BoxL wr pa [.int .i64 op, .int .i64 fld, .slice vo vs.length vc, .slice ko ks.length kc] ∧ BoxL wr pb [.int .i64 op, .int .i64 fld, .slice uo vs.length uc, .slice lo ks.length lc] ∧ PtIs B wr (.mk op fld vs ks) vo vc ko kc ∧ PtIs B wr (.mk op fld vs ks) uo uc lo lc ∧ Hid (B ≤ wr.heap.size) ∧ Below w.heap.size w wr)
  case atStart => exact ⟨0, by omega, rfl, hba, hbb, hA, hB, HBS, hbf⟩
  clear hba hbb hA hB HBS hbf
  case round =>
    obtain ⟨i, hi, rfl, hba, hbb, hA, hB, HBS, hbf⟩ := hrel
    have a2 := hba.cell 2 _ rfl
    by_cases hil : i < vs.length
    case pos =>
        have hii : ((i : Nat) : Int) < ((vs.length : Nat) : Int) := by omega
        have hqi : (0 : Int) ≤ (i : Int) := by omega
        obtain ⟨v, hv9⟩ : ∃ v, vs[i]? = some v := ⟨_, List.getElem?_eq_getElem hil⟩
        obtain ⟨g, go, e1, c0, c1, c2⟩ := hA.vals.v i v hv9
        obtain ⟨g2, go2, e2, d0, d1, d2⟩ := hB.vals.v i v hv9
        subst e1 e2
        clear hv9
        go_wp2_with fail
        clear a2

        refine wp_region_seq (S := fun w' => (BoxL w' pa [.int .i64 op, .int .i64 fld, .slice (some ⟨g, go, none⟩) vs.length vc, .slice ko ks.length kc] ∧ BoxL w' pb [.int .i64 op, .int .i64 fld, .slice (some ⟨g2, go2, none⟩) vs.length uc, .slice lo ks.length lc]) ∧ CellV w' g (go + i * 3) (.int .i64 v.k) ∧ CellV w' g (go + i * 3 + 1) (.string ⟨v.n.toArray⟩) ∧ CellV w' g (go + i * 3 + 2) (.string ⟨v.c.toArray⟩) ∧ CellV w' g2 (go2 + i * 3) (.int .i64 v.k) ∧ CellV w' g2 (go2 + i * 3 + 1) (.string ⟨v.n.toArray⟩) ∧ CellV w' g2 (go2 + i * 3 + 2) (.string ⟨v.c.toArray⟩)) [(true, 0), (true, 1), (true, 2), (true, 3), (true, 4), (true, 5), (true, 6), (true, 7), (true, 8), (true, 9), (true, 10)] (by kernel_rfl) (by kernel_rfl) (by kernel_rfl) (by kernel_rfl) (by kernel_rfl) (fun d _ _ _ _ h => by cases d <;> exact h) ⟨⟨hba.drew, hbb.drew⟩, c0.drew, c1.drew, c2.drew, d0.drew, d1.drew, d2.drew⟩ (fun _ => ?_)
        simp only [pickOps, List.append_eq, List.cons_append, List.nil_append, List.getElem?_toArray, List.getElem?_cons_succ, List.getElem?_cons_zero]
        have hb : Below wr.heap.size wr wr.drew := (Below.refl _ _).drew
        generalize wr.drew = wd at hb ⊢
        replace hba := hba.kept hb
        replace hbb := hbb.kept hb
        replace hA := hA.low (Low.of_below hb HBS.out)
        replace hB := hB.low (Low.of_below hb HBS.out)
        replace HBS : Hid (B ≤ _) := Lib.hid (Nat.le_trans HBS.out (hb).size)
        replace hbf := hbf.trans (hb.mono hbf.size)
        clear hb
        repeat (first | (refine seq_take (v := ?_) (by rfl) ?_ ?_; rotate_left; (· intro w hSw; (try dsimp only at hSw); obtain ⟨⟨hLA, hLB⟩, ⟨q0⟩, ⟨q1⟩, ⟨q2⟩, ⟨q3⟩, ⟨q4⟩, ⟨q5⟩⟩ := hSw; have a0 := hLA.cell 0 _ rfl; have a1 := hLA.cell 1 _ rfl; have a2 := hLA.cell 2 _ rfl; have a3 := hLA.cell 3 _ rfl; have b0 := hLB.cell 0 _ rfl; have b1 := hLB.cell 1 _ rfl; have b2 := hLB.cell 2 _ rfl; have b3 := hLB.cell 3 _ rfl; clear hLA hLB; go_simp; all_goals with_reducible rfl); (try simp only [Act.put, List.setIfInBounds_toArray, List.set_cons_zero, List.set_cons_succ])) | (refine seq_leave (by rfl) ?_; (try simp only [Act.put, List.setIfInBounds_toArray, List.set_cons_zero, List.set_cons_succ])))
        refine seq_end ?_

        go_wp2_with fail
        go_roundg (gk - 1)
        case measure => omega
        case rel => exact ⟨i + 1, by omega, by go_num, hba, hbb, hA, hB, HBS, hbf⟩
    case neg =>
    have hii : ¬ ((i : Nat) : Int) < ((vs.length : Nat) : Int) := by omega
    go_wp2_with fail
    clear a2 hii hil hi
    obtain ⟨w5, hw5⟩ : ∃ W, W = wr := ⟨_, rfl⟩; subst hw5
    go_loopg [6] ks.length (fun gg iv wr => ∃ (i : Nat), i + gg = ks.length ∧ iv = .int .i64 (i : Int) ∧ BoxL wr pa [.int .i64 op, .int .i64 fld, .slice vo vs.length vc, .slice ko ks.length kc] ∧ BoxL wr pb [.int .i64 op, .int .i64 fld, .slice uo vs.length uc, .slice lo ks.length lc] ∧ PtIs B wr (.mk op fld vs ks) vo vc ko kc ∧ PtIs B wr (.mk op fld vs ks) uo uc lo lc ∧ Hid (B ≤ wr.heap.size) ∧ Below w.heap.size w wr)
    case atStart => exact ⟨0, by omega, rfl, hba, hbb, hA, hB, HBS, hbf⟩
    clear hba hbb hA hB HBS hbf
    case round =>
      obtain ⟨i, hi, rfl, hba, hbb, hA, hB, HBS, hbf⟩ := hrel
      have a3 := hba.cell 3 _ rfl
      by_cases hil : i < ks.length
      case pos =>
        have hii : ((i : Nat) : Int) < ((ks.length : Nat) : Int) := by omega
        have hqi : (0 : Int) ≤ (i : Int) := by omega
        obtain ⟨k, hk9⟩ : ∃ v, ks[i]? = some v := ⟨_, List.getElem?_eq_getElem hil⟩
        have HKM : Hid (k ∈ ks) := Lib.hid (List.mem_of_getElem? hk9)
        obtain ⟨g, go, e1, _, kvo, kvc, kko, kkc, hX, hk1⟩ := hA.kid (i := i) (k := k) hk9
        obtain ⟨g2, go2, e2, _, lvo, lvc, lko, lkc, hY, hk2⟩ := hB.kid (i := i) (k := k) hk9
        subst e1 e2
        have HBS0 := HBS
        clear hk9
        go_wp2_with fail
        clear a3

        refine wp_region_seq (S := fun w' => (BoxL w' pa [.int .i64 op, .int .i64 fld, .slice vo vs.length vc, .slice (some ⟨g, go, none⟩) ks.length kc] ∧ BoxL w' pb [.int .i64 op, .int .i64 fld, .slice uo vs.length uc, .slice (some ⟨g2, go2, none⟩) ks.length lc]) ∧ At4 w' g (go + i * 4) (.int .i64 k.op) (.int .i64 k.fld) (.slice kvo k.vals.length kvc) (.slice kko k.kids.length kkc) ∧ At4 w' g2 (go2 + i * 4) (.int .i64 k.op) (.int .i64 k.fld) (.slice lvo k.vals.length lvc) (.slice lko k.kids.length lkc)) [(true, 0), (true, 1), (true, 2), (true, 3), (true, 4), (true, 5), (true, 6), (true, 7), (true, 8), (true, 9), (false, 10), (true, 11)] (by kernel_rfl) (by kernel_rfl) (by kernel_rfl) (by kernel_rfl) (by kernel_rfl) (fun d _ _ _ _ h => by cases d <;> exact h) ⟨⟨hba.drew, hbb.drew⟩, hk1.drew, hk2.drew⟩ (fun _ => ?_)
        simp only [pickOps, List.append_eq, List.cons_append, List.nil_append, List.getElem?_toArray, List.getElem?_cons_succ, List.getElem?_cons_zero]
        have hb : Below wr.heap.size wr wr.drew := (Below.refl _ _).drew
        generalize wr.drew = wd at hb ⊢
        replace hba := hba.kept hb
        replace hbb := hbb.kept hb
        replace hA := hA.low (Low.of_below hb HBS.out)
        replace hB := hB.low (Low.of_below hb HBS.out)
        replace HBS : Hid (B ≤ _) := Lib.hid (Nat.le_trans HBS.out (hb).size)
        replace hbf := hbf.trans (hb.mono hbf.size)
        replace hk1 := hk1.kept hb
        replace hk2 := hk2.kept hb
        replace hX := hX.low (Low.of_below hb HBS0.out)
        replace hY := hY.low (Low.of_below hb HBS0.out)
        replace HBS0 := HBS
        clear hb
        repeat (first | (refine seq_take (v := ?_) (by rfl) ?_ ?_; rotate_left; (· intro w hSw; (try dsimp only at hSw); obtain ⟨⟨hLA, hLB⟩, ⟨q0, q1, q2, q3⟩, ⟨q4, q5, q6, q7⟩⟩ := hSw; have a0 := hLA.cell 0 _ rfl; have a1 := hLA.cell 1 _ rfl; have a2 := hLA.cell 2 _ rfl; have a3 := hLA.cell 3 _ rfl; have b0 := hLB.cell 0 _ rfl; have b1 := hLB.cell 1 _ rfl; have b2 := hLB.cell 2 _ rfl; have b3 := hLB.cell 3 _ rfl; clear hLA hLB; go_simp; all_goals with_reducible rfl); (try simp only [Act.put, List.setIfInBounds_toArray, List.set_cons_zero, List.set_cons_succ])) | (refine seq_leave (by rfl) ?_; (try simp only [Act.put, List.setIfInBounds_toArray, List.set_cons_zero, List.set_cons_succ])))
        refine seq_step (by rfl) (fun K hK => ?_)
        go_simp
        go_at_call 13
        (with_reducible refine (HIH.out k HKM.out kvo kvc kko kkc lvo lvc lko lkc B _ hX hY HBS).mono ?_)
        rintro e w8 ⟨rfl, hb⟩
        replace hba := hba.kept hb
        replace hbb := hbb.kept hb
        replace hA := hA.low (Low.of_below hb HBS.out)
        replace hB := hB.low (Low.of_below hb HBS.out)
        replace HBS : Hid (B ≤ _) := Lib.hid (Nat.le_trans HBS.out (hb).size)
        replace hbf := hbf.trans (hb.mono hbf.size)
        replace hk1 := hk1.kept hb
        replace hk2 := hk2.kept hb
        replace hX := hX.low (Low.of_below hb HBS0.out)
        replace hY := hY.low (Low.of_below hb HBS0.out)
        replace HBS0 := HBS
        clear hb
        first | refine hK.out _ _ ⟨⟨hba, hbb⟩, hk1, hk2⟩ (fun _ => ?_) | (go_wp2_with fail; refine hK.out _ _ ⟨⟨hba, hbb⟩, hk1, hk2⟩ (fun _ => ?_))
        clear hK K
        (try simp only [Act.put, List.setIfInBounds_toArray, List.set_cons_zero, List.set_cons_succ])
        repeat (first | (refine seq_take (v := ?_) (by rfl) ?_ ?_; rotate_left; (· intro w hSw; (try dsimp only at hSw); obtain ⟨⟨hLA, hLB⟩, ⟨q0, q1, q2, q3⟩, ⟨q4, q5, q6, q7⟩⟩ := hSw; have a0 := hLA.cell 0 _ rfl; have a1 := hLA.cell 1 _ rfl; have a2 := hLA.cell 2 _ rfl; have a3 := hLA.cell 3 _ rfl; have b0 := hLB.cell 0 _ rfl; have b1 := hLB.cell 1 _ rfl; have b2 := hLB.cell 2 _ rfl; have b3 := hLB.cell 3 _ rfl; clear hLA hLB; go_simp; all_goals with_reducible rfl); (try simp only [Act.put, List.setIfInBounds_toArray, List.set_cons_zero, List.set_cons_succ])) | (refine seq_leave (by rfl) ?_; (try simp only [Act.put, List.setIfInBounds_toArray, List.set_cons_zero, List.set_cons_succ])))
        refine seq_end ?_

        go_wp2_with fail
        go_roundg (gk - 1)
        case measure => omega
        case rel => exact ⟨i + 1, by omega, by go_num, hba, hbb, hA, hB, HBS, hbf⟩
      case neg =>
        have hii : ¬ ((i : Nat) : Int) < ((ks.length : Nat) : Int) := by omega
        go_wp2_with fail
        go_ret
        exact ⟨ret_one rfl, hbf⟩
end Go.Proofs.YtlmjkbdodecbmaaDoor
