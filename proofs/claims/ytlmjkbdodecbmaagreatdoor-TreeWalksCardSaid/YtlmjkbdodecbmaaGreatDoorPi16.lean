/-
  Pi16: LogB (what is needed of them).
-/
import Derived.Test.YtlmjkbdodecbmaaGreatDoorPi14
import Derived.Test.YtlmjkbdodecbmaaGreatDoorPi15

namespace Go.Proofs.YtlmjkbdodecbmaaGreatDoor
open Go.RowKit
set_option linter.unusedVariables false
set_option linter.unusedSimpArgs false
attribute [local go_sem] field_nat
set_option maxRecDepth 100000 in
set_option maxHeartbeats 2000000 in
/-- values. -/
theorem lvalues_any (nm : List UInt8) (fk : Int) (fvo : Option Addr) (fvl fvc : Nat) (rk : Int) (rn rc : List UInt8) (inv : Int) (ao : Option Addr) (cap : Nat) (vs : List V3) (b : Bool) (w : World) (hv : Hid (Vals w ao vs)) (hvl : Hid (∀ v ∈ vs, v.n.length ≤ 1000000)) (hlm : vs.length ≤ 9223372036854775807) (HB : Hid (b = valuesB (kindF fk) vs)) :
    Calls Tryz.prog 154 #[.slice ao vs.length cap, .agg #[.string ⟨nm.toArray⟩, .int .i64 fk, .slice fvo fvl fvc, .int .i64 rk, .string ⟨rn.toArray⟩, .string ⟨rc.toArray⟩, .int .i64 inv]] w fun e w' => e = .returned (.bool b) ∧ Below w.heap.size w w' := by
  obtain ⟨w0, hw0, hbf, hz0, px, hpx, hbx⟩ := boxF w nm fk fvo fvl fvc rk rn rc inv
  have HW := Lib.hid hw0
  clear hw0 hz0
  go_enter Tryz.func154, Tryz.ntmps154
  go_upto_region 1 with fail
  rw [← HW.out, ← hpx]
  clear hpx HW
  have e1 := hbx.cell 1 _ rfl
  clear hbx
  by_cases hk1 : fk = 1
  · subst hk1
    replace HB : Hid (b = valuesB 1 vs) := HB
    go_wp2_with fail
    go_loopg [16] vs.length (fun gg iv wr => ∃ (i : Nat), i + gg = vs.length ∧ iv = .int .i64 (i : Int) ∧ Hid (valuesB 1 (vs.drop i) = b) ∧ Below w.heap.size w wr)
    case atStart => exact ⟨0, by omega, rfl, Lib.hid HB.out.symm, hbf⟩
    clear hbf HB
    case round =>
      obtain ⟨i, hi, rfl, HR, hbf⟩ := hrel
      by_cases hil : ¬ i < vs.length
      case pos =>
        have HB2 : Hid (true = b) := Lib.hid (by rw [← HR.out, List.drop_eq_nil_of_le (by omega)]; rfl)
        have hii : ¬ ((i : Nat) : Int) < ((vs.length : Nat) : Int) := by omega
        go_wp2_with fail
        go_ret
        exact ⟨ret_one (congrArg Value.bool HB2.out), hbf⟩
      case neg =>
        have hil9 : i < vs.length := by omega
        have hii : ((i : Nat) : Int) < ((vs.length : Nat) : Int) := by omega
        have hqi : (0 : Int) ≤ (i : Int) := by omega
        obtain ⟨v, hv9⟩ : ∃ v, vs[i]? = some v := ⟨_, List.getElem?_eq_getElem hil9⟩
        have hnl : Hid (v.n.length ≤ 1000000) := Lib.hid (hvl.out v (List.mem_of_getElem? hv9))
        obtain ⟨rb, roff, har, v0, v1, v2⟩ := hv.out i v hv9
        rw [valuesB_drop hv9] at HR
        replace v0 := (v0.kept hbf).cell
        replace v1 := (v1.kept hbf).cell
        replace v2 := (v2.kept hbf).cell
        obtain ⟨k, n, c⟩ := v
        dsimp only at hnl HR
        subst har
        obtain ⟨d2, hd2⟩ : ∃ d, vvalid k n c = d := ⟨_, rfl⟩
        rw [hd2] at HR
        have HD2 := Lib.hid hd2
        clear hil hv9 hd2
        obtain ⟨w1, hwE, hb0, _, pv, hpE, hbv⟩ := boxV wr k n c
        have HW := Lib.hid hwE; clear hwE
        go_upto_region 10 with fail
        rw [← HW.out, ← hpE]
        clear HW hpE v0 v1 v2
        replace hbf := hbf.trans (hb0.mono hbf.size)
        clear hb0
        have v0 := hbv.c0
        have v1 := hbv.c1
        have v2 := hbv.c2
        go_wp2_with fail
        (with_reducible refine (vvalid_h k n c d2 _ HD2 hnl).mono ?_)
        rintro e w3 ⟨rfl, hb3⟩
        replace hbf := hbf.trans (hb3.mono hbf.size)
        replace hbv := hbv.kept hb3
        clear v0 v1 v2 hb3 
        have v0 := hbv.c0
        clear hbv
        cases d2
        · have HB2 : Hid (false = b) := Lib.hid (by rw [← HR.out]; rfl)
          go_wp2_with fail
          go_ret
          exact ⟨ret_one (congrArg Value.bool HB2.out), hbf⟩
        · by_cases hk : k = 1
          · subst hk
            replace HR : Hid (valuesB 1 (vs.drop (i + 1)) = b) := Lib.hid (by rw [← HR.out]; rfl)
            go_wp2_with fail
            go_roundg (gk - 1)
            case measure => omega
            case rel => exact ⟨i + 1, by omega, by go_num, HR, hbf⟩
          · have hkn : (k != 1) = true := by rw [bne_iff_ne]; exact hk
            have HB2 : Hid (false = b) := Lib.hid (by rw [← HR.out, decide_eq_false hk]; simp)
            go_wp2_with fail
            go_ret
            exact ⟨ret_one (congrArg Value.bool HB2.out), hbf⟩
  · have hkb1 : (fk == 1) = false := by rw [beq_eq_false_iff_ne]; exact hk1
    by_cases hk2 : fk = 2
    · subst hk2
      replace HB : Hid (b = valuesB 2 vs) := HB
      go_wp2_with fail
      go_loopg [16] vs.length (fun gg iv wr => ∃ (i : Nat), i + gg = vs.length ∧ iv = .int .i64 (i : Int) ∧ Hid (valuesB 2 (vs.drop i) = b) ∧ Below w.heap.size w wr)
      case atStart => exact ⟨0, by omega, rfl, Lib.hid HB.out.symm, hbf⟩
      clear hbf HB
      case round =>
        obtain ⟨i, hi, rfl, HR, hbf⟩ := hrel
        by_cases hil : ¬ i < vs.length
        case pos =>
          have HB2 : Hid (true = b) := Lib.hid (by rw [← HR.out, List.drop_eq_nil_of_le (by omega)]; rfl)
          have hii : ¬ ((i : Nat) : Int) < ((vs.length : Nat) : Int) := by omega
          go_wp2_with fail
          go_ret
          exact ⟨ret_one (congrArg Value.bool HB2.out), hbf⟩
        case neg =>
          have hil9 : i < vs.length := by omega
          have hii : ((i : Nat) : Int) < ((vs.length : Nat) : Int) := by omega
          have hqi : (0 : Int) ≤ (i : Int) := by omega
          obtain ⟨v, hv9⟩ : ∃ v, vs[i]? = some v := ⟨_, List.getElem?_eq_getElem hil9⟩
          have hnl : Hid (v.n.length ≤ 1000000) := Lib.hid (hvl.out v (List.mem_of_getElem? hv9))
          obtain ⟨rb, roff, har, v0, v1, v2⟩ := hv.out i v hv9
          rw [valuesB_drop hv9] at HR
          replace v0 := (v0.kept hbf).cell
          replace v1 := (v1.kept hbf).cell
          replace v2 := (v2.kept hbf).cell
          obtain ⟨k, n, c⟩ := v
          dsimp only at hnl HR
          subst har
          obtain ⟨d2, hd2⟩ : ∃ d, vvalid k n c = d := ⟨_, rfl⟩
          rw [hd2] at HR
          have HD2 := Lib.hid hd2
          clear hil hv9 hd2
          obtain ⟨w1, hwE, hb0, _, pv, hpE, hbv⟩ := boxV wr k n c
          have HW := Lib.hid hwE; clear hwE
          go_upto_region 10 with fail
          rw [← HW.out, ← hpE]
          clear HW hpE v0 v1 v2
          replace hbf := hbf.trans (hb0.mono hbf.size)
          clear hb0
          have v0 := hbv.c0
          have v1 := hbv.c1
          have v2 := hbv.c2
          go_wp2_with fail
          (with_reducible refine (vvalid_h k n c d2 _ HD2 hnl).mono ?_)
          rintro e w3 ⟨rfl, hb3⟩
          replace hbf := hbf.trans (hb3.mono hbf.size)
          replace hbv := hbv.kept hb3
          clear v0 v1 v2 hb3 
          have v0 := hbv.c0
          clear hbv
          cases d2
          · have HB2 : Hid (false = b) := Lib.hid (by rw [← HR.out]; rfl)
            go_wp2_with fail
            go_ret
            exact ⟨ret_one (congrArg Value.bool HB2.out), hbf⟩
          · by_cases hk : k = 2
            · subst hk
              replace HR : Hid (valuesB 2 (vs.drop (i + 1)) = b) := Lib.hid (by rw [← HR.out]; rfl)
              go_wp2_with fail
              go_roundg (gk - 1)
              case measure => omega
              case rel => exact ⟨i + 1, by omega, by go_num, HR, hbf⟩
            · have hkn : (k != 2) = true := by rw [bne_iff_ne]; exact hk
              have HB2 : Hid (false = b) := Lib.hid (by rw [← HR.out, decide_eq_false hk]; simp)
              go_wp2_with fail
              go_ret
              exact ⟨ret_one (congrArg Value.bool HB2.out), hbf⟩
    · have hkb2 : (fk == 2) = false := by rw [beq_eq_false_iff_ne]; exact hk2
      replace HB : Hid (b = valuesB 0 vs) := Lib.hid (by rw [HB.out]; unfold kindF; rw [if_neg hk1, if_neg hk2])
      go_wp2_with fail
      go_loopg [16] vs.length (fun gg iv wr => ∃ (i : Nat), i + gg = vs.length ∧ iv = .int .i64 (i : Int) ∧ Hid (valuesB 0 (vs.drop i) = b) ∧ Below w.heap.size w wr)
      case atStart => exact ⟨0, by omega, rfl, Lib.hid HB.out.symm, hbf⟩
      clear hbf HB
      case round =>
        obtain ⟨i, hi, rfl, HR, hbf⟩ := hrel
        by_cases hil : ¬ i < vs.length
        case pos =>
          have HB2 : Hid (true = b) := Lib.hid (by rw [← HR.out, List.drop_eq_nil_of_le (by omega)]; rfl)
          have hii : ¬ ((i : Nat) : Int) < ((vs.length : Nat) : Int) := by omega
          go_wp2_with fail
          go_ret
          exact ⟨ret_one (congrArg Value.bool HB2.out), hbf⟩
        case neg =>
          have hil9 : i < vs.length := by omega
          have hii : ((i : Nat) : Int) < ((vs.length : Nat) : Int) := by omega
          have hqi : (0 : Int) ≤ (i : Int) := by omega
          obtain ⟨v, hv9⟩ : ∃ v, vs[i]? = some v := ⟨_, List.getElem?_eq_getElem hil9⟩
          have hnl : Hid (v.n.length ≤ 1000000) := Lib.hid (hvl.out v (List.mem_of_getElem? hv9))
          obtain ⟨rb, roff, har, v0, v1, v2⟩ := hv.out i v hv9
          rw [valuesB_drop hv9] at HR
          replace v0 := (v0.kept hbf).cell
          replace v1 := (v1.kept hbf).cell
          replace v2 := (v2.kept hbf).cell
          obtain ⟨k, n, c⟩ := v
          dsimp only at hnl HR
          subst har
          obtain ⟨d2, hd2⟩ : ∃ d, vvalid k n c = d := ⟨_, rfl⟩
          rw [hd2] at HR
          have HD2 := Lib.hid hd2
          clear hil hv9 hd2
          obtain ⟨w1, hwE, hb0, _, pv, hpE, hbv⟩ := boxV wr k n c
          have HW := Lib.hid hwE; clear hwE
          go_upto_region 10 with fail
          rw [← HW.out, ← hpE]
          clear HW hpE v0 v1 v2
          replace hbf := hbf.trans (hb0.mono hbf.size)
          clear hb0
          have v0 := hbv.c0
          have v1 := hbv.c1
          have v2 := hbv.c2
          go_wp2_with fail
          (with_reducible refine (vvalid_h k n c d2 _ HD2 hnl).mono ?_)
          rintro e w3 ⟨rfl, hb3⟩
          replace hbf := hbf.trans (hb3.mono hbf.size)
          replace hbv := hbv.kept hb3
          clear v0 v1 v2 hb3 
          have v0 := hbv.c0
          clear hbv
          cases d2
          · have HB2 : Hid (false = b) := Lib.hid (by rw [← HR.out]; rfl)
            go_wp2_with fail
            go_ret
            exact ⟨ret_one (congrArg Value.bool HB2.out), hbf⟩
          · have HB2 : Hid (false = b) := Lib.hid (by rw [← HR.out]; rfl)
            go_wp2_with fail
            go_ret
            exact ⟨ret_one (congrArg Value.bool HB2.out), hbf⟩
set_option maxRecDepth 100000 in
set_option maxHeartbeats 4000000 in
/-- asks. -/
theorem lasks_any (op fld : Int) (vals : List V3) (kids : List PT) (vo : Option Addr) (vc : Nat) (ko : Option Addr) (kc : Nat) (ao : Option Addr) (cap : Nat) (xs : List FV) (b : Bool) (w : World) (hf : Flds w ao xs) (hxl : xs.length ≤ 1000000) (hvs : Hid (Vals w vo vals)) (hvl : Hid (∀ v ∈ vals, v.n.length ≤ 1000000)) (hvm : vals.length ≤ 9223372036854775807) (hkm : kids.length ≤ 9223372036854775807) (HB : Hid (b = asksB (xs.map (·.f)) (.mk op fld vals kids))) :
    Calls Tryz.prog 133 #[.agg #[.int .i64 op, .int .i64 fld, .slice vo vals.length vc, .slice ko kids.length kc], .slice ao xs.length cap] w fun e w' => e = .returned (.bool b) ∧ Below w.heap.size w w' := by
  obtain ⟨w0, hw0, hbf, -, px, hpx, hbx⟩ := boxP w op fld vo vals.length vc ko kids.length kc
  have HW := Lib.hid hw0
  replace hf := hf.below hbf
  replace hvs : Hid (Vals w0 vo vals) := Lib.hid (hvs.out.below hbf)
  clear hw0
  go_enter Tryz.func133, Tryz.ntmps133
  go_upto_region 1 with fail
  rw [← HW.out, ← hpx]
  clear hpx HW
  by_cases hf0 : fld < 0
  case pos =>
    have HB2 : Hid (b = false) := Lib.hid (by rw [HB.out]; unfold asksB; rw [if_pos (.inl hf0)])
    refine wp_region_seq (S := fun w' => BoxL w' px [.int .i64 op, .int .i64 fld, .slice vo vals.length vc, .slice ko kids.length kc]) [(true, 0), (true, 1), (true, 2), (true, 3), (true, 4), (true, 5), (true, 6), (true, 7), (true, 8), (true, 9), (true, 10), (true, 11), (true, 12), (true, 13), (true, 14), (true, 15), (true, 16), (true, 17), (true, 18), (true, 19), (true, 20), (true, 21), (true, 22), (true, 23), (false, 24), (true, 25), (true, 26)] (by kernel_rfl) (by kernel_rfl) (by kernel_rfl) (by kernel_rfl) (by kernel_rfl) (fun d _ _ _ _ h => by cases d <;> exact h) hbx.drew (fun _ => ?_)
    simp only [pickOps, List.append_eq, List.cons_append, List.nil_append, List.getElem?_toArray, List.getElem?_cons_succ, List.getElem?_cons_zero]
    have hb : Below w0.heap.size w0 w0.drew := (Below.refl _ _).drew
    generalize w0.drew = wd at hb ⊢
    replace hbx := hbx.kept hb
    replace hbf := hbf.trans (hb.mono hbf.size)
    clear hb
    repeat (first | (refine seq_take (v := ?_) (by rfl) ?_ ?_; rotate_left; (· intro w hSw; (try dsimp only at hSw); have hL := hSw; have e0 := hL.cell 0 _ rfl; have e1 := hL.cell 1 _ rfl; have e2 := hL.cell 2 _ rfl; have e3 := hL.cell 3 _ rfl; clear hL; go_simp; all_goals with_reducible rfl); (try simp only [Act.put, List.setIfInBounds_toArray, List.set_cons_zero, List.set_cons_succ])) | (refine seq_leave (by rfl) ?_; (try simp only [Act.put, List.setIfInBounds_toArray, List.set_cons_zero, List.set_cons_succ])))
    refine seq_pass (by rfl) hbx ?_
    repeat (first | (refine seq_take (v := ?_) (by rfl) ?_ ?_; rotate_left; (· intro w hSw; (try dsimp only at hSw); have hL := hSw; have e0 := hL.cell 0 _ rfl; have e1 := hL.cell 1 _ rfl; have e2 := hL.cell 2 _ rfl; have e3 := hL.cell 3 _ rfl; clear hL; go_simp; all_goals with_reducible rfl); (try simp only [Act.put, List.setIfInBounds_toArray, List.set_cons_zero, List.set_cons_succ])) | (refine seq_leave (by rfl) ?_; (try simp only [Act.put, List.setIfInBounds_toArray, List.set_cons_zero, List.set_cons_succ])))
    refine seq_end ?_
    go_wp2_with fail
    go_ret
    exact ⟨ret_one (congrArg Value.bool HB2.out.symm), hbf⟩
  case neg =>
  by_cases hf1 : (xs.length : Int) ≤ fld
  case pos =>
    have HB2 : Hid (b = false) := Lib.hid (by rw [HB.out]; unfold asksB; rw [if_pos (.inr (.inl (by rw [List.length_map]; exact hf1)))])
    refine wp_region_seq (S := fun w' => BoxL w' px [.int .i64 op, .int .i64 fld, .slice vo vals.length vc, .slice ko kids.length kc]) [(true, 0), (true, 1), (true, 2), (true, 3), (true, 4), (true, 5), (true, 6), (true, 7), (true, 8), (true, 9), (true, 10), (true, 11), (true, 12), (true, 13), (true, 14), (true, 15), (true, 16), (true, 17), (true, 18), (true, 19), (true, 20), (true, 21), (true, 22), (true, 23), (false, 24), (true, 25), (true, 26)] (by kernel_rfl) (by kernel_rfl) (by kernel_rfl) (by kernel_rfl) (by kernel_rfl) (fun d _ _ _ _ h => by cases d <;> exact h) hbx.drew (fun _ => ?_)
    simp only [pickOps, List.append_eq, List.cons_append, List.nil_append, List.getElem?_toArray, List.getElem?_cons_succ, List.getElem?_cons_zero]
    have hb : Below w0.heap.size w0 w0.drew := (Below.refl _ _).drew
    generalize w0.drew = wd at hb ⊢
    replace hbx := hbx.kept hb
    replace hbf := hbf.trans (hb.mono hbf.size)
    clear hb
    repeat (first | (refine seq_take (v := ?_) (by rfl) ?_ ?_; rotate_left; (· intro w hSw; (try dsimp only at hSw); have hL := hSw; have e0 := hL.cell 0 _ rfl; have e1 := hL.cell 1 _ rfl; have e2 := hL.cell 2 _ rfl; have e3 := hL.cell 3 _ rfl; clear hL; go_simp; all_goals with_reducible rfl); (try simp only [Act.put, List.setIfInBounds_toArray, List.set_cons_zero, List.set_cons_succ])) | (refine seq_leave (by rfl) ?_; (try simp only [Act.put, List.setIfInBounds_toArray, List.set_cons_zero, List.set_cons_succ])))
    refine seq_pass (by rfl) hbx ?_
    repeat (first | (refine seq_take (v := ?_) (by rfl) ?_ ?_; rotate_left; (· intro w hSw; (try dsimp only at hSw); have hL := hSw; have e0 := hL.cell 0 _ rfl; have e1 := hL.cell 1 _ rfl; have e2 := hL.cell 2 _ rfl; have e3 := hL.cell 3 _ rfl; clear hL; go_simp; all_goals with_reducible rfl); (try simp only [Act.put, List.setIfInBounds_toArray, List.set_cons_zero, List.set_cons_succ])) | (refine seq_leave (by rfl) ?_; (try simp only [Act.put, List.setIfInBounds_toArray, List.set_cons_zero, List.set_cons_succ])))
    refine seq_end ?_
    go_wp2_with fail
    go_ret
    exact ⟨ret_one (congrArg Value.bool HB2.out.symm), hbf⟩
  case neg =>
  by_cases hf2 : 0 < kids.length
  case pos =>
    have HB2 : Hid (b = false) := Lib.hid (by rw [HB.out]; unfold asksB; rw [if_pos (.inr (.inr hf2))])
    have hf2g : (0 : Int) < ((kids.length : Nat) : Int) := by omega
    refine wp_region_seq (S := fun w' => BoxL w' px [.int .i64 op, .int .i64 fld, .slice vo vals.length vc, .slice ko kids.length kc]) [(true, 0), (true, 1), (true, 2), (true, 3), (true, 4), (true, 5), (true, 6), (true, 7), (true, 8), (true, 9), (true, 10), (true, 11), (true, 12), (true, 13), (true, 14), (true, 15), (true, 16), (true, 17), (true, 18), (true, 19), (true, 20), (true, 21), (true, 22), (true, 23), (false, 24), (true, 25), (true, 26)] (by kernel_rfl) (by kernel_rfl) (by kernel_rfl) (by kernel_rfl) (by kernel_rfl) (fun d _ _ _ _ h => by cases d <;> exact h) hbx.drew (fun _ => ?_)
    simp only [pickOps, List.append_eq, List.cons_append, List.nil_append, List.getElem?_toArray, List.getElem?_cons_succ, List.getElem?_cons_zero]
    have hb : Below w0.heap.size w0 w0.drew := (Below.refl _ _).drew
    generalize w0.drew = wd at hb ⊢
    replace hbx := hbx.kept hb
    replace hbf := hbf.trans (hb.mono hbf.size)
    clear hb
    repeat (first | (refine seq_take (v := ?_) (by rfl) ?_ ?_; rotate_left; (· intro w hSw; (try dsimp only at hSw); have hL := hSw; have e0 := hL.cell 0 _ rfl; have e1 := hL.cell 1 _ rfl; have e2 := hL.cell 2 _ rfl; have e3 := hL.cell 3 _ rfl; clear hL; go_simp; all_goals with_reducible rfl); (try simp only [Act.put, List.setIfInBounds_toArray, List.set_cons_zero, List.set_cons_succ])) | (refine seq_leave (by rfl) ?_; (try simp only [Act.put, List.setIfInBounds_toArray, List.set_cons_zero, List.set_cons_succ])))
    refine seq_pass (by rfl) hbx ?_
    repeat (first | (refine seq_take (v := ?_) (by rfl) ?_ ?_; rotate_left; (· intro w hSw; (try dsimp only at hSw); have hL := hSw; have e0 := hL.cell 0 _ rfl; have e1 := hL.cell 1 _ rfl; have e2 := hL.cell 2 _ rfl; have e3 := hL.cell 3 _ rfl; clear hL; go_simp; all_goals with_reducible rfl); (try simp only [Act.put, List.setIfInBounds_toArray, List.set_cons_zero, List.set_cons_succ])) | (refine seq_leave (by rfl) ?_; (try simp only [Act.put, List.setIfInBounds_toArray, List.set_cons_zero, List.set_cons_succ])))
    refine seq_end ?_
    go_wp2_with fail
    go_ret
    exact ⟨ret_one (congrArg Value.bool HB2.out.symm), hbf⟩
  case neg =>
  have hf2g : ¬ (0 : Int) < ((kids.length : Nat) : Int) := by omega
  obtain ⟨fl, rfl⟩ : ∃ n : Nat, fld = (n : Int) := ⟨fld.toNat, by omega⟩
  have hfl9 : fl < xs.length := by omega
  have hflg : ((fl : Nat) : Int) < ((xs.length : Nat) : Int) := by omega
  obtain ⟨x, hx9⟩ : ∃ x, xs[fl]? = some x := ⟨_, List.getElem?_eq_getElem hfl9⟩
  obtain ⟨fb, fo, rfl, hfa⟩ := hf.at hx9
  have hfx : (xs.map (·.f))[fl]? = some x.f := by rw [List.getElem?_map, hx9]; rfl
  obtain ⟨⟨nm, fk, fvals, ⟨rk, rn, rc⟩, inv⟩, fvo, fvc⟩ := x
  dsimp only at hfx
  have HB3 : Hid (b = (valuesB (kindF fk) vals && manyB op vals.length fk)) := Lib.hid (by
    rw [HB.out]
    unfold asksB
    rw [if_neg (by simp only [PT.fld, PT.kids, List.length_map]; omega)]
    simp only [PT.fld, Int.toNat_natCast]
    rw [hfx]
    rfl)
  obtain ⟨d, hd⟩ : ∃ d, d = valuesB (kindF fk) vals := ⟨_, rfl⟩
  rw [← hd] at HB3
  have HD := Lib.hid hd
  clear hd hfx hx9 HB
  refine wp_region_seq (S := fun w' => BoxL w' px [.int .i64 op, .int .i64 ((fl : Nat) : Int), .slice vo vals.length vc, .slice ko kids.length kc] ∧ FldAt w' fb (fo + fl * 7) ⟨⟨nm, fk, fvals, ⟨rk, rn, rc⟩, inv⟩, fvo, fvc⟩) [(true, 0), (true, 1), (true, 2), (true, 3), (true, 4), (true, 5), (true, 6), (true, 7), (true, 8), (true, 9), (true, 10), (true, 11), (true, 12), (true, 13), (true, 14), (true, 15), (true, 16), (true, 17), (true, 18), (true, 19), (true, 20), (true, 21), (true, 22), (true, 23), (false, 24), (true, 25), (true, 26)] (by kernel_rfl) (by kernel_rfl) (by kernel_rfl) (by kernel_rfl) (by kernel_rfl) (fun d _ _ _ _ h => by cases d <;> exact h) ⟨hbx.drew, hfa.drew⟩ (fun _ => ?_)
  simp only [pickOps, List.append_eq, List.cons_append, List.nil_append, List.getElem?_toArray, List.getElem?_cons_succ, List.getElem?_cons_zero]
  have hb : Below w0.heap.size w0 w0.drew := (Below.refl _ _).drew
  generalize w0.drew = wd at hb ⊢
  replace hbx := hbx.kept hb
  replace hfa := hfa.kept hb
  replace hvs : Hid (Vals _ vo vals) := Lib.hid (hvs.out.below hb)
  replace hbf := hbf.trans (hb.mono hbf.size)
  clear hb
  repeat (first | (refine seq_take (v := ?_) (by rfl) ?_ ?_; rotate_left; (· intro w hSw; (try dsimp only at hSw); obtain ⟨hL, hN⟩ := hSw; have e0 := hL.cell 0 _ rfl; have e1 := hL.cell 1 _ rfl; have e2 := hL.cell 2 _ rfl; have e3 := hL.cell 3 _ rfl; obtain ⟨g0, g1, g2, g3, g4, g5, g6⟩ := hN.c7; clear hL hN; go_simp; all_goals with_reducible rfl); (try simp only [Act.put, List.setIfInBounds_toArray, List.set_cons_zero, List.set_cons_succ])) | (refine seq_leave (by rfl) ?_; (try simp only [Act.put, List.setIfInBounds_toArray, List.set_cons_zero, List.set_cons_succ])))
  refine seq_step (by rfl) (fun K hK => ?_)
  go_simp
  go_at_call 154
  (with_reducible refine (lvalues_any nm fk fvo fvals.length fvc rk rn rc inv vo vc vals d _ hvs hvl hvm HD).mono ?_)
  rintro e w4 ⟨rfl, hb⟩
  replace hbx := hbx.kept hb
  replace hfa := hfa.kept hb
  replace hvs : Hid (Vals _ vo vals) := Lib.hid (hvs.out.below hb)
  replace hbf := hbf.trans (hb.mono hbf.size)
  clear hb
  first | refine hK.out _ _ ⟨hbx, hfa⟩ (fun _ => ?_) | (go_wp2_with fail; refine hK.out _ _ ⟨hbx, hfa⟩ (fun _ => ?_))
  clear hK K
  (try simp only [Act.put, List.setIfInBounds_toArray, List.set_cons_zero, List.set_cons_succ])
  repeat (first | (refine seq_take (v := ?_) (by rfl) ?_ ?_; rotate_left; (· intro w hSw; (try dsimp only at hSw); obtain ⟨hL, hN⟩ := hSw; have e0 := hL.cell 0 _ rfl; have e1 := hL.cell 1 _ rfl; have e2 := hL.cell 2 _ rfl; have e3 := hL.cell 3 _ rfl; obtain ⟨g0, g1, g2, g3, g4, g5, g6⟩ := hN.c7; clear hL hN; go_simp; all_goals with_reducible rfl); (try simp only [Act.put, List.setIfInBounds_toArray, List.set_cons_zero, List.set_cons_succ])) | (refine seq_leave (by rfl) ?_; (try simp only [Act.put, List.setIfInBounds_toArray, List.set_cons_zero, List.set_cons_succ])))
  refine seq_end ?_
  cases d
  · have HB2 : Hid (b = false) := Lib.hid (by rw [HB3.out]; rfl)
    go_wp2_with fail
    go_ret
    exact ⟨ret_one (congrArg Value.bool HB2.out.symm), hbf⟩
  · have HB2 : Hid (b = manyB op vals.length fk) := Lib.hid (by rw [HB3.out]; rfl)
    have e0 := hbx.cell 0 _ rfl
    have e1 := hbx.cell 1 _ rfl
    have e2 := hbx.cell 2 _ rfl
    have e3 := hbx.cell 3 _ rfl
    by_cases ho9 : op = 9 ∨ op = 10
    · replace HB2 : Hid (b = decide (vals.length = 0)) := Lib.hid (by rw [HB2.out]; unfold manyB; rw [if_pos ho9])
      have hz : ((((vals.length : Nat) : Int) == 0) : Bool) = decide (vals.length = 0) := by by_cases h : vals.length = 0 <;> simp [h]
      rcases ho9 with rfl | rfl
      · go_wp2_with fail
        go_ret
        exact ⟨ret_one (congrArg Value.bool (by rw [HB2.out]; first | exact hz | exact hz.symm | simp)), hbf⟩
      · go_wp2_with fail
        go_ret
        exact ⟨ret_one (congrArg Value.bool (by rw [HB2.out]; first | exact hz | exact hz.symm | simp)), hbf⟩
    · have o9 : (op == 9) = false := by rw [beq_eq_false_iff_ne]; omega
      have o10 : (op == 10) = false := by rw [beq_eq_false_iff_ne]; omega
      by_cases ho11 : op = 11 ∨ op = 12
      · replace HB2 : Hid (b = (decide (1 ≤ vals.length) && decide (vals.length ≤ 100))) := Lib.hid (by rw [HB2.out]; unfold manyB; rw [if_neg ho9, if_pos ho11])
        clear ho9
        by_cases h1 : 1 ≤ vals.length
        · have h1g : (1 : Int) ≤ ((vals.length : Nat) : Int) := by omega
          by_cases h2 : vals.length ≤ 100
          · have h2g : ((vals.length : Nat) : Int) ≤ 100 := by omega
            replace HB2 : Hid (b = true) := Lib.hid (by rw [HB2.out, decide_eq_true h1, decide_eq_true h2]; rfl)
            rcases ho11 with rfl | rfl
            · go_wp2_with fail
              go_ret
              exact ⟨ret_one (congrArg Value.bool HB2.out.symm), hbf⟩
            · go_wp2_with fail
              go_ret
              exact ⟨ret_one (congrArg Value.bool HB2.out.symm), hbf⟩
          · have h2g : ¬ ((vals.length : Nat) : Int) ≤ 100 := by omega
            replace HB2 : Hid (b = false) := Lib.hid (by rw [HB2.out, decide_eq_true h1, decide_eq_false h2]; rfl)
            rcases ho11 with rfl | rfl
            · go_wp2_with fail
              go_ret
              exact ⟨ret_one (congrArg Value.bool HB2.out.symm), hbf⟩
            · go_wp2_with fail
              go_ret
              exact ⟨ret_one (congrArg Value.bool HB2.out.symm), hbf⟩
        · have h1g : ¬ (1 : Int) ≤ ((vals.length : Nat) : Int) := by omega
          replace HB2 : Hid (b = false) := Lib.hid (by rw [HB2.out, decide_eq_false h1]; rfl)
          rcases ho11 with rfl | rfl
          · go_wp2_with fail
            go_ret
            exact ⟨ret_one (congrArg Value.bool HB2.out.symm), hbf⟩
          · go_wp2_with fail
            go_ret
            exact ⟨ret_one (congrArg Value.bool HB2.out.symm), hbf⟩
      · have o11 : (op == 11) = false := by rw [beq_eq_false_iff_ne]; omega
        have o12 : (op == 12) = false := by rw [beq_eq_false_iff_ne]; omega
        by_cases ho5 : op = 5 ∨ op = 6
        · replace HB2 : Hid (b = decide (vals.length = 1)) := Lib.hid (by rw [HB2.out]; unfold manyB; rw [if_neg ho9, if_neg ho11, if_pos ho5])
          clear ho9 ho11
          by_cases hz : vals.length = 1
          · have hzb : (((vals.length : Nat) : Int) == 1) = true := by rw [beq_iff_eq]; omega
            replace HB2 : Hid (b = true) := Lib.hid (by rw [HB2.out, decide_eq_true hz])
            clear hz
            rcases ho5 with rfl | rfl
            · go_wp2_with fail
              go_ret
              exact ⟨ret_one (congrArg Value.bool HB2.out.symm), hbf⟩
            · go_wp2_with fail
              go_ret
              exact ⟨ret_one (congrArg Value.bool HB2.out.symm), hbf⟩
          · have hzb : (((vals.length : Nat) : Int) == 1) = false := by rw [beq_eq_false_iff_ne]; omega
            replace HB2 : Hid (b = false) := Lib.hid (by rw [HB2.out, decide_eq_false hz])
            rcases ho5 with rfl | rfl
            · go_wp2_with fail
              go_ret
              exact ⟨ret_one (congrArg Value.bool HB2.out.symm), hbf⟩
            · go_wp2_with fail
              go_ret
              exact ⟨ret_one (congrArg Value.bool HB2.out.symm), hbf⟩
        · have o5 : (op == 5) = false := by rw [beq_eq_false_iff_ne]; omega
          have o6 : (op == 6) = false := by rw [beq_eq_false_iff_ne]; omega
          replace HB2 : Hid (b = (decide (vals.length = 1) && decide (fk = 1))) := Lib.hid (by rw [HB2.out]; unfold manyB; rw [if_neg ho9, if_neg ho11, if_neg ho5])
          clear ho9 ho11 ho5
          by_cases hz : vals.length = 1
          · have hzb : (((vals.length : Nat) : Int) == 1) = true := by rw [beq_iff_eq]; omega
            obtain ⟨g0, g1, g2, g3, g4, g5, g6⟩ := hfa.c7
            clear g0 g2 g3 g4 g5 g6
            replace HB2 : Hid (b = decide (fk = 1)) := Lib.hid (by rw [HB2.out, decide_eq_true hz]; rfl)
            clear hz
            by_cases hf1 : fk = 1
            · subst hf1
              go_wp2_with fail
              go_ret
              exact ⟨ret_one (congrArg Value.bool HB2.out.symm), hbf⟩
            · have hfb : (fk == 1) = false := by rw [beq_eq_false_iff_ne]; exact hf1
              replace HB2 : Hid (b = false) := Lib.hid (by rw [HB2.out, decide_eq_false hf1])
              go_wp2_with fail
              go_ret
              exact ⟨ret_one (congrArg Value.bool HB2.out.symm), hbf⟩
          · have hzb : (((vals.length : Nat) : Int) == 1) = false := by rw [beq_eq_false_iff_ne]; omega
            replace HB2 : Hid (b = false) := Lib.hid (by rw [HB2.out, decide_eq_false hz]; rfl)
            go_wp2_with fail
            go_ret
            exact ⟨ret_one (congrArg Value.bool HB2.out.symm), hbf⟩
set_option maxRecDepth 100000 in
set_option maxHeartbeats 2000000 in
theorem lasks_h (op fld : Int) (vals : List V3) (kids : List PT) (vo : Option Addr) (vc : Nat) (ko : Option Addr) (kc : Nat) (ao : Option Addr) (cap : Nat) (xs : List FV) (b : Bool) (w : World) (hf : Hid (Flds w ao xs)) (hxl : xs.length ≤ 1000000) (hvs : Hid (Vals w vo vals)) (hvl : Hid (∀ v ∈ vals, v.n.length ≤ 1000000)) (hvm : vals.length ≤ 9223372036854775807) (hkm : kids.length ≤ 9223372036854775807) (HB : Hid (b = asksB (xs.map (·.f)) (.mk op fld vals kids))) :
    Calls Tryz.prog 133 #[.agg #[.int .i64 op, .int .i64 fld, .slice vo vals.length vc, .slice ko kids.length kc], .slice ao xs.length cap] w fun e w' => e = .returned (.bool b) ∧ Below w.heap.size w w' := lasks_any op fld vals kids vo vc ko kc ao cap xs b w hf.out hxl hvs hvl hvm hkm HB
/-- one. -/
theorem lone_any (op fld : Int) (vals : List V3) (kids : List PT) (vo : Option Addr) (vc : Nat) (ko : Option Addr) (kc : Nat) (ao : Option Addr) (cap : Nat) (xs : List FV) (b : Bool) (w : World) (hf : Hid (Flds w ao xs)) (hxl : xs.length ≤ 1000000) (hvs : Hid (Vals w vo vals)) (hvl : Hid (∀ v ∈ vals, v.n.length ≤ 1000000)) (hvm : vals.length ≤ 9223372036854775807) (hkm : kids.length ≤ 9223372036854775807) (HB : Hid (b = oneB (xs.map (·.f)) (.mk op fld vals kids))) :
    Calls Tryz.prog 112 #[.agg #[.int .i64 op, .int .i64 fld, .slice vo vals.length vc, .slice ko kids.length kc], .slice ao xs.length cap] w fun e w' => e = .returned (.bool b) ∧ Below w.heap.size w w' := by
  obtain ⟨w0, hw0, hbf, -, px, hpx, hbx⟩ := boxP w op fld vo vals.length vc ko kids.length kc
  have HW := Lib.hid hw0
  replace hf : Hid (Flds w0 ao xs) := Lib.hid (hf.out.below hbf)
  replace hvs : Hid (Vals w0 vo vals) := Lib.hid (hvs.out.below hbf)
  clear hw0
  go_enter Tryz.func112, Tryz.ntmps112
  go_upto_region 1 with fail
  rw [← HW.out, ← hpx]
  clear hpx HW
  have e0 := hbx.cell 0 _ rfl
  have e1 := hbx.cell 1 _ rfl
  have e2 := hbx.cell 2 _ rfl
  have e3 := hbx.cell 3 _ rfl
  by_cases ho : 3 ≤ op ∧ op ≤ 12
  case pos =>
    have HB2 : Hid (b = asksB (xs.map (·.f)) (.mk op fld vals kids)) := Lib.hid (by rw [HB.out]; exact if_pos ho)
    obtain ⟨h1, h2⟩ := ho
    go_wp2_with fail
    (with_reducible refine (lasks_h op fld vals kids vo vc ko kc ao cap xs b _ hf hxl hvs hvl hvm hkm HB2).mono ?_)
    rintro e w2 ⟨rfl, hb2⟩
    replace hbf := hbf.trans (hb2.mono hbf.size)
    clear e0 e1 e2 e3 hb2
    go_wp2_with fail
    go_ret
    exact ⟨ret_one rfl, hbf⟩
  case neg =>
  have HB2 : Hid (b = if fld ≠ 0 ∨ 0 < vals.length then false else if op = 1 ∨ op = 2 then decide (kids.length = 0) else if 13 ≤ op ∧ op ≤ 16 then decide (2 ≤ kids.length) && decide (kids.length ≤ 50) else false) := Lib.hid (by rw [HB.out]; exact if_neg ho)
  clear HB
  have hg : ¬ (3 : Int) ≤ op ∨ ((3 : Int) ≤ op ∧ ¬ op ≤ 12) := by omega
  rcases hg with hg1 | ⟨hg1, hg2⟩
  · by_cases hfz : fld = 0
    · subst hfz
      by_cases hvz : 0 < vals.length
      · have hvg : (0 : Int) < ((vals.length : Nat) : Int) := by omega
        replace HB2 : Hid (b = false) := Lib.hid (by rw [HB2.out, if_pos (.inr hvz)])
        go_wp2_with fail
        go_ret
        exact ⟨ret_one (congrArg Value.bool HB2.out.symm), hbf⟩
      · have hvg : ¬ (0 : Int) < ((vals.length : Nat) : Int) := by omega
        replace HB2 : Hid (b = if op = 1 ∨ op = 2 then decide (kids.length = 0) else if 13 ≤ op ∧ op ≤ 16 then decide (2 ≤ kids.length) && decide (kids.length ≤ 50) else false) := Lib.hid (by rw [HB2.out, if_neg (by omega)])
        by_cases ho1 : op = 1 ∨ op = 2
        · replace HB2 : Hid (b = decide (kids.length = 0)) := Lib.hid (by rw [HB2.out, if_pos ho1])
          clear ho
          by_cases hz : kids.length = 0
          · have hzb : (((kids.length : Nat) : Int) == 0) = true := by rw [beq_iff_eq]; omega
            replace HB2 : Hid (b = true) := Lib.hid (by rw [HB2.out, decide_eq_true hz])
            clear hz
            rcases ho1 with rfl | rfl
            · go_wp2_with fail
              go_ret
              exact ⟨ret_one (congrArg Value.bool HB2.out.symm), hbf⟩
            · go_wp2_with fail
              go_ret
              exact ⟨ret_one (congrArg Value.bool HB2.out.symm), hbf⟩
          · have hzb : (((kids.length : Nat) : Int) == 0) = false := by rw [beq_eq_false_iff_ne]; omega
            replace HB2 : Hid (b = false) := Lib.hid (by rw [HB2.out, decide_eq_false hz])
            clear hz
            rcases ho1 with rfl | rfl
            · go_wp2_with fail
              go_ret
              exact ⟨ret_one (congrArg Value.bool HB2.out.symm), hbf⟩
            · go_wp2_with fail
              go_ret
              exact ⟨ret_one (congrArg Value.bool HB2.out.symm), hbf⟩
        · have o1 : (op == 1) = false := by rw [beq_eq_false_iff_ne]; omega
          have o2 : (op == 2) = false := by rw [beq_eq_false_iff_ne]; omega
          replace HB2 : Hid (b = false) := Lib.hid (by rw [HB2.out, if_neg ho1, if_neg (by omega)])
          have o13 : ¬ (13 : Int) ≤ op := by omega
          clear ho ho1
          go_wp2_with fail
          go_ret
          exact ⟨ret_one (congrArg Value.bool HB2.out.symm), hbf⟩
    · have hfn : (fld != 0) = true := by rw [bne_iff_ne]; exact hfz
      replace HB2 : Hid (b = false) := Lib.hid (by rw [HB2.out, if_pos (.inl hfz)])
      go_wp2_with fail
      go_ret
      exact ⟨ret_one (congrArg Value.bool HB2.out.symm), hbf⟩
  · by_cases hfz : fld = 0
    · subst hfz
      by_cases hvz : 0 < vals.length
      · have hvg : (0 : Int) < ((vals.length : Nat) : Int) := by omega
        replace HB2 : Hid (b = false) := Lib.hid (by rw [HB2.out, if_pos (.inr hvz)])
        go_wp2_with fail
        go_ret
        exact ⟨ret_one (congrArg Value.bool HB2.out.symm), hbf⟩
      · have hvg : ¬ (0 : Int) < ((vals.length : Nat) : Int) := by omega
        replace HB2 : Hid (b = if op = 1 ∨ op = 2 then decide (kids.length = 0) else if 13 ≤ op ∧ op ≤ 16 then decide (2 ≤ kids.length) && decide (kids.length ≤ 50) else false) := Lib.hid (by rw [HB2.out, if_neg (by omega)])
        have o1 : (op == 1) = false := by rw [beq_eq_false_iff_ne]; omega
        have o2 : (op == 2) = false := by rw [beq_eq_false_iff_ne]; omega
        have o13 : (13 : Int) ≤ op := by omega
        by_cases o16 : op ≤ 16
        · replace HB2 : Hid (b = (decide (2 ≤ kids.length) && decide (kids.length ≤ 50))) := Lib.hid (by rw [HB2.out, if_neg (by omega), if_pos ⟨o13, o16⟩])
          by_cases h1 : 2 ≤ kids.length
          · have h1g : (2 : Int) ≤ ((kids.length : Nat) : Int) := by omega
            by_cases h2 : kids.length ≤ 50
            · have h2g : ((kids.length : Nat) : Int) ≤ 50 := by omega
              replace HB2 : Hid (b = true) := Lib.hid (by rw [HB2.out, decide_eq_true h1, decide_eq_true h2]; rfl)
              go_wp2_with fail
              go_ret
              exact ⟨ret_one (congrArg Value.bool HB2.out.symm), hbf⟩
            · have h2g : ¬ ((kids.length : Nat) : Int) ≤ 50 := by omega
              replace HB2 : Hid (b = false) := Lib.hid (by rw [HB2.out, decide_eq_true h1, decide_eq_false h2]; rfl)
              go_wp2_with fail
              go_ret
              exact ⟨ret_one (congrArg Value.bool HB2.out.symm), hbf⟩
          · have h1g : ¬ (2 : Int) ≤ ((kids.length : Nat) : Int) := by omega
            replace HB2 : Hid (b = false) := Lib.hid (by rw [HB2.out, decide_eq_false h1]; rfl)
            go_wp2_with fail
            go_ret
            exact ⟨ret_one (congrArg Value.bool HB2.out.symm), hbf⟩
        · replace HB2 : Hid (b = false) := Lib.hid (by rw [HB2.out, if_neg (by omega), if_neg (by omega)])
          go_wp2_with fail
          go_ret
          exact ⟨ret_one (congrArg Value.bool HB2.out.symm), hbf⟩
    · have hfn : (fld != 0) = true := by rw [bne_iff_ne]; exact hfz
      replace HB2 : Hid (b = false) := Lib.hid (by rw [HB2.out, if_pos (.inl hfz)])
      go_wp2_with fail
      go_ret
      exact ⟨ret_one (congrArg Value.bool HB2.out.symm), hbf⟩
end Go.Proofs.YtlmjkbdodecbmaaGreatDoor
