/-
  TargetSteps: the walk.
-/
import Derived.Test.YtnajnbgjmgkcoaaDoorTarB
import Derived.Test.YtnajnbgjmgkcoaaDoorOpenG
namespace Go.Proofs.YtnajnbgjmgkcoaaDoor
open Go.RowKit
set_option linter.unusedVariables false
set_option linter.unusedSimpArgs false
attribute [local go_sem] field_nat

set_option maxRecDepth 100000 in
set_option maxHeartbeats 1000000 in
/-- TargetSteps, of long texts. -/
theorem targetSteps_early (mn mx fa co num : List UInt8) (c : Int) (w : World) (hc : decide ((400 : Int) < wrap64 (wrap64 (wrap64 (wrap64 ((mn.length : Int) + (mx.length : Int)) + (fa.length : Int)) + (co.length : Int)) + (num.length : Int))) = true) :
    Calls Tryd.prog 4 #[tgtV mn mx fa co c, .string ⟨num.toArray⟩] w fun e w' => e = .returned (.bool true) ∧ Below w.heap.size w w' := by
  obtain ⟨w0, hw0⟩ : ∃ w0, w0 = (w.alloc (.cells #[.string ⟨mn.toArray⟩, .string ⟨mx.toArray⟩, .string ⟨fa.toArray⟩, .string ⟨co.toArray⟩, .int .i64 c] 25)) := ⟨_, rfl⟩
  have hbf : Below w.heap.size w w0 := by rw [hw0]; exact ((Below.refl _ w).alloc (Nat.le_refl _) _)
  obtain ⟨pg, hpg⟩ : ∃ p, p = w.heap.size := ⟨_, rfl⟩
  have hbg : Box5 w0 pg (Value.string ⟨mn.toArray⟩) (Value.string ⟨mx.toArray⟩) (Value.string ⟨fa.toArray⟩) (Value.string ⟨co.toArray⟩) (Value.int .i64 c) := by rw [hw0, hpg]; exact ⟨by go_simp, by go_simp, by go_simp, by go_simp, by go_simp, by go_simp, by go_simp, by go_simp, by go_simp, by go_simp⟩
  have HP : Hid (w.heap.size ≤ pg) := Lib.hid (by omega)
  have HW := Lib.hid hw0; clear hw0
  go_enter Tryd.func4, Tryd.ntmps4
  go_upto_region 1 with fail
  rw [← HW.out, ← hpg]
  clear hpg HW
  have eg0 := hbg.c0
  have eg1 := hbg.c1
  have eg2 := hbg.c2
  have eg3 := hbg.c3
  have eg4 := hbg.c4
  go_upto_region 2 with fail
  clear eg0 eg1 eg2 eg3 eg4
  go_wp2_with fail
  refine (alive17_any _).mono ?_
  rintro e w1 ⟨rfl, hb⟩
  replace hbg := hbg.kept hb
  replace hbf := hbf.trans (hb.mono hbf.size)
  clear hb
  go_wp2_with fail
  go_ret
  exact ⟨rfl, hbf⟩

set_option maxRecDepth 100000 in
set_option maxHeartbeats 1000000 in
/-- TargetSteps, of no target. -/
theorem targetSteps_bad (mn mx fa co num : List UInt8) (c : Int) (w : World) (hc : decide ((400 : Int) < wrap64 (wrap64 (wrap64 (wrap64 ((mn.length : Int) + (mx.length : Int)) + (fa.length : Int)) + (co.length : Int)) + (num.length : Int))) = false) (h1 : mn.length ≤ maxL) (h2 : mx.length ≤ maxL) (h3 : fa.length ≤ maxL) (h4 : co.length ≤ maxL) (h5 : num.length ≤ maxL) (HB : Hid (tvalid mn mx fa co c = false)) :
    Calls Tryd.prog 4 #[tgtV mn mx fa co c, .string ⟨num.toArray⟩] w fun e w' => e = .returned (.bool true) ∧ Below w.heap.size w w' := by
  obtain ⟨w0, hw0⟩ : ∃ w0, w0 = (w.alloc (.cells #[.string ⟨mn.toArray⟩, .string ⟨mx.toArray⟩, .string ⟨fa.toArray⟩, .string ⟨co.toArray⟩, .int .i64 c] 25)) := ⟨_, rfl⟩
  have hbf : Below w.heap.size w w0 := by rw [hw0]; exact ((Below.refl _ w).alloc (Nat.le_refl _) _)
  obtain ⟨pg, hpg⟩ : ∃ p, p = w.heap.size := ⟨_, rfl⟩
  have hbg : Box5 w0 pg (Value.string ⟨mn.toArray⟩) (Value.string ⟨mx.toArray⟩) (Value.string ⟨fa.toArray⟩) (Value.string ⟨co.toArray⟩) (Value.int .i64 c) := by rw [hw0, hpg]; exact ⟨by go_simp, by go_simp, by go_simp, by go_simp, by go_simp, by go_simp, by go_simp, by go_simp, by go_simp, by go_simp⟩
  have HP : Hid (w.heap.size ≤ pg) := Lib.hid (by omega)
  have HW := Lib.hid hw0; clear hw0
  go_enter Tryd.func4, Tryd.ntmps4
  go_upto_region 1 with fail
  rw [← HW.out, ← hpg]
  clear hpg HW
  have eg0 := hbg.c0
  have eg1 := hbg.c1
  have eg2 := hbg.c2
  have eg3 := hbg.c3
  have eg4 := hbg.c4
  go_wp2_with fail
  refine (alive17_any _).mono ?_
  rintro e w1 ⟨rfl, hb⟩
  clear eg0 eg1 eg2 eg3 eg4
  replace hbg := hbg.kept hb
  replace hbf := hbf.trans (hb.mono hbf.size)
  clear hb
  have eg0 := hbg.c0
  have eg1 := hbg.c1
  have eg2 := hbg.c2
  have eg3 := hbg.c3
  have eg4 := hbg.c4
  go_wp2_with fail
  refine (valid17_b mn mx fa co c false _ HB h1 h2 h3 h4).mono ?_
  rintro e w2 ⟨rfl, hb⟩
  clear eg0 eg1 eg2 eg3 eg4
  replace hbg := hbg.kept hb
  replace hbf := hbf.trans (hb.mono hbf.size)
  clear hb
  go_wp2_with fail
  go_ret
  exact ⟨rfl, hbf⟩

set_option maxRecDepth 100000 in
set_option maxHeartbeats 1000000 in
/-- TargetSteps. -/
theorem targetSteps_good (mn mx fa co num : List UInt8) (c : Int) (ta tb tc td : List UInt8) (w : World) (hc : decide ((400 : Int) < wrap64 (wrap64 (wrap64 (wrap64 ((mn.length : Int) + (mx.length : Int)) + (fa.length : Int)) + (co.length : Int)) + (num.length : Int))) = false) (h1 : mn.length ≤ maxL) (h2 : mx.length ≤ maxL) (h3 : fa.length ≤ maxL) (h4 : co.length ≤ maxL) (h5 : num.length ≤ maxL) (HB : Hid (tvalid mn mx fa co c = true)) (HA : Hid (tapply mn mx [] [] 0 num = ta)) (HB2 : Hid (tapply [] [] fa [] 0 ta = tb)) (HC : Hid (tapply [] [] [] co 0 tb = tc)) (HD : Hid (tapply [] [] [] [] c tc = td)) (HE : Hid (tapply mn mx fa co c num = td)) (HF : Hid (c ≠ 0 → td ≠ [] → Hid (tapply [] [] [] [] c td = td))) (la : ta.length ≤ maxL) (lb : tb.length ≤ maxL) (lc : tc.length ≤ maxL) (ld : td.length ≤ maxL) :
    Calls Tryd.prog 4 #[tgtV mn mx fa co c, .string ⟨num.toArray⟩] w fun e w' => e = .returned (.bool true) ∧ Below w.heap.size w w' := by
  obtain ⟨w0, hw0⟩ : ∃ w0, w0 = (w.alloc (.cells #[.string ⟨mn.toArray⟩, .string ⟨mx.toArray⟩, .string ⟨fa.toArray⟩, .string ⟨co.toArray⟩, .int .i64 c] 25)) := ⟨_, rfl⟩
  have hbf : Below w.heap.size w w0 := by rw [hw0]; exact ((Below.refl _ w).alloc (Nat.le_refl _) _)
  obtain ⟨pg, hpg⟩ : ∃ p, p = w.heap.size := ⟨_, rfl⟩
  have hbg : Box5 w0 pg (Value.string ⟨mn.toArray⟩) (Value.string ⟨mx.toArray⟩) (Value.string ⟨fa.toArray⟩) (Value.string ⟨co.toArray⟩) (Value.int .i64 c) := by rw [hw0, hpg]; exact ⟨by go_simp, by go_simp, by go_simp, by go_simp, by go_simp, by go_simp, by go_simp, by go_simp, by go_simp, by go_simp⟩
  have HP : Hid (w.heap.size ≤ pg) := Lib.hid (by omega)
  have HW := Lib.hid hw0; clear hw0
  go_enter Tryd.func4, Tryd.ntmps4
  go_upto_region 1 with fail
  rw [← HW.out, ← hpg]
  clear hpg HW
  have eg0 := hbg.c0
  have eg1 := hbg.c1
  have eg2 := hbg.c2
  have eg3 := hbg.c3
  have eg4 := hbg.c4
  go_wp2_with fail
  refine (alive17_any _).mono ?_
  rintro e w1 ⟨rfl, hb⟩
  clear eg0 eg1 eg2 eg3 eg4
  replace hbg := hbg.kept hb
  replace hbf := hbf.trans (hb.mono hbf.size)
  clear hb
  have eg0 := hbg.c0
  have eg1 := hbg.c1
  have eg2 := hbg.c2
  have eg3 := hbg.c3
  have eg4 := hbg.c4
  go_wp2_with fail
  refine (valid17_b mn mx fa co c true _ HB h1 h2 h3 h4).mono ?_
  rintro e w2 ⟨rfl, hb⟩
  clear eg0 eg1 eg2 eg3 eg4
  replace hbg := hbg.kept hb
  replace hbf := hbf.trans (hb.mono hbf.size)
  clear hb
  have eg0 := hbg.c0
  have eg1 := hbg.c1
  have eg2 := hbg.c2
  have eg3 := hbg.c3
  have eg4 := hbg.c4
  go_wp2_with fail
  refine (apply_t mn mx [] [] num ta 0 _ HA h1 h2 (by decide) (by decide) h5).mono ?_
  rintro e w3 ⟨rfl, hb⟩
  clear eg0 eg1 eg2 eg3 eg4
  replace hbg := hbg.kept hb
  replace hbf := hbf.trans (hb.mono hbf.size)
  clear hb
  have eg0 := hbg.c0
  have eg1 := hbg.c1
  have eg2 := hbg.c2
  have eg3 := hbg.c3
  have eg4 := hbg.c4
  go_wp2_with fail
  refine (apply_t [] [] fa [] ta tb 0 _ HB2 (by decide) (by decide) h3 (by decide) la).mono ?_
  rintro e w4 ⟨rfl, hb⟩
  clear eg0 eg1 eg2 eg3 eg4
  replace hbg := hbg.kept hb
  replace hbf := hbf.trans (hb.mono hbf.size)
  clear hb
  have eg0 := hbg.c0
  have eg1 := hbg.c1
  have eg2 := hbg.c2
  have eg3 := hbg.c3
  have eg4 := hbg.c4
  go_wp2_with fail
  refine (apply_t [] [] [] co tb tc 0 _ HC (by decide) (by decide) (by decide) h4 lb).mono ?_
  rintro e w5 ⟨rfl, hb⟩
  clear eg0 eg1 eg2 eg3 eg4
  replace hbg := hbg.kept hb
  replace hbf := hbf.trans (hb.mono hbf.size)
  clear hb
  have eg0 := hbg.c0
  have eg1 := hbg.c1
  have eg2 := hbg.c2
  have eg3 := hbg.c3
  have eg4 := hbg.c4
  go_wp2_with fail
  refine (apply_t [] [] [] [] tc td c _ HD (by decide) (by decide) (by decide) (by decide) lc).mono ?_
  rintro e w6 ⟨rfl, hb⟩
  clear eg0 eg1 eg2 eg3 eg4
  replace hbg := hbg.kept hb
  replace hbf := hbf.trans (hb.mono hbf.size)
  clear hb
  have hdd : (td == td) = true := beq_self_eq_true _
  have eg0 := hbg.c0
  have eg1 := hbg.c1
  have eg2 := hbg.c2
  have eg3 := hbg.c3
  have eg4 := hbg.c4
  go_wp2_with fail
  refine (apply_t mn mx fa co num td c _ HE h1 h2 h3 h4 h5).mono ?_
  rintro e w7 ⟨rfl, hb⟩
  clear eg0 eg1 eg2 eg3 eg4
  replace hbg := hbg.kept hb
  replace hbf := hbf.trans (hb.mono hbf.size)
  clear hb
  by_cases h0 : c = 0
  case pos =>
    have hc0 : (c == 0) = true := by rw [beq_iff_eq]; exact h0
    have eg0 := hbg.c0
    have eg1 := hbg.c1
    have eg2 := hbg.c2
    have eg3 := hbg.c3
    have eg4 := hbg.c4
    go_wp2_with fail
    go_ret
    exact ⟨rfl, hbf⟩
  case neg =>
    have hc0 : (c == 0) = false := by rw [beq_eq_false_iff_ne]; exact h0
    by_cases h9 : td = []
    case pos =>
      have hd0 : (td == []) = true := by rw [beq_iff_eq]; exact h9
      have eg0 := hbg.c0
      have eg1 := hbg.c1
      have eg2 := hbg.c2
      have eg3 := hbg.c3
      have eg4 := hbg.c4
      go_wp2_with fail
      go_ret
      exact ⟨rfl, hbf⟩
    case neg =>
      have hd0 : (td == []) = false := nil_beq h9
      have eg0 := hbg.c0
      have eg1 := hbg.c1
      have eg2 := hbg.c2
      have eg3 := hbg.c3
      have eg4 := hbg.c4
      go_wp2_with fail
      refine (apply_t [] [] [] [] td td c _ (HF.out h0 h9) (by decide) (by decide) (by decide) (by decide) ld).mono ?_
      rintro e w8 ⟨rfl, hb⟩
      clear eg0 eg1 eg2 eg3 eg4
      replace hbg := hbg.kept hb
      replace hbf := hbf.trans (hb.mono hbf.size)
      clear hb
      go_wp2_with fail
      go_ret
      exact ⟨rfl, hbf⟩

theorem tok_len {l : List UInt8} (h : tok l = true) : l.length ≤ 2402 := by
  rcases tok_le h with h | h
  · rw [h]; exact Nat.zero_le _
  · exact tis_len h
theorem wrap_small {x : Int} (h : -100000 ≤ x ∧ x ≤ 100000) : wrap64 x = x := by unfold wrap64; omega
theorem sum_small {a b c d e : Nat} (ha : a ≤ 2402) (hb : b ≤ 2402) (hc : c ≤ 2402) (hd : d ≤ 2402) (he : e ≤ 2402) : wrap64 (wrap64 (wrap64 (wrap64 ((a : Int) + (b : Int)) + (c : Int)) + (d : Int)) + (e : Int)) = ((a + b + c + d + e : Nat) : Int) := by
  rw [wrap_small (x := (a : Int) + b) (by omega), wrap_small (x := (a : Int) + b + c) (by omega), wrap_small (x := (a : Int) + b + c + d) (by omega), wrap_small (x := (a : Int) + b + c + d + e) (by omega)]; omega
theorem targetSteps_walk (a0 : Value) (a1 : ByteArray) (w : World) (hg : Tgt a0) (w1 : a1.size ≤ maxLen) :
    Calls Tryd.prog 4 #[a0, .string a1] w fun e w' => e = .returned (.bool true) ∧ Below w.heap.size w w' := by
  obtain ⟨mn, mx, fa, co, c, rfl, h1, h2, h3, h4⟩ := hg
  obtain ⟨num, rfl, e1⟩ := bytes_of a1
  have h5 : num.length ≤ maxL := by unfold maxLen at w1; unfold maxL; simp at w1; omega
  clear w1
  by_cases hc : (400 : Int) < wrap64 (wrap64 (wrap64 (wrap64 ((mn.length : Int) + (mx.length : Int)) + (fa.length : Int)) + (co.length : Int)) + (num.length : Int))
  · exact targetSteps_early mn mx fa co num c w (decide_eq_true hc)
  · cases hv : tvalid mn mx fa co c
    · exact targetSteps_bad mn mx fa co num c w (decide_eq_false hc) h1 h2 h3 h4 h5 (Lib.hid hv)
    · obtain ⟨k1, k2, k3, k4, _, _, _⟩ := tvalid_parts hv
      have j1 := tok_len k1
      have j2 := tok_len k2
      have j3 := tok_len k3
      have j4 := tok_len k4
      by_cases hn : tis num = true
      · have j5 := tis_len hn
        have hl : mn.length + mx.length + fa.length + co.length + num.length ≤ 400 := by rw [sum_small j3 j4 j1 j2 j5] at hc; omega
        obtain ⟨s1, s2⟩ := steps_law (num := num) hl hv
        have bl : ∀ mn mx fa co c num, (tapply mn mx fa co c num).length ≤ maxL := fun mn mx fa co c num => Nat.le_trans (tapply_len mn mx fa co c num) (by unfold maxL; omega)
        exact targetSteps_good mn mx fa co num c _ _ _ _ w (decide_eq_false hc) h1 h2 h3 h4 h5 (Lib.hid hv) (Lib.hid rfl) (Lib.hid rfl) (Lib.hid rfl) (Lib.hid rfl) (Lib.hid s1) (Lib.hid fun g1 g2 => Lib.hid (by
          rw [← s1] at g2 ⊢
          rcases s2 with s2 | s2 | s2
          · exact (g1 s2).elim
          · exact (g2 s2).elim
          · exact s2)) (bl _ _ _ _ _ _) (bl _ _ _ _ _ _) (bl _ _ _ _ _ _) (bl _ _ _ _ _ _)
      · have hn' : tis num = false := by simpa using hn
        exact targetSteps_good mn mx fa co num c [] [] [] [] w (decide_eq_false hc) h1 h2 h3 h4 h5 (Lib.hid hv) (Lib.hid (tapply_no hn')) (Lib.hid (tapply_no tis_nil)) (Lib.hid (tapply_no tis_nil)) (Lib.hid (tapply_no tis_nil)) (Lib.hid (tapply_no hn')) (Lib.hid fun _ g => (g rfl).elim) (Nat.zero_le _) (Nat.zero_le _) (Nat.zero_le _) (Nat.zero_le _)
end Go.Proofs.YtnajnbgjmgkcoaaDoor
