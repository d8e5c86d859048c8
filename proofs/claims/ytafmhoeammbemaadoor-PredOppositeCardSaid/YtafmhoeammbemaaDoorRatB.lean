import Derived.Test.YtafmhoeammbemaaDoorRatA
namespace Go.Proofs.YtafmhoeammbemaaDoor
open Go.RowKit
set_option linter.unusedVariables false
set_option linter.unusedSimpArgs false
attribute [local go_sem] field_nat
theorem NatIs.setB3 {w : World} {v u : Value} {n b : Nat} {s : Bool} {y z : Value} (h : NatIs w v n) (hb : Box3 w b (.bool s) y z) : NatIs (w.setCell ⟨b, 0, none⟩ u) v n := h.set _ _ (fun n e => by rw [hb.c0] at e; cases e)
theorem den0_neg (q : Rat) : den0 (-q) = den0 q := by
  unfold den0
  have h : -q = 0 ↔ q = 0 := ⟨fun h => by rw [← Rat.neg_neg q, h]; rfl, fun h => by rw [h]; rfl⟩
  rw [(qneg_num q).2]
  by_cases h0 : q = 0
  · rw [if_pos h0, if_pos (h.2 h0)]
  · rw [if_neg h0, if_neg (fun h1 => h0 (h.1 h1))]
theorem qcmp_pp {a b : Rat} (ha : decide (a < 0) = false) (hb : decide (b < 0) = false) : cmpI (a.num.natAbs * b.den) (b.num.natAbs * a.den) = qcmp a b := by
  unfold cmpI qcmp
  simp only [qlt_pp ha hb, qlt_pp hb ha]
theorem qcmp_nn {a b : Rat} (ha : decide (a < 0) = true) (hb : decide (b < 0) = true) : cmpI (b.num.natAbs * a.den) (a.num.natAbs * b.den) = qcmp a b := by
  unfold cmpI qcmp
  simp only [qlt_nn ha hb, qlt_nn hb ha]
theorem qcmp_np {a b : Rat} (ha : decide (a < 0) = true) (hb : decide (b < 0) = false) : qcmp a b = -1 := by
  unfold qcmp
  rw [if_pos (qlt_np ha hb)]
theorem qcmp_pn {a b : Rat} (ha : decide (a < 0) = false) (hb : decide (b < 0) = true) : qcmp a b = 1 := by
  unfold qcmp
  have h := qlt_np hb ha
  rw [if_neg (Rat.not_lt.2 (Std.le_of_lt h)), if_pos h]
theorem qcmp_same (a b : Rat) : (qcmp a b == 0) = decide (a = b) := by
  unfold qcmp
  by_cases h1 : a < b
  · rw [if_pos h1, decide_eq_false (fun h => by subst h; exact Rat.lt_irrefl h1)]; rfl
  · rw [if_neg h1]
    by_cases h2 : b < a
    · rw [if_pos h2, decide_eq_false (fun h => by subst h; exact Rat.lt_irrefl h2)]; rfl
    · rw [if_neg h2, decide_eq_true (Rat.le_antisymm (Rat.not_lt.1 h2) (Rat.not_lt.1 h1))]; rfl
theorem bne_hid {s t : Bool} {a b : Rat} (hs : Hid (s = decide (a < 0))) (ht : Hid (t = decide (b < 0))) : (!(s == t)) = (decide (a < 0) != decide (b < 0)) := by rw [hs.out, ht.out]; rfl
set_option maxRecDepth 100000 in
set_option maxHeartbeats 1000000 in
/-- Cmp. -/
theorem qcmp_any (va vc : Value) (a c : Rat) (i j : Nat) (w : World) (ha : QIs w va a) (hc : QIs w vc c) (hla : QB a i) (hlc : QB c j) (hij : i + j ≤ 90000) :
    Calls Tryd.prog 25 #[va, vc] w fun e w' => e = .returned (.int .i64 (qcmp a c)) ∧ Below w.heap.size w w' := by
  obtain ⟨aB, axO, axL, axC, ayO, ayL, ayC, rfl, hS, hax, hay⟩ := ha.form
  have HaS := Lib.hid hS; clear hS
  obtain ⟨cB, cxO, cxL, cxC, cyO, cyL, cyC, rfl, hS, hcx, hcy⟩ := hc.form
  have HcS := Lib.hid hS; clear hS
  obtain ⟨w0, hw0⟩ : ∃ w0, w0 = ((w.alloc (.cells #[.bool aB, .slice axO axL axC, .slice ayO ayL ayC] 55)).alloc (.cells #[.bool cB, .slice cxO cxL cxC, .slice cyO cyL cyC] 55)) := ⟨_, rfl⟩
  have hbf : Below w.heap.size w w0 := by rw [hw0]; exact (((Below.refl _ w).alloc (Nat.le_refl _) _).alloc (by simp <;> omega) _)
  obtain ⟨pa, hpa⟩ : ∃ p, p = w.heap.size := ⟨_, rfl⟩
  have hba : Box3 w0 pa (Value.bool aB) (Value.slice axO axL axC) (Value.slice ayO ayL ayC) := by rw [hw0, hpa]; exact ⟨by go_simp, by go_simp, by go_simp, by go_simp, by go_simp, by go_simp⟩
  obtain ⟨pc, hpc⟩ : ∃ p, p = w.heap.size + 1 := ⟨_, rfl⟩
  have hbc : Box3 w0 pc (Value.bool cB) (Value.slice cxO cxL cxC) (Value.slice cyO cyL cyC) := by rw [hw0, hpc]; exact ⟨by go_simp, by go_simp, by go_simp, by go_simp, by go_simp, by go_simp⟩
  have HP : Hid (w.heap.size ≤ pa ∧ pa < pc) := Lib.hid (by omega)
  replace ha := ha.below hbf
  replace hc := hc.below hbf
  replace hax := hax.below hbf
  replace hay := hay.below hbf
  replace hcx := hcx.below hbf
  replace hcy := hcy.below hbf
  have HW := Lib.hid hw0; clear hw0
  go_enter Tryd.func25, Tryd.ntmps25
  go_upto_region 1 with fail
  rw [← HW.out, ← hpc, ← hpa]
  clear hpa hpc HW
  have ea0 := hba.c0
  have ea1 := hba.c1
  have ea2 := hba.c2
  have ec0 := hbc.c0
  have ec1 := hbc.c1
  have ec2 := hbc.c2
  go_wp2_with fail
  refine (cross_any _ _ a c i j _ ha hc hla hlc (by omega)).mono ?_
  rintro e w1 ⟨r9, s9, rfl, hx, hy, hb⟩
  clear ea0 ea1 ea2 ec0 ec1 ec2
  replace hba := hba.kept hb
  replace hbc := hbc.kept hb
  replace ha := ha.below hb
  replace hc := hc.below hb
  replace hax := hax.below hb
  replace hay := hay.below hb
  replace hcx := hcx.below hb
  replace hcy := hcy.below hb
  replace hbf := hbf.trans (hb.mono hbf.size)
  clear hb
  obtain ⟨xO, xL, xC, rfl⟩ := hx.form
  obtain ⟨yO, yL, yC, rfl⟩ := hy.form
  obtain ⟨w2, hwE⟩ : ∃ W, W = ((w1.alloc (.cells #[.slice xO xL xC] 53)).alloc (.cells #[.slice yO yL yC] 53)) := ⟨_, rfl⟩
  have hb : Below w1.heap.size w1 w2 := by rw [hwE]; exact (((Below.refl _ w1).alloc (Nat.le_refl _) _).alloc (by simp <;> omega) _)
  obtain ⟨px, hpx⟩ : ∃ p, p = w1.heap.size := ⟨_, rfl⟩
  have hbx : Box w2 px (Value.slice xO xL xC) := by rw [hwE, hpx]; exact ⟨by go_simp, by go_simp, by simp <;> omega⟩
  obtain ⟨py, hpy⟩ : ∃ p, p = w1.heap.size + 1 := ⟨_, rfl⟩
  have hby : Box w2 py (Value.slice yO yL yC) := by rw [hwE, hpy]; exact ⟨by go_simp, by go_simp, by simp <;> omega⟩
  replace HP : Hid (w.heap.size ≤ pa ∧ pa < pc ∧ pc < px ∧ px < py) := Lib.hid (by have h1 := HP.out; have h9 := hbf.size; have h2c := hbc.lt; omega)
  have HW := Lib.hid hwE; clear hwE
  go_upto_region 2 with fail
  rw [← HW.out, ← hpy, ← hpx]
  clear hpx hpy HW
  replace hba := hba.kept hb
  replace hbc := hbc.kept hb
  replace ha := ha.below hb
  replace hc := hc.below hb
  replace hax := hax.below hb
  replace hay := hay.below hb
  replace hcx := hcx.below hb
  replace hcy := hcy.below hb
  replace hx := hx.below hb
  replace hy := hy.below hb
  replace hbf := hbf.trans (hb.mono hbf.size)
  clear hb
  have hl1 := limbs_mul hla.1 hlc.2
  have hl2 := limbs_mul hlc.1 hla.2
  cases aB
  case false =>
    cases cB
    case false =>
      have ea0 := hba.c0
      have ea1 := hba.c1
      have ea2 := hba.c2
      have ec0 := hbc.c0
      have ec1 := hbc.c1
      have ec2 := hbc.c2
      have ex := hbx.cell
      have ey := hby.cell
      go_wp2_with fail
      refine (cmp_any _ _ _ _ _ hx hy).mono ?_
      rintro e w9 ⟨rfl, hb⟩
      go_wp2_with fail
      go_ret
      exact ⟨ret_one (by rw [← qcmp_pp HaS.out.symm HcS.out.symm]; rfl), hbf.trans (hb.mono hbf.size)⟩
    case true =>
      have ea0 := hba.c0
      have ea1 := hba.c1
      have ea2 := hba.c2
      have ec0 := hbc.c0
      have ec1 := hbc.c1
      have ec2 := hbc.c2
      have ex := hbx.cell
      have ey := hby.cell
      go_wp2_with fail
      go_ret
      exact ⟨ret_one (by rw [qcmp_pn HaS.out.symm HcS.out.symm]; rfl), hbf⟩
  case true =>
    cases cB
    case false =>
      have ea0 := hba.c0
      have ea1 := hba.c1
      have ea2 := hba.c2
      have ec0 := hbc.c0
      have ec1 := hbc.c1
      have ec2 := hbc.c2
      have ex := hbx.cell
      have ey := hby.cell
      go_wp2_with fail
      go_ret
      exact ⟨ret_one (by rw [qcmp_np HaS.out.symm HcS.out.symm]; rfl), hbf⟩
    case true =>
      have ea0 := hba.c0
      have ea1 := hba.c1
      have ea2 := hba.c2
      have ec0 := hbc.c0
      have ec1 := hbc.c1
      have ec2 := hbc.c2
      have ex := hbx.cell
      have ey := hby.cell
      go_wp2_with fail
      refine (cmp_any _ _ _ _ _ hy hx).mono ?_
      rintro e w9 ⟨rfl, hb⟩
      go_wp2_with fail
      go_ret
      exact ⟨ret_one (by rw [← qcmp_nn HaS.out.symm HcS.out.symm]; rfl), hbf.trans (hb.mono hbf.size)⟩
end Go.Proofs.YtafmhoeammbemaaDoor
