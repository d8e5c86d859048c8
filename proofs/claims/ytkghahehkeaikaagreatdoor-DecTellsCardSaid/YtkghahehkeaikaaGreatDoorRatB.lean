import Derived.Test.YtkghahehkeaikaaGreatDoorRatA
namespace Go.Proofs.YtkghahehkeaikaaGreatDoor
open Go.RowKit
set_option linter.unusedVariables false
set_option linter.unusedSimpArgs false
attribute [local go_sem] field_nat
theorem NatIs.setB3 {w : World} {v u : Value} {n b : Nat} {s : Bool} {y z : Value} (h : NatIs w v n) (hb : Box3 w b (.bool s) y z) : NatIs (w.setCell ⟨b, 0, none⟩ u) v n := h.set _ _ (fun n e => by rw [hb.c0] at e; cases e)
theorem den0_neg (q : Rat) : den0 (-q) = den0 q := by
  unfold den0
  have h : -q = 0 ↔ q = 0 := ⟨fun h => by rw [← Rat.neg_neg q, h]; rfl, fun h => by rw [h]; rfl⟩
  rw [(qneg_num q).2]
  by_cases h0 : q = 0
  · rw [if_pos h0, if_pos (h.2 h0)]
  · rw [if_neg h0, if_neg (fun h1 => h0 (h.1 h1))]
theorem qcmp_pp {a b : Rat} (ha : decide (a < 0) = false) (hb : decide (b < 0) = false) : cmpI (a.num.natAbs * b.den) (b.num.natAbs * a.den) = qcmp a b := by
  unfold cmpI qcmp
  simp only [qlt_pp ha hb, qlt_pp hb ha]
theorem qcmp_nn {a b : Rat} (ha : decide (a < 0) = true) (hb : decide (b < 0) = true) : cmpI (b.num.natAbs * a.den) (a.num.natAbs * b.den) = qcmp a b := by
  unfold cmpI qcmp
  simp only [qlt_nn ha hb, qlt_nn hb ha]
theorem qcmp_np {a b : Rat} (ha : decide (a < 0) = true) (hb : decide (b < 0) = false) : qcmp a b = -1 := by
  unfold qcmp
  rw [if_pos (qlt_np ha hb)]
theorem qcmp_pn {a b : Rat} (ha : decide (a < 0) = false) (hb : decide (b < 0) = true) : qcmp a b = 1 := by
  unfold qcmp
  have h := qlt_np hb ha
  rw [if_neg (Rat.not_lt.2 (Std.le_of_lt h)), if_pos h]
theorem qcmp_same (a b : Rat) : (qcmp a b == 0) = decide (a = b) := by
  unfold qcmp
  by_cases h1 : a < b
  · rw [if_pos h1, decide_eq_false (fun h => by subst h; exact Rat.lt_irrefl h1)]; rfl
  · rw [if_neg h1]
    by_cases h2 : b < a
    · rw [if_pos h2, decide_eq_false (fun h => by subst h; exact Rat.lt_irrefl h2)]; rfl
    · rw [if_neg h2, decide_eq_true (Rat.le_antisymm (Rat.not_lt.1 h2) (Rat.not_lt.1 h1))]; rfl
theorem bne_hid {s t : Bool} {a b : Rat} (hs : Hid (s = decide (a < 0))) (ht : Hid (t = decide (b < 0))) : (!(s == t)) = (decide (a < 0) != decide (b < 0)) := by rw [hs.out, ht.out]; rfl
set_option maxRecDepth 100000 in
set_option maxHeartbeats 1000000 in
/-- Cmp. -/
theorem qcmp_any (va vc : Value) (a c : Rat) (i j : Nat) (w : World) (ha : QIs w va a) (hc : QIs w vc c) (hla : QB a i) (hlc : QB c j) (hij : i + j ≤ 90000) :
    Calls Tryz.prog 51 #[va, vc] w fun e w' => e = .returned (.int .i64 (qcmp a c)) ∧ Below w.heap.size w w' := by
  obtain ⟨aB, axO, axL, axC, ayO, ayL, ayC, rfl, hS, hax, hay⟩ := ha.form
  have HaS := Lib.hid hS; clear hS
  obtain ⟨cB, cxO, cxL, cxC, cyO, cyL, cyC, rfl, hS, hcx, hcy⟩ := hc.form
  have HcS := Lib.hid hS; clear hS
  obtain ⟨w0, hw0⟩ : ∃ w0, w0 = ((w.alloc (.cells #[.bool aB, .slice axO axL axC, .slice ayO ayL ayC] 27)).alloc (.cells #[.bool cB, .slice cxO cxL cxC, .slice cyO cyL cyC] 27)) := ⟨_, rfl⟩
  have hbf : Below w.heap.size w w0 := by rw [hw0]; exact (((Below.refl _ w).alloc (Nat.le_refl _) _).alloc (by simp <;> omega) _)
  obtain ⟨pa, hpa⟩ : ∃ p, p = w.heap.size := ⟨_, rfl⟩
  have hba : Box3 w0 pa (Value.bool aB) (Value.slice axO axL axC) (Value.slice ayO ayL ayC) := by rw [hw0, hpa]; exact ⟨by go_simp, by go_simp, by go_simp, by go_simp, by go_simp, by go_simp⟩
  obtain ⟨pc, hpc⟩ : ∃ p, p = w.heap.size + 1 := ⟨_, rfl⟩
  have hbc : Box3 w0 pc (Value.bool cB) (Value.slice cxO cxL cxC) (Value.slice cyO cyL cyC) := by rw [hw0, hpc]; exact ⟨by go_simp, by go_simp, by go_simp, by go_simp, by go_simp, by go_simp⟩
  have HP : Hid (w.heap.size ≤ pa ∧ pa < pc) := Lib.hid (by omega)
  replace ha := ha.below hbf
  replace hc := hc.below hbf
  replace hax := hax.below hbf
  replace hay := hay.below hbf
  replace hcx := hcx.below hbf
  replace hcy := hcy.below hbf
  have HW := Lib.hid hw0; clear hw0
  go_enter Tryz.func51, Tryz.ntmps51
  go_upto_region 1 with fail
  rw [← HW.out, ← hpc, ← hpa]
  clear hpa hpc HW
  have ea0 := hba.c0
  have ea1 := hba.c1
  have ea2 := hba.c2
  have ec0 := hbc.c0
  have ec1 := hbc.c1
  have ec2 := hbc.c2
  go_wp2_with fail
  refine (cross_any _ _ a c i j _ ha hc hla hlc (by omega)).mono ?_
  rintro e w1 ⟨r9, s9, rfl, hx, hy, hb⟩
  clear ea0 ea1 ea2 ec0 ec1 ec2
  replace hba := hba.kept hb
  replace hbc := hbc.kept hb
  replace ha := ha.below hb
  replace hc := hc.below hb
  replace hax := hax.below hb
  replace hay := hay.below hb
  replace hcx := hcx.below hb
  replace hcy := hcy.below hb
  replace hbf := hbf.trans (hb.mono hbf.size)
  clear hb
  obtain ⟨xO, xL, xC, rfl⟩ := hx.form
  obtain ⟨yO, yL, yC, rfl⟩ := hy.form
  obtain ⟨w2, hwE⟩ : ∃ W, W = ((w1.alloc (.cells #[.slice xO xL xC] 25)).alloc (.cells #[.slice yO yL yC] 25)) := ⟨_, rfl⟩
  have hb : Below w1.heap.size w1 w2 := by rw [hwE]; exact (((Below.refl _ w1).alloc (Nat.le_refl _) _).alloc (by simp <;> omega) _)
  obtain ⟨px, hpx⟩ : ∃ p, p = w1.heap.size := ⟨_, rfl⟩
  have hbx : Box w2 px (Value.slice xO xL xC) := by rw [hwE, hpx]; exact ⟨by go_simp, by go_simp, by simp <;> omega⟩
  obtain ⟨py, hpy⟩ : ∃ p, p = w1.heap.size + 1 := ⟨_, rfl⟩
  have hby : Box w2 py (Value.slice yO yL yC) := by rw [hwE, hpy]; exact ⟨by go_simp, by go_simp, by simp <;> omega⟩
  replace HP : Hid (w.heap.size ≤ pa ∧ pa < pc ∧ pc < px ∧ px < py) := Lib.hid (by have h1 := HP.out; have h9 := hbf.size; have h2c := hbc.lt; omega)
  have HW := Lib.hid hwE; clear hwE
  go_upto_region 2 with fail
  rw [← HW.out, ← hpy, ← hpx]
  clear hpx hpy HW
  replace hba := hba.kept hb
  replace hbc := hbc.kept hb
  replace ha := ha.below hb
  replace hc := hc.below hb
  replace hax := hax.below hb
  replace hay := hay.below hb
  replace hcx := hcx.below hb
  replace hcy := hcy.below hb
  replace hx := hx.below hb
  replace hy := hy.below hb
  replace hbf := hbf.trans (hb.mono hbf.size)
  clear hb
  have hl1 := limbs_mul hla.1 hlc.2
  have hl2 := limbs_mul hlc.1 hla.2
  cases aB
  case false =>
    cases cB
    case false =>
      have ea0 := hba.c0
      have ea1 := hba.c1
      have ea2 := hba.c2
      have ec0 := hbc.c0
      have ec1 := hbc.c1
      have ec2 := hbc.c2
      have ex := hbx.cell
      have ey := hby.cell
      go_wp2_with fail
      refine (cmp_any _ _ _ _ _ hx hy).mono ?_
      rintro e w9 ⟨rfl, hb⟩
      go_wp2_with fail
      go_ret
      exact ⟨ret_one (by rw [← qcmp_pp HaS.out.symm HcS.out.symm]; rfl), hbf.trans (hb.mono hbf.size)⟩
    case true =>
      have ea0 := hba.c0
      have ea1 := hba.c1
      have ea2 := hba.c2
      have ec0 := hbc.c0
      have ec1 := hbc.c1
      have ec2 := hbc.c2
      have ex := hbx.cell
      have ey := hby.cell
      go_wp2_with fail
      go_ret
      exact ⟨ret_one (by rw [qcmp_pn HaS.out.symm HcS.out.symm]; rfl), hbf⟩
  case true =>
    cases cB
    case false =>
      have ea0 := hba.c0
      have ea1 := hba.c1
      have ea2 := hba.c2
      have ec0 := hbc.c0
      have ec1 := hbc.c1
      have ec2 := hbc.c2
      have ex := hbx.cell
      have ey := hby.cell
      go_wp2_with fail
      go_ret
      exact ⟨ret_one (by rw [qcmp_np HaS.out.symm HcS.out.symm]; rfl), hbf⟩
    case true =>
      have ea0 := hba.c0
      have ea1 := hba.c1
      have ea2 := hba.c2
      have ec0 := hbc.c0
      have ec1 := hbc.c1
      have ec2 := hbc.c2
      have ex := hbx.cell
      have ey := hby.cell
      go_wp2_with fail
      refine (cmp_any _ _ _ _ _ hy hx).mono ?_
      rintro e w9 ⟨rfl, hb⟩
      go_wp2_with fail
      go_ret
      exact ⟨ret_one (by rw [← qcmp_nn HaS.out.symm HcS.out.symm]; rfl), hbf.trans (hb.mono hbf.size)⟩
set_option maxRecDepth 100000 in
set_option maxHeartbeats 1000000 in
/-- Same. -/
theorem same_q (va vc : Value) (a c : Rat) (i j : Nat) (w : World) (ha : QIs w va a) (hc : QIs w vc c) (hla : QB a i) (hlc : QB c j) (hij : i + j ≤ 90000) :
    Calls Tryz.prog 21 #[va, vc] w fun e w' => e = .returned (.bool (decide (a = c))) ∧ Below w.heap.size w w' := by
  obtain ⟨aB, axO, axL, axC, ayO, ayL, ayC, rfl, hS, hax, hay⟩ := ha.form
  have HaS := Lib.hid hS; clear hS
  obtain ⟨cB, cxO, cxL, cxC, cyO, cyL, cyC, rfl, hS, hcx, hcy⟩ := hc.form
  have HcS := Lib.hid hS; clear hS
  obtain ⟨w0, hw0⟩ : ∃ w0, w0 = ((w.alloc (.cells #[.bool aB, .slice axO axL axC, .slice ayO ayL ayC] 27)).alloc (.cells #[.bool cB, .slice cxO cxL cxC, .slice cyO cyL cyC] 27)) := ⟨_, rfl⟩
  have hbf : Below w.heap.size w w0 := by rw [hw0]; exact (((Below.refl _ w).alloc (Nat.le_refl _) _).alloc (by simp <;> omega) _)
  obtain ⟨pa, hpa⟩ : ∃ p, p = w.heap.size := ⟨_, rfl⟩
  have hba : Box3 w0 pa (Value.bool aB) (Value.slice axO axL axC) (Value.slice ayO ayL ayC) := by rw [hw0, hpa]; exact ⟨by go_simp, by go_simp, by go_simp, by go_simp, by go_simp, by go_simp⟩
  obtain ⟨pc, hpc⟩ : ∃ p, p = w.heap.size + 1 := ⟨_, rfl⟩
  have hbc : Box3 w0 pc (Value.bool cB) (Value.slice cxO cxL cxC) (Value.slice cyO cyL cyC) := by rw [hw0, hpc]; exact ⟨by go_simp, by go_simp, by go_simp, by go_simp, by go_simp, by go_simp⟩
  have HP : Hid (w.heap.size ≤ pa ∧ pa < pc) := Lib.hid (by omega)
  replace ha := ha.below hbf
  replace hc := hc.below hbf
  replace hax := hax.below hbf
  replace hay := hay.below hbf
  replace hcx := hcx.below hbf
  replace hcy := hcy.below hbf
  have HW := Lib.hid hw0; clear hw0
  go_enter Tryz.func21, Tryz.ntmps21
  go_upto_region 1 with fail
  rw [← HW.out, ← hpc, ← hpa]
  clear hpa hpc HW
  have ea0 := hba.c0
  have ea1 := hba.c1
  have ea2 := hba.c2
  have ec0 := hbc.c0
  have ec1 := hbc.c1
  have ec2 := hbc.c2
  go_wp2_with fail
  refine (qcmp_any _ _ a c i j _ ha hc hla hlc (by omega)).mono ?_
  rintro e w1 ⟨rfl, hb⟩
  clear ea0 ea1 ea2 ec0 ec1 ec2
  replace hba := hba.kept hb
  replace hbc := hbc.kept hb
  replace ha := ha.below hb
  replace hc := hc.below hb
  replace hax := hax.below hb
  replace hay := hay.below hb
  replace hcx := hcx.below hb
  replace hcy := hcy.below hb
  replace hbf := hbf.trans (hb.mono hbf.size)
  clear hb
  have hcs := qcmp_same a c
  go_wp2_with fail
  go_ret
  exact ⟨ret_one (by rw [← hcs]; rfl), hbf⟩
set_option maxRecDepth 100000 in
set_option maxHeartbeats 1000000 in
/-- Mul. -/
theorem qmul_any (va vc : Value) (a c : Rat) (i j : Nat) (w : World) (ha : QIs w va a) (hc : QIs w vc c) (hla : QB a i) (hlc : QB c j) (hij : i + j ≤ 90000) :
    Calls Tryz.prog 18 #[va, vc] w (QPost w (a * c)) := by
  obtain ⟨aB, axO, axL, axC, ayO, ayL, ayC, rfl, hS, hax, hay⟩ := ha.form
  have HaS := Lib.hid hS; clear hS
  obtain ⟨cB, cxO, cxL, cxC, cyO, cyL, cyC, rfl, hS, hcx, hcy⟩ := hc.form
  have HcS := Lib.hid hS; clear hS
  obtain ⟨w0, hw0⟩ : ∃ w0, w0 = (((w.alloc (.cells #[.bool aB, .slice axO axL axC, .slice ayO ayL ayC] 27)).alloc (.cells #[.bool cB, .slice cxO cxL cxC, .slice cyO cyL cyC] 27)).alloc (.cells #[.bool false, .slice none 0 0, .slice none 0 0] 27)) := ⟨_, rfl⟩
  have hbf : Below w.heap.size w w0 := by rw [hw0]; exact ((((Below.refl _ w).alloc (Nat.le_refl _) _).alloc (by simp <;> omega) _).alloc (by simp <;> omega) _)
  obtain ⟨pa, hpa⟩ : ∃ p, p = w.heap.size := ⟨_, rfl⟩
  have hba : Box3 w0 pa (Value.bool aB) (Value.slice axO axL axC) (Value.slice ayO ayL ayC) := by rw [hw0, hpa]; exact ⟨by go_simp, by go_simp, by go_simp, by go_simp, by go_simp, by go_simp⟩
  obtain ⟨pc, hpc⟩ : ∃ p, p = w.heap.size + 1 := ⟨_, rfl⟩
  have hbc : Box3 w0 pc (Value.bool cB) (Value.slice cxO cxL cxC) (Value.slice cyO cyL cyC) := by rw [hw0, hpc]; exact ⟨by go_simp, by go_simp, by go_simp, by go_simp, by go_simp, by go_simp⟩
  obtain ⟨pr, hpr⟩ : ∃ p, p = w.heap.size + 1 + 1 := ⟨_, rfl⟩
  have hbr : Box3 w0 pr (Value.bool false) (Value.slice none 0 0) (Value.slice none 0 0) := by rw [hw0, hpr]; exact ⟨by go_simp, by go_simp, by go_simp, by go_simp, by go_simp, by go_simp⟩
  have HP : Hid (w.heap.size ≤ pa ∧ pa < pc ∧ pc < pr) := Lib.hid (by omega)
  replace ha := ha.below hbf
  replace hc := hc.below hbf
  replace hax := hax.below hbf
  replace hay := hay.below hbf
  replace hcx := hcx.below hbf
  replace hcy := hcy.below hbf
  have HW := Lib.hid hw0; clear hw0
  go_enter Tryz.func18, Tryz.ntmps18
  go_upto_region 1 with fail
  rw [← HW.out, ← hpr, ← hpc, ← hpa]
  clear hpa hpc hpr HW
  have hl1 := limbs_mul hla.1 hlc.1
  have hl2 := limbs_mul hla.2 hlc.2
  have hla1 := hla.1
  have hla2 := hla.2
  have hlc1 := hlc.1
  have hlc2 := hlc.2
  have ea0 := hba.c0
  have ea1 := hba.c1
  have ea2 := hba.c2
  have ec0 := hbc.c0
  have ec1 := hbc.c1
  have ec2 := hbc.c2
  go_wp2_with fail
  clear ea0 ea1 ea2 ec0 ec1 ec2
  refine wp_region_seq (S := fun w' => Box3 w' pa (Value.bool aB) (Value.slice axO axL axC) (Value.slice ayO ayL ayC) ∧ Box3 w' pc (Value.bool cB) (Value.slice cxO cxL cxC) (Value.slice cyO cyL cyC)) [(true, 0), (true, 1), (true, 2), (true, 3), (true, 4), (true, 5), (true, 6), (true, 7), (true, 8), (true, 10), (true, 12), (false, 9), (false, 11), (false, 13), (false, 14), (false, 15), (false, 16)] (by kernel_rfl) (by kernel_rfl) (by kernel_rfl) (by kernel_rfl) (by kernel_rfl) (fun d _ _ _ _ h => by cases d <;> exact h) ⟨hba.drew, hbc.drew⟩ (fun _ => ?_)
  simp only [pickOps, List.append_eq, List.cons_append, List.nil_append, List.getElem?_toArray, List.getElem?_cons_succ, List.getElem?_cons_zero]
  have hb : Below w0.heap.size w0 w0.drew := (Below.refl _ _).drew
  generalize w0.drew = w1 at hb ⊢
  replace hba := hba.kept hb
  replace hbc := hbc.kept hb
  replace hbr := hbr.kept hb
  replace ha := ha.below hb
  replace hc := hc.below hb
  replace hax := hax.below hb
  replace hay := hay.below hb
  replace hcx := hcx.below hb
  replace hcy := hcy.below hb
  replace hbf := hbf.trans (hb.mono hbf.size)
  clear hb
  repeat (first | (refine seq_take (v := ?_) (by rfl) ?_ ?_; rotate_left; (· intro w hSw; (try dsimp only at hSw); obtain ⟨⟨ea0, ea1, ea2, _, _, _⟩, ⟨ec0, ec1, ec2, _, _, _⟩⟩ := hSw; go_simp; all_goals with_reducible rfl); (try simp only [Act.put, List.setIfInBounds_toArray, List.set_cons_zero, List.set_cons_succ])) | (refine seq_leave (by rfl) ?_; (try simp only [Act.put, List.setIfInBounds_toArray, List.set_cons_zero, List.set_cons_succ])))
  refine seq_step (by rfl) (fun K hK => ?_)
  go_simp
  go_at_call 29
  (with_reducible refine (mul_any _ _ a.num.natAbs c.num.natAbs _ hax hcx (by omega) (by omega)).mono ?_)
  rintro e w2 ⟨r9, rfl, hu, hb⟩
  obtain ⟨uO, uL, uC, rfl⟩ := hu.form
  replace hba := hba.kept hb
  replace hbc := hbc.kept hb
  replace hbr := hbr.kept hb
  replace ha := ha.below hb
  replace hc := hc.below hb
  replace hax := hax.below hb
  replace hay := hay.below hb
  replace hcx := hcx.below hb
  replace hcy := hcy.below hb
  replace hbf := hbf.trans (hb.mono hbf.size)
  clear hb
  first | refine hK.out _ _ ⟨hba, hbc⟩ (fun _ => ?_) | (go_wp2_with fail; refine hK.out _ _ ⟨hba, hbc⟩ (fun _ => ?_))
  clear hK K
  (try simp only [Act.put, List.setIfInBounds_toArray, List.set_cons_zero, List.set_cons_succ])
  refine seq_step (by rfl) (fun K hK => ?_)
  go_simp
  go_at_call 41
  (with_reducible refine (den_any _ a _ ha).mono ?_)
  rintro e w3 ⟨r9, rfl, hd1, hb⟩
  obtain ⟨bO, bL, bC, rfl⟩ := hd1.form
  replace hba := hba.kept hb
  replace hbc := hbc.kept hb
  replace hbr := hbr.kept hb
  replace ha := ha.below hb
  replace hc := hc.below hb
  replace hax := hax.below hb
  replace hay := hay.below hb
  replace hcx := hcx.below hb
  replace hcy := hcy.below hb
  replace hu := hu.below hb
  replace hbf := hbf.trans (hb.mono hbf.size)
  clear hb
  first | refine hK.out _ _ ⟨hba, hbc⟩ (fun _ => ?_) | (go_wp2_with fail; refine hK.out _ _ ⟨hba, hbc⟩ (fun _ => ?_))
  clear hK K
  (try simp only [Act.put, List.setIfInBounds_toArray, List.set_cons_zero, List.set_cons_succ])
  refine seq_step (by rfl) (fun K hK => ?_)
  go_simp
  go_at_call 41
  (with_reducible refine (den_any _ c _ hc).mono ?_)
  rintro e w4 ⟨r9, rfl, hd2, hb⟩
  obtain ⟨dO, dL, dC, rfl⟩ := hd2.form
  replace hba := hba.kept hb
  replace hbc := hbc.kept hb
  replace hbr := hbr.kept hb
  replace ha := ha.below hb
  replace hc := hc.below hb
  replace hax := hax.below hb
  replace hay := hay.below hb
  replace hcx := hcx.below hb
  replace hcy := hcy.below hb
  replace hu := hu.below hb
  replace hd1 := hd1.below hb
  replace hbf := hbf.trans (hb.mono hbf.size)
  clear hb
  first | refine hK.out _ _ ⟨hba, hbc⟩ (fun _ => ?_) | (go_wp2_with fail; refine hK.out _ _ ⟨hba, hbc⟩ (fun _ => ?_))
  clear hK K
  (try simp only [Act.put, List.setIfInBounds_toArray, List.set_cons_zero, List.set_cons_succ])
  refine seq_step (by rfl) (fun K hK => ?_)
  go_simp
  go_at_call 29
  (with_reducible refine (mul_any _ _ a.den c.den _ hd1 hd2 (by omega) (by omega)).mono ?_)
  rintro e w5 ⟨r9, rfl, hv, hb⟩
  obtain ⟨vO, vL, vC, rfl⟩ := hv.form
  replace hba := hba.kept hb
  replace hbc := hbc.kept hb
  replace hbr := hbr.kept hb
  replace ha := ha.below hb
  replace hc := hc.below hb
  replace hax := hax.below hb
  replace hay := hay.below hb
  replace hcx := hcx.below hb
  replace hcy := hcy.below hb
  replace hu := hu.below hb
  replace hd1 := hd1.below hb
  replace hd2 := hd2.below hb
  replace hbf := hbf.trans (hb.mono hbf.size)
  clear hb
  first | refine hK.out _ _ ⟨hba, hbc⟩ (fun _ => ?_) | (go_wp2_with fail; refine hK.out _ _ ⟨hba, hbc⟩ (fun _ => ?_))
  clear hK K
  (try simp only [Act.put, List.setIfInBounds_toArray, List.set_cons_zero, List.set_cons_succ])
  refine seq_step (by rfl) (fun K hK => ?_)
  go_simp
  go_at_call 49
  (with_reducible refine (lowest_any _ _ _ _ _ _ hu hv (by omega) (by omega) (Nat.mul_pos a.den_pos c.den_pos)).mono ?_)
  rintro e w6 hq9
  obtain ⟨qB, qxO, qxL, qxC, qyO, qyL, qyC, rfl, hS, hqx, hqy, hq, hb⟩ := hq9.out
  have HqS := Lib.hid hS; clear hS
  replace hba := hba.kept hb
  replace hbc := hbc.kept hb
  replace hbr := hbr.kept hb
  replace ha := ha.below hb
  replace hc := hc.below hb
  replace hax := hax.below hb
  replace hay := hay.below hb
  replace hcx := hcx.below hb
  replace hcy := hcy.below hb
  replace hu := hu.below hb
  replace hd1 := hd1.below hb
  replace hd2 := hd2.below hb
  replace hv := hv.below hb
  replace hbf := hbf.trans (hb.mono hbf.size)
  clear hb
  first | refine hK.out _ _ ⟨hba, hbc⟩ (fun _ => ?_) | (go_wp2_with fail; refine hK.out _ _ ⟨hba, hbc⟩ (fun _ => ?_))
  clear hK K
  (try simp only [Act.put, List.setIfInBounds_toArray, List.set_cons_zero, List.set_cons_succ])
  refine seq_step (by rfl) (fun K hK => ?_)
  have er0 := hbr.c0
  have fr0 := hbr.f0
  have er1 := hbr.c1
  have fr1 := hbr.f1
  have er2 := hbr.c2
  have fr2 := hbr.f2
  go_simp
  clear er0 fr0 er1 fr1 er2 fr2
  obtain ⟨w7, hwE⟩ : ∃ W, W = ((w6.setCell ⟨pr, 0, none⟩ (Value.bool qB)).setCell ⟨pr, 1, none⟩ (Value.slice qxO qxL qxC)).setCell ⟨pr, 2, none⟩ (Value.slice qyO qyL qyC) := ⟨_, rfl⟩
  rw [← hwE]
  replace ha := ha.set3 (u0 := (Value.bool qB)) (u1 := (Value.slice qxO qxL qxC)) (u2 := (Value.slice qyO qyL qyC)) hbr; rw [← hwE] at ha
  replace hc := hc.set3 (u0 := (Value.bool qB)) (u1 := (Value.slice qxO qxL qxC)) (u2 := (Value.slice qyO qyL qyC)) hbr; rw [← hwE] at hc
  replace hax := hax.set3 (u0 := (Value.bool qB)) (u1 := (Value.slice qxO qxL qxC)) (u2 := (Value.slice qyO qyL qyC)) hbr; rw [← hwE] at hax
  replace hay := hay.set3 (u0 := (Value.bool qB)) (u1 := (Value.slice qxO qxL qxC)) (u2 := (Value.slice qyO qyL qyC)) hbr; rw [← hwE] at hay
  replace hcx := hcx.set3 (u0 := (Value.bool qB)) (u1 := (Value.slice qxO qxL qxC)) (u2 := (Value.slice qyO qyL qyC)) hbr; rw [← hwE] at hcx
  replace hcy := hcy.set3 (u0 := (Value.bool qB)) (u1 := (Value.slice qxO qxL qxC)) (u2 := (Value.slice qyO qyL qyC)) hbr; rw [← hwE] at hcy
  replace hu := hu.set3 (u0 := (Value.bool qB)) (u1 := (Value.slice qxO qxL qxC)) (u2 := (Value.slice qyO qyL qyC)) hbr; rw [← hwE] at hu
  replace hd1 := hd1.set3 (u0 := (Value.bool qB)) (u1 := (Value.slice qxO qxL qxC)) (u2 := (Value.slice qyO qyL qyC)) hbr; rw [← hwE] at hd1
  replace hd2 := hd2.set3 (u0 := (Value.bool qB)) (u1 := (Value.slice qxO qxL qxC)) (u2 := (Value.slice qyO qyL qyC)) hbr; rw [← hwE] at hd2
  replace hv := hv.set3 (u0 := (Value.bool qB)) (u1 := (Value.slice qxO qxL qxC)) (u2 := (Value.slice qyO qyL qyC)) hbr; rw [← hwE] at hv
  replace hqx := hqx.set3 (u0 := (Value.bool qB)) (u1 := (Value.slice qxO qxL qxC)) (u2 := (Value.slice qyO qyL qyC)) hbr; rw [← hwE] at hqx
  replace hqy := hqy.set3 (u0 := (Value.bool qB)) (u1 := (Value.slice qxO qxL qxC)) (u2 := (Value.slice qyO qyL qyC)) hbr; rw [← hwE] at hqy
  replace hq := hq.set3 (u0 := (Value.bool qB)) (u1 := (Value.slice qxO qxL qxC)) (u2 := (Value.slice qyO qyL qyC)) hbr; rw [← hwE] at hq
  replace hba := hba.set3o (u0 := (Value.bool qB)) (u1 := (Value.slice qxO qxL qxC)) (u2 := (Value.slice qyO qyL qyC)) (show pa ≠ pr by have := HP.out; omega); rw [← hwE] at hba
  replace hbc := hbc.set3o (u0 := (Value.bool qB)) (u1 := (Value.slice qxO qxL qxC)) (u2 := (Value.slice qyO qyL qyC)) (show pc ≠ pr by have := HP.out; omega); rw [← hwE] at hbc
  replace hbf := below_set3 (u0 := (Value.bool qB)) (u1 := (Value.slice qxO qxL qxC)) (u2 := (Value.slice qyO qyL qyC)) hbf (show w.heap.size ≤ pr by have := HP.out; omega); rw [← hwE] at hbf
  replace hbr := hbr.set3 (u0 := (Value.bool qB)) (u1 := (Value.slice qxO qxL qxC)) (u2 := (Value.slice qyO qyL qyC)); rw [← hwE] at hbr; clear hwE
  first | refine hK.out _ _ ⟨hba, hbc⟩ (fun _ => ?_) | (go_wp2_with fail; refine hK.out _ _ ⟨hba, hbc⟩ (fun _ => ?_))
  clear hK K
  (try simp only [Act.put, List.setIfInBounds_toArray, List.set_cons_zero, List.set_cons_succ])
  refine seq_end ?_
  rw [bne_hid HaS HcS, qmul_is] at hq
  go_wp2_with fail
  exact ret_rat rfl rfl hbr rfl ⟨_, rfl, hq, hbf⟩
end Go.Proofs.YtkghahehkeaikaaGreatDoor
