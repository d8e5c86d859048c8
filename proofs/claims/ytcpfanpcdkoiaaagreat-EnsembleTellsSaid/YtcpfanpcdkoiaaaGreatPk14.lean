/-
  Pk14: RatB (what is needed of them).
-/
import Derived.Test.YtcpfanpcdkoiaaaGreatPk13
set_option maxRecDepth 100000
set_option linter.unusedVariables false
set_option linter.unusedSimpArgs false

namespace Go.Proofs.YtcpfanpcdkoiaaaGreat
open Go.RowKit


attribute [local go_sem] field_nat
theorem NatIs.setB3 {w : World} {v u : Value} {n b : Nat} {s : Bool} {y z : Value} (h : NatIs w v n) (hb : Box3 w b (.bool s) y z) : NatIs (w.setCell ⟨b, 0, none⟩ u) v n := h.set _ _ (fun n e => by rw [hb.c0] at e; cases e)
theorem den0_neg (q : Rat) : den0 (-q) = den0 q := by
 unfold den0
 have h : -q = 0 ↔ q = 0 := ⟨fun h => by rw [← Rat.neg_neg q, h]; rfl, fun h => by rw [h]; rfl⟩
 rw [(qneg_num q).2]
 by_cases h0 : q = 0
 ·rw [if_pos h0, if_pos (h.2 h0)]
 ·rw [if_neg h0, if_neg (fun h1 => h0 (h.1 h1))]
set_option maxHeartbeats 1000000 in
theorem minus_any (va : Value) (a : Rat) (w : World) (ha : QIs w va a) :
  Calls Tryz.prog 183 #[va] w (QPost w (-a)) := by
 obtain ⟨aB, axO, axL, axC, ayO, ayL, ayC, rfl, hS, hax, hay⟩ := ha.form
 have HaS := Lib.hid hS; clear hS
 obtain ⟨w0, hw0⟩ : ∃ w0, w0 = ((w.alloc (.cells #[.bool aB, .slice axO axL axC, .slice ayO ayL ayC] 182)).alloc (.cells #[.bool false, .slice none 0 0, .slice none 0 0] 182)) := ⟨_, rfl⟩
 have hbf : Below w.heap.size w w0 := by rw [hw0]; exact (((Below.refl _ w).alloc (Nat.le_refl _) _).alloc (by simp <;> omega) _)
 obtain ⟨pa, hpa⟩ : ∃ p, p = w.heap.size := ⟨_, rfl⟩
 have hba : Box3 w0 pa (Value.bool aB) (Value.slice axO axL axC) (Value.slice ayO ayL ayC) := by rw [hw0, hpa]; exact ⟨by go_simp, by go_simp, by go_simp, by go_simp, by go_simp, by go_simp⟩
 obtain ⟨pr, hpr⟩ : ∃ p, p = w.heap.size + 1 := ⟨_, rfl⟩
 have hbr : Box3 w0 pr (Value.bool false) (Value.slice none 0 0) (Value.slice none 0 0) := by rw [hw0, hpr]; exact ⟨by go_simp, by go_simp, by go_simp, by go_simp, by go_simp, by go_simp⟩
 have HP : Hid (w.heap.size ≤ pa ∧ pa < pr) := Lib.hid (by omega)
 replace ha := ha.below hbf
 replace hax := hax.below hbf
 replace hay := hay.below hbf
 have HW := Lib.hid hw0; clear hw0
 go_enter Tryz.func183, Tryz.ntmps183
 go_upto_region 1 with fail
 rw [← HW.out, ← hpr, ← hpa]
 clear hpa hpr HW
 clear ha
 cases aB
 case true =>
  have ea0 := hba.c0
  have fa0 := hba.f0
  have ea1 := hba.c1
  have fa1 := hba.f1
  have ea2 := hba.c2
  have fa2 := hba.f2
  go_upto_region 2 with fail
  clear ea0 fa0 ea1 fa1 ea2 fa2
  obtain ⟨w9, hwE⟩ : ∃ w3, w3 = w0.setCell ⟨pa, 0, none⟩ (.bool false) := ⟨_, rfl⟩
  rw [← hwE]
  replace hax := hax.setB3 (u := (.bool false)) hba; rw [← hwE] at hax
  replace hay := hay.setB3 (u := (.bool false)) hba; rw [← hwE] at hay
  replace hbr := hbr.setOther (show pr ≠ pa by have := HP.out; omega) 0 (.bool false); rw [← hwE] at hbr
  replace hbf := hbf.setCell (p := ⟨pa, 0, none⟩) (show w.heap.size ≤ pa by have := HP.out; omega) (.bool false); rw [← hwE] at hbf
  replace hba := hba.set0 (.bool false); rw [← hwE] at hba; clear hwE
  have ea0 := hba.c0
  have ea1 := hba.c1
  have ea2 := hba.c2
  have er0 := hbr.c0
  have fr0 := hbr.f0
  have er1 := hbr.c1
  have fr1 := hbr.f1
  have er2 := hbr.c2
  have fr2 := hbr.f2
  go_wp2_with fail
  exact end_q rfl rfl rfl hbr (show w.heap.size ≤ pr by have := HP.out; omega) (QIs.mk (by rw [qneg_sign, ← HaS.out]; rfl) (by rw [(qneg_num a).1]; exact hax) (by rw [den0_neg]; exact hay)) hbf
 case false =>
  have ea0 := hba.c0
  have ea1 := hba.c1
  have ea2 := hba.c2
  go_wp2_with fail
  refine (zero_any _ a.num.natAbs _ hax).mono ?_
  rintro e w1 ⟨rfl, hb⟩
  clear ea0 ea1 ea2
  replace hba := hba.kept hb
  replace hbr := hbr.kept hb
  replace hax := hax.below hb
  replace hay := hay.below hb
  replace hbf := hbf.trans (hb.mono hbf.size)
  clear hb
  obtain ⟨z9, hz9⟩ : ∃ z, z = decide (a.num.natAbs = 0) := ⟨_, rfl⟩
  rw [← hz9]
  have HZ := Lib.hid hz9; clear hz9
  have ea0 := hba.c0
  have fa0 := hba.f0
  have ea1 := hba.c1
  have fa1 := hba.f1
  have ea2 := hba.c2
  have fa2 := hba.f2
  go_upto_region 2 with fail
  clear ea0 fa0 ea1 fa1 ea2 fa2
  obtain ⟨w9, hwE⟩ : ∃ w3, w3 = w1.setCell ⟨pa, 0, none⟩ (.bool (!z9)) := ⟨_, rfl⟩
  rw [← hwE]
  replace hax := hax.setB3 (u := (.bool (!z9))) hba; rw [← hwE] at hax
  replace hay := hay.setB3 (u := (.bool (!z9))) hba; rw [← hwE] at hay
  replace hbr := hbr.setOther (show pr ≠ pa by have := HP.out; omega) 0 (.bool (!z9)); rw [← hwE] at hbr
  replace hbf := hbf.setCell (p := ⟨pa, 0, none⟩) (show w.heap.size ≤ pa by have := HP.out; omega) (.bool (!z9)); rw [← hwE] at hbf
  replace hba := hba.set0 (.bool (!z9)); rw [← hwE] at hba; clear hwE
  have ea0 := hba.c0
  have ea1 := hba.c1
  have ea2 := hba.c2
  have er0 := hbr.c0
  have fr0 := hbr.f0
  have er1 := hbr.c1
  have fr1 := hbr.f1
  have er2 := hbr.c2
  have fr2 := hbr.f2
  go_wp2_with fail
  exact end_q rfl rfl rfl hbr (show w.heap.size ≤ pr by have := HP.out; omega) (QIs.mk (by rw [qneg_sign, ← HaS.out, HZ.out]; rfl) (by rw [(qneg_num a).1]; exact hax) (by rw [den0_neg]; exact hay)) hbf
set_option maxHeartbeats 1000000 in
theorem qadd_any (va vc : Value) (a c : Rat) (i j : Nat) (w : World) (ha : QIs w va a) (hc : QIs w vc c) (hla : QB a i) (hlc : QB c j) (hij : i + j ≤ 90000) :
  Calls Tryz.prog 182 #[va, vc] w (QPost w (a + c)) := by
 obtain ⟨aB, axO, axL, axC, ayO, ayL, ayC, rfl, hS, hax, hay⟩ := ha.form
 have HaS := Lib.hid hS; clear hS
 obtain ⟨cB, cxO, cxL, cxC, cyO, cyL, cyC, rfl, hS, hcx, hcy⟩ := hc.form
 have HcS := Lib.hid hS; clear hS
 obtain ⟨w0, hw0⟩ : ∃ w0, w0 = (((w.alloc (.cells #[.bool aB, .slice axO axL axC, .slice ayO ayL ayC] 182)).alloc (.cells #[.bool cB, .slice cxO cxL cxC, .slice cyO cyL cyC] 182)).alloc (.cells #[.bool false, .slice none 0 0, .slice none 0 0] 182)) := ⟨_, rfl⟩
 have hbf : Below w.heap.size w w0 := by rw [hw0]; exact ((((Below.refl _ w).alloc (Nat.le_refl _) _).alloc (by simp <;> omega) _).alloc (by simp <;> omega) _)
 obtain ⟨pa, hpa⟩ : ∃ p, p = w.heap.size := ⟨_, rfl⟩
 have hba : Box3 w0 pa (Value.bool aB) (Value.slice axO axL axC) (Value.slice ayO ayL ayC) := by rw [hw0, hpa]; exact ⟨by go_simp, by go_simp, by go_simp, by go_simp, by go_simp, by go_simp⟩
 obtain ⟨pc, hpc⟩ : ∃ p, p = w.heap.size + 1 := ⟨_, rfl⟩
 have hbc : Box3 w0 pc (Value.bool cB) (Value.slice cxO cxL cxC) (Value.slice cyO cyL cyC) := by rw [hw0, hpc]; exact ⟨by go_simp, by go_simp, by go_simp, by go_simp, by go_simp, by go_simp⟩
 obtain ⟨pr, hpr⟩ : ∃ p, p = w.heap.size + 1 + 1 := ⟨_, rfl⟩
 have hbr : Box3 w0 pr (Value.bool false) (Value.slice none 0 0) (Value.slice none 0 0) := by rw [hw0, hpr]; exact ⟨by go_simp, by go_simp, by go_simp, by go_simp, by go_simp, by go_simp⟩
 have HP : Hid (w.heap.size ≤ pa ∧ pa < pc ∧ pc < pr) := Lib.hid (by omega)
 replace ha := ha.below hbf
 replace hc := hc.below hbf
 replace hax := hax.below hbf
 replace hay := hay.below hbf
 replace hcx := hcx.below hbf
 replace hcy := hcy.below hbf
 have HW := Lib.hid hw0; clear hw0
 go_enter Tryz.func182, Tryz.ntmps182
 go_upto_region 1 with fail
 rw [← HW.out, ← hpr, ← hpc, ← hpa]
 clear hpa hpc hpr HW
 have ea0 := hba.c0
 have ea1 := hba.c1
 have ea2 := hba.c2
 have ec0 := hbc.c0
 have ec1 := hbc.c1
 have ec2 := hbc.c2
 go_wp2_with fail
 refine (cross_any _ _ a c i j _ ha hc hla hlc (by omega)).mono ?_
 rintro e w1 ⟨r9, s9, rfl, hx, hy, hb⟩
 clear ea0 ea1 ea2 ec0 ec1 ec2
 replace hba := hba.kept hb
 replace hbc := hbc.kept hb
 replace hbr := hbr.kept hb
 replace ha := ha.below hb
 replace hc := hc.below hb
 replace hax := hax.below hb
 replace hay := hay.below hb
 replace hcx := hcx.below hb
 replace hcy := hcy.below hb
 replace hbf := hbf.trans (hb.mono hbf.size)
 clear hb
 obtain ⟨xO, xL, xC, rfl⟩ := hx.form
 obtain ⟨yO, yL, yC, rfl⟩ := hy.form
 obtain ⟨w2, hwE⟩ : ∃ W, W = ((w1.alloc (.cells #[.slice xO xL xC] 180)).alloc (.cells #[.slice yO yL yC] 180)) := ⟨_, rfl⟩
 have hb : Below w1.heap.size w1 w2 := by rw [hwE]; exact (((Below.refl _ w1).alloc (Nat.le_refl _) _).alloc (by simp <;> omega) _)
 obtain ⟨px, hpx⟩ : ∃ p, p = w1.heap.size := ⟨_, rfl⟩
 have hbx : Box w2 px (Value.slice xO xL xC) := by rw [hwE, hpx]; exact ⟨by go_simp, by go_simp, by simp <;> omega⟩
 obtain ⟨py, hpy⟩ : ∃ p, p = w1.heap.size + 1 := ⟨_, rfl⟩
 have hby : Box w2 py (Value.slice yO yL yC) := by rw [hwE, hpy]; exact ⟨by go_simp, by go_simp, by simp <;> omega⟩
 replace HP : Hid (w.heap.size ≤ pa ∧ pa < pc ∧ pc < pr ∧ pr < px ∧ px < py) := Lib.hid (by have h1 := HP.out; have h9 := hbf.size; have h2r := hbr.lt; omega)
 have HW := Lib.hid hwE; clear hwE
 go_upto_region 2 with fail
 rw [← HW.out, ← hpy, ← hpx]
 clear hpx hpy HW
 replace hba := hba.kept hb
 replace hbc := hbc.kept hb
 replace hbr := hbr.kept hb
 replace ha := ha.below hb
 replace hc := hc.below hb
 replace hax := hax.below hb
 replace hay := hay.below hb
 replace hcx := hcx.below hb
 replace hcy := hcy.below hb
 replace hx := hx.below hb
 replace hy := hy.below hb
 replace hbf := hbf.trans (hb.mono hbf.size)
 clear hb
 have hl1 := limbs_mul hla.1 hlc.2
 have hl2 := limbs_mul hlc.1 hla.2
 have hl3 := limbs_mul hla.2 hlc.2
 have hla2 := hla.2
 have hlc2 := hlc.2
 rw [Nat.add_comm j i] at hl2
 have ea0 := hba.c0
 have ea1 := hba.c1
 have ea2 := hba.c2
 have ec0 := hbc.c0
 have ec1 := hbc.c1
 have ec2 := hbc.c2
 skip
 clear ea0 ea1 ea2 ec0 ec1 ec2
 refine wp_region_seqF (S := fun w' => Box3 w' pa (Value.bool aB) (Value.slice axO axL axC) (Value.slice ayO ayL ayC) ∧ Box3 w' pc (Value.bool cB) (Value.slice cxO cxL cxC) (Value.slice cyO cyL cyC)) [⟨5, 7, .cells #[.slice none 0 0] 180⟩] [(true, 0), (true, 2), (false, 1), (false, 3), (false, 4)] [(false, 6)] (by kernel_rfl) (by kernel_rfl) (by kernel_rfl) (by kernel_rfl) (by kernel_rfl) (by kernel_rfl) (by decide) (by decide) (by kernel_rfl) (by rfl) ?_ (fun w8 o8 h8 => ?_) (fun d _ _ _ _ h => by cases d <;> exact h) ⟨hba.drew, hbc.drew⟩ ?_
 ·intro f hf; simp only [List.mem_cons, List.not_mem_nil, or_false] at hf; rcases hf with rfl <;> exact FlOk.alloc rfl rfl rfl (fun f w => by go_simp)
 ·obtain ⟨h0, h1⟩ := h8; exact ⟨Box3.kept h0 ((Below.refl _ _).alloc (Nat.le_refl _) _), Box3.kept h1 ((Below.refl _ _).alloc (Nat.le_refl _) _)⟩
 obtain ⟨B9, hB9⟩ : ∃ B, B = w2.heap.size := ⟨_, rfl⟩
 rw [← hB9]
 simp only [pickOps, List.append_eq, List.cons_append, List.nil_append, List.getElem?_toArray, List.getElem?_cons_succ, List.getElem?_cons_zero]
 have HB9 : Hid (w.heap.size ≤ B9 ∧ py < B9) := Lib.hid (by have h1 := hbf.size; have h2y := hby.lt; rw [hB9]; omega)
 clear hB9
 have hb : Below w2.heap.size w2 w2.drew := (Below.refl _ _).drew
 generalize w2.drew = w3 at hb ⊢
 replace hba := hba.kept hb
 replace hbc := hbc.kept hb
 replace hbr := hbr.kept hb
 replace hbx := hbx.kept hb
 replace hby := hby.kept hb
 replace ha := ha.below hb
 replace hc := hc.below hb
 replace hax := hax.below hb
 replace hay := hay.below hb
 replace hcx := hcx.below hb
 replace hcy := hcy.below hb
 replace hx := hx.below hb
 replace hy := hy.below hb
 replace hbf := hbf.trans (hb.mono hbf.size)
 clear hb
 repeat (refine seqF_take (v := ?_) (fun t => by rfl) ?_ ?_; rotate_left; (· intro a9 h9 w hSw; (try dsimp only at hSw); obtain ⟨x7, rfl⟩ : ∃ x, a9 = Act.put _ (some 7) x := ⟨_, h9.one⟩; clear h9; obtain ⟨⟨ea0, ea1, ea2, _, _, _⟩, ⟨ec0, ec1, ec2, _, _, _⟩⟩ := hSw; (try simp only [Act.put, List.setIfInBounds_toArray, List.set_cons_zero, List.set_cons_succ]); go_simp; all_goals with_reducible rfl); (try simp only [Act.put, List.setIfInBounds_toArray, List.set_cons_zero, List.set_cons_succ]))
 refine seqF_step (fun t => by rfl) (fun a9 w4 h9 hb hS9 K hK => ?_)
 obtain ⟨x7, rfl⟩ : ∃ x, a9 = Act.put _ (some 7) x := ⟨_, h9.one⟩
 clear h9 hS9
 (try simp only [Act.put, List.setIfInBounds_toArray, List.set_cons_zero, List.set_cons_succ] at hK); (try simp only [Act.put, List.setIfInBounds_toArray, List.set_cons_zero, List.set_cons_succ])
 replace hba := hba.kept hb
 replace hbc := hbc.kept hb
 replace hbr := hbr.kept hb
 replace hbx := hbx.kept hb
 replace hby := hby.kept hb
 replace ha := ha.below hb
 replace hc := hc.below hb
 replace hax := hax.below hb
 replace hay := hay.below hb
 replace hcx := hcx.below hb
 replace hcy := hcy.below hb
 replace hx := hx.below hb
 replace hy := hy.below hb
 replace hbf := hbf.trans (hb.mono hbf.size)
 clear hb
 go_simp
 go_at_call 192
 (with_reducible refine (den_any _ a _ ha).mono ?_)
 rintro e w5 ⟨r9, rfl, hd1, hb⟩
 obtain ⟨bO, bL, bC, rfl⟩ := hd1.form
 replace hba := hba.kept hb
 replace hbc := hbc.kept hb
 replace hbr := hbr.kept hb
 replace hbx := hbx.kept hb
 replace hby := hby.kept hb
 replace ha := ha.below hb
 replace hc := hc.below hb
 replace hax := hax.below hb
 replace hay := hay.below hb
 replace hcx := hcx.below hb
 replace hcy := hcy.below hb
 replace hx := hx.below hb
 replace hy := hy.below hb
 replace hbf := hbf.trans (hb.mono hbf.size)
 have hbK := hb; clear hb
 first | refine hK.out _ _ ⟨hba, hbc⟩ hbK ?_ | (go_wp2_with fail; refine hK.out _ _ ⟨hba, hbc⟩ hbK ?_)
 clear hK K hbK
 (try simp only [Act.put, List.setIfInBounds_toArray, List.set_cons_zero, List.set_cons_succ])
 refine seqF_step (fun t => by rfl) (fun a9 w6 h9 hb hS9 K hK => ?_)
 obtain ⟨x7, rfl⟩ : ∃ x, a9 = Act.put _ (some 7) x := ⟨_, h9.one⟩
 clear h9 hS9
 (try simp only [Act.put, List.setIfInBounds_toArray, List.set_cons_zero, List.set_cons_succ] at hK); (try simp only [Act.put, List.setIfInBounds_toArray, List.set_cons_zero, List.set_cons_succ])
 replace hba := hba.kept hb
 replace hbc := hbc.kept hb
 replace hbr := hbr.kept hb
 replace hbx := hbx.kept hb
 replace hby := hby.kept hb
 replace ha := ha.below hb
 replace hc := hc.below hb
 replace hax := hax.below hb
 replace hay := hay.below hb
 replace hcx := hcx.below hb
 replace hcy := hcy.below hb
 replace hx := hx.below hb
 replace hy := hy.below hb
 replace hd1 := hd1.below hb
 replace hbf := hbf.trans (hb.mono hbf.size)
 clear hb
 go_simp
 go_at_call 192
 (with_reducible refine (den_any _ c _ hc).mono ?_)
 rintro e w7 ⟨r9, rfl, hd2, hb⟩
 obtain ⟨dO, dL, dC, rfl⟩ := hd2.form
 replace hba := hba.kept hb
 replace hbc := hbc.kept hb
 replace hbr := hbr.kept hb
 replace hbx := hbx.kept hb
 replace hby := hby.kept hb
 replace ha := ha.below hb
 replace hc := hc.below hb
 replace hax := hax.below hb
 replace hay := hay.below hb
 replace hcx := hcx.below hb
 replace hcy := hcy.below hb
 replace hx := hx.below hb
 replace hy := hy.below hb
 replace hd1 := hd1.below hb
 replace hbf := hbf.trans (hb.mono hbf.size)
 have hbK := hb; clear hb
 first | refine hK.out _ _ ⟨hba, hbc⟩ hbK ?_ | (go_wp2_with fail; refine hK.out _ _ ⟨hba, hbc⟩ hbK ?_)
 clear hK K hbK
 (try simp only [Act.put, List.setIfInBounds_toArray, List.set_cons_zero, List.set_cons_succ])
 refine seqF_step (fun t => by rfl) (fun a9 w8 h9 hb hS9 K hK => ?_)
 obtain ⟨x7, rfl⟩ : ∃ x, a9 = Act.put _ (some 7) x := ⟨_, h9.one⟩
 clear h9 hS9
 (try simp only [Act.put, List.setIfInBounds_toArray, List.set_cons_zero, List.set_cons_succ] at hK); (try simp only [Act.put, List.setIfInBounds_toArray, List.set_cons_zero, List.set_cons_succ])
 replace hba := hba.kept hb
 replace hbc := hbc.kept hb
 replace hbr := hbr.kept hb
 replace hbx := hbx.kept hb
 replace hby := hby.kept hb
 replace ha := ha.below hb
 replace hc := hc.below hb
 replace hax := hax.below hb
 replace hay := hay.below hb
 replace hcx := hcx.below hb
 replace hcy := hcy.below hb
 replace hx := hx.below hb
 replace hy := hy.below hb
 replace hd1 := hd1.below hb
 replace hd2 := hd2.below hb
 replace hbf := hbf.trans (hb.mono hbf.size)
 clear hb
 go_simp
 go_at_call 191
 (with_reducible refine (mul_any _ _ a.den c.den _ hd1 hd2 (by omega) (by omega)).mono ?_)
 rintro e w9 ⟨r9, rfl, hm, hb⟩
 obtain ⟨mO, mL, mC, rfl⟩ := hm.form
 replace hba := hba.kept hb
 replace hbc := hbc.kept hb
 replace hbr := hbr.kept hb
 replace hbx := hbx.kept hb
 replace hby := hby.kept hb
 replace ha := ha.below hb
 replace hc := hc.below hb
 replace hax := hax.below hb
 replace hay := hay.below hb
 replace hcx := hcx.below hb
 replace hcy := hcy.below hb
 replace hx := hx.below hb
 replace hy := hy.below hb
 replace hd1 := hd1.below hb
 replace hd2 := hd2.below hb
 replace hbf := hbf.trans (hb.mono hbf.size)
 have hbK := hb; clear hb
 first | refine hK.out _ _ ⟨hba, hbc⟩ hbK ?_ | (go_wp2_with fail; refine hK.out _ _ ⟨hba, hbc⟩ hbK ?_)
 clear hK K hbK
 (try simp only [Act.put, List.setIfInBounds_toArray, List.set_cons_zero, List.set_cons_succ])
 refine seqF_end (fun a9 w10 h9 hb hS9 hAt hNe => ?_)
 obtain ⟨x7, rfl⟩ : ∃ x, a9 = Act.put _ (some 7) x := ⟨_, h9.one⟩
 clear h9 hS9
 (try simp only [Act.put, List.setIfInBounds_toArray, List.set_cons_zero, List.set_cons_succ])
 (try simp only [Act.put, List.setIfInBounds_toArray, List.set_cons_zero, List.set_cons_succ] at hAt hNe)
 replace hba := hba.kept hb
 replace hbc := hbc.kept hb
 replace hbr := hbr.kept hb
 replace hbx := hbx.kept hb
 replace hby := hby.kept hb
 replace ha := ha.below hb
 replace hc := hc.below hb
 replace hax := hax.below hb
 replace hay := hay.below hb
 replace hcx := hcx.below hb
 replace hcy := hcy.below hb
 replace hx := hx.below hb
 replace hy := hy.below hb
 replace hd1 := hd1.below hb
 replace hd2 := hd2.below hb
 replace hm := hm.below hb
 replace hbf := hbf.trans (hb.mono hbf.size)
 clear hb
 obtain ⟨pg, hxg, hgg, hhg⟩ := (hAt ⟨5, 7, .cells #[.slice none 0 0] 180⟩ (by simp)).slot rfl
 have hbg := box_heap hhg; clear hhg
 replace hxg : x7 = _ := hxg
 clear hAt hNe
 subst hxg
 replace HP : Hid (w.heap.size ≤ pa ∧ pa < pc ∧ pc < pr ∧ pr < px ∧ px < py ∧ py < pg) := Lib.hid (by have h1 := HP.out; have h2 := HB9.out; omega)
 clear HB9 hgg
 simp only [pickOps, List.append_eq, List.cons_append, List.nil_append, List.getElem?_toArray, List.getElem?_cons_succ, List.getElem?_cons_zero]
 refine seq_step (by rfl) (fun K hK => ?_)
 have eg := hbg.cell
 have fg := hbg.free
 go_simp
 clear eg fg
 obtain ⟨w11, hwE⟩ : ∃ W, W = w10.setCell ⟨pg, 0, none⟩ (Value.slice mO mL mC) := ⟨_, rfl⟩
 rw [← hwE]
 replace ha := ha.setS (u := (Value.slice mO mL mC)) hbg; rw [← hwE] at ha
 replace hc := hc.setS (u := (Value.slice mO mL mC)) hbg; rw [← hwE] at hc
 replace hax := hax.setS (u := (Value.slice mO mL mC)) hbg; rw [← hwE] at hax
 replace hay := hay.setS (u := (Value.slice mO mL mC)) hbg; rw [← hwE] at hay
 replace hcx := hcx.setS (u := (Value.slice mO mL mC)) hbg; rw [← hwE] at hcx
 replace hcy := hcy.setS (u := (Value.slice mO mL mC)) hbg; rw [← hwE] at hcy
 replace hx := hx.setS (u := (Value.slice mO mL mC)) hbg; rw [← hwE] at hx
 replace hy := hy.setS (u := (Value.slice mO mL mC)) hbg; rw [← hwE] at hy
 replace hd1 := hd1.setS (u := (Value.slice mO mL mC)) hbg; rw [← hwE] at hd1
 replace hd2 := hd2.setS (u := (Value.slice mO mL mC)) hbg; rw [← hwE] at hd2
 replace hm := hm.setS (u := (Value.slice mO mL mC)) hbg; rw [← hwE] at hm
 replace hba := hba.setOther (show pa ≠ pg by have := HP.out; omega) 0 (Value.slice mO mL mC); rw [← hwE] at hba
 replace hbc := hbc.setOther (show pc ≠ pg by have := HP.out; omega) 0 (Value.slice mO mL mC); rw [← hwE] at hbc
 replace hbr := hbr.setOther (show pr ≠ pg by have := HP.out; omega) 0 (Value.slice mO mL mC); rw [← hwE] at hbr
 replace hbx := hbx.setOther (show px ≠ pg by have := HP.out; omega) 0 (Value.slice mO mL mC); rw [← hwE] at hbx
 replace hby := hby.setOther (show py ≠ pg by have := HP.out; omega) 0 (Value.slice mO mL mC); rw [← hwE] at hby
 replace hbf := hbf.setCell (p := ⟨pg, 0, none⟩) (show w.heap.size ≤ pg by have := HP.out; omega) (Value.slice mO mL mC); rw [← hwE] at hbf
 replace hbg := hbg.set (Value.slice mO mL mC); rw [← hwE] at hbg; clear hwE
 first | refine hK.out _ _ ⟨hba, hbc⟩ (fun _ => ?_) | (go_wp2_with fail; refine hK.out _ _ ⟨hba, hbc⟩ (fun _ => ?_))
 clear hK K
 (try simp only [Act.put, List.setIfInBounds_toArray, List.set_cons_zero, List.set_cons_succ])
 refine seq_end ?_
 have HPD : Hid (0 < a.den * c.den) := Lib.hid (Nat.mul_pos a.den_pos c.den_pos)
 by_cases hs : aB = cB
 case pos =>
  subst hs
  have ea0 := hba.c0
  have ea1 := hba.c1
  have ea2 := hba.c2
  have ec0 := hbc.c0
  have ec1 := hbc.c1
  have ec2 := hbc.c2
  go_upto_region 4 with fail
  clear ea0 ea1 ea2 ec0 ec1 ec2
  refine wp_region_seq (S := fun w' => Box3 w' pa (Value.bool aB) (Value.slice axO axL axC) (Value.slice ayO ayL ayC) ∧ Box w' px (Value.slice xO xL xC) ∧ Box w' py (Value.slice yO yL yC) ∧ Box w' pg (Value.slice mO mL mC)) [(true, 0), (true, 1), (true, 2), (true, 3), (true, 5), (false, 4), (false, 6), (false, 7)] (by kernel_rfl) (by kernel_rfl) (by kernel_rfl) (by kernel_rfl) (by kernel_rfl) (fun d _ _ _ _ h => by cases d <;> exact h) ⟨hba.drew, hbx.drew, hby.drew, hbg.drew⟩ (fun _ => ?_)
  simp only [pickOps, List.append_eq, List.cons_append, List.nil_append, List.getElem?_toArray, List.getElem?_cons_succ, List.getElem?_cons_zero]
  have hb : Below w11.heap.size w11 w11.drew := (Below.refl _ _).drew
  generalize w11.drew = w12 at hb ⊢
  replace hba := hba.kept hb
  replace hbc := hbc.kept hb
  replace hbr := hbr.kept hb
  replace hbx := hbx.kept hb
  replace hby := hby.kept hb
  replace hbg := hbg.kept hb
  replace ha := ha.below hb
  replace hc := hc.below hb
  replace hax := hax.below hb
  replace hay := hay.below hb
  replace hcx := hcx.below hb
  replace hcy := hcy.below hb
  replace hx := hx.below hb
  replace hy := hy.below hb
  replace hd1 := hd1.below hb
  replace hd2 := hd2.below hb
  replace hm := hm.below hb
  replace hbf := hbf.trans (hb.mono hbf.size)
  clear hb
  repeat (first | (refine seq_take (v := ?_) (by rfl) ?_ ?_; rotate_left; (· intro w hSw; (try dsimp only at hSw); obtain ⟨⟨ea0, ea1, ea2, _, _, _⟩, ⟨ex, _, _⟩, ⟨ey, _, _⟩, ⟨eg, _, _⟩⟩ := hSw; go_simp; all_goals with_reducible rfl); (try simp only [Act.put, List.setIfInBounds_toArray, List.set_cons_zero, List.set_cons_succ])) | (refine seq_leave (by rfl) ?_; (try simp only [Act.put, List.setIfInBounds_toArray, List.set_cons_zero, List.set_cons_succ])))
  refine seq_step (by rfl) (fun K hK => ?_)
  go_simp
  go_at_call 194
  (with_reducible refine (add_any _ _ _ _ _ hx hy (by omega) (by omega)).mono ?_)
  rintro e w13 ⟨r9, rfl, hz, hb⟩
  obtain ⟨zO, zL, zC, rfl⟩ := hz.form
  replace hba := hba.kept hb
  replace hbc := hbc.kept hb
  replace hbr := hbr.kept hb
  replace hbx := hbx.kept hb
  replace hby := hby.kept hb
  replace hbg := hbg.kept hb
  replace ha := ha.below hb
  replace hc := hc.below hb
  replace hax := hax.below hb
  replace hay := hay.below hb
  replace hcx := hcx.below hb
  replace hcy := hcy.below hb
  replace hx := hx.below hb
  replace hy := hy.below hb
  replace hd1 := hd1.below hb
  replace hd2 := hd2.below hb
  replace hm := hm.below hb
  replace hbf := hbf.trans (hb.mono hbf.size)
  clear hb
  first | refine hK.out _ _ ⟨hba, hbx, hby, hbg⟩ (fun _ => ?_) | (go_wp2_with fail; refine hK.out _ _ ⟨hba, hbx, hby, hbg⟩ (fun _ => ?_))
  clear hK K
  (try simp only [Act.put, List.setIfInBounds_toArray, List.set_cons_zero, List.set_cons_succ])
  refine seq_step (by rfl) (fun K hK => ?_)
  go_simp
  go_at_call 193
  (with_reducible refine (lowest_any _ _ _ _ _ _ hz hm (by have := limbs_add hl1 hl2; omega) (by omega) HPD.out).mono ?_)
  rintro e w14 hq9
  obtain ⟨qB, qxO, qxL, qxC, qyO, qyL, qyC, rfl, hS, hqx, hqy, hq, hb⟩ := hq9.out
  have HqS := Lib.hid hS; clear hS
  replace hba := hba.kept hb
  replace hbc := hbc.kept hb
  replace hbr := hbr.kept hb
  replace hbx := hbx.kept hb
  replace hby := hby.kept hb
  replace hbg := hbg.kept hb
  replace ha := ha.below hb
  replace hc := hc.below hb
  replace hax := hax.below hb
  replace hay := hay.below hb
  replace hcx := hcx.below hb
  replace hcy := hcy.below hb
  replace hx := hx.below hb
  replace hy := hy.below hb
  replace hd1 := hd1.below hb
  replace hd2 := hd2.below hb
  replace hm := hm.below hb
  replace hz := hz.below hb
  replace hbf := hbf.trans (hb.mono hbf.size)
  clear hb
  first | refine hK.out _ _ ⟨hba, hbx, hby, hbg⟩ (fun _ => ?_) | (go_wp2_with fail; refine hK.out _ _ ⟨hba, hbx, hby, hbg⟩ (fun _ => ?_))
  clear hK K
  (try simp only [Act.put, List.setIfInBounds_toArray, List.set_cons_zero, List.set_cons_succ])
  refine seq_step (by rfl) (fun K hK => ?_)
  have er0 := hbr.c0
  have fr0 := hbr.f0
  have er1 := hbr.c1
  have fr1 := hbr.f1
  have er2 := hbr.c2
  have fr2 := hbr.f2
  go_simp
  clear er0 fr0 er1 fr1 er2 fr2
  obtain ⟨w15, hwE⟩ : ∃ W, W = ((w14.setCell ⟨pr, 0, none⟩ (Value.bool qB)).setCell ⟨pr, 1, none⟩ (Value.slice qxO qxL qxC)).setCell ⟨pr, 2, none⟩ (Value.slice qyO qyL qyC) := ⟨_, rfl⟩
  rw [← hwE]
  replace ha := ha.set3 (u0 := (Value.bool qB)) (u1 := (Value.slice qxO qxL qxC)) (u2 := (Value.slice qyO qyL qyC)) hbr; rw [← hwE] at ha
  replace hc := hc.set3 (u0 := (Value.bool qB)) (u1 := (Value.slice qxO qxL qxC)) (u2 := (Value.slice qyO qyL qyC)) hbr; rw [← hwE] at hc
  replace hax := hax.set3 (u0 := (Value.bool qB)) (u1 := (Value.slice qxO qxL qxC)) (u2 := (Value.slice qyO qyL qyC)) hbr; rw [← hwE] at hax
  replace hay := hay.set3 (u0 := (Value.bool qB)) (u1 := (Value.slice qxO qxL qxC)) (u2 := (Value.slice qyO qyL qyC)) hbr; rw [← hwE] at hay
  replace hcx := hcx.set3 (u0 := (Value.bool qB)) (u1 := (Value.slice qxO qxL qxC)) (u2 := (Value.slice qyO qyL qyC)) hbr; rw [← hwE] at hcx
  replace hcy := hcy.set3 (u0 := (Value.bool qB)) (u1 := (Value.slice qxO qxL qxC)) (u2 := (Value.slice qyO qyL qyC)) hbr; rw [← hwE] at hcy
  replace hx := hx.set3 (u0 := (Value.bool qB)) (u1 := (Value.slice qxO qxL qxC)) (u2 := (Value.slice qyO qyL qyC)) hbr; rw [← hwE] at hx
  replace hy := hy.set3 (u0 := (Value.bool qB)) (u1 := (Value.slice qxO qxL qxC)) (u2 := (Value.slice qyO qyL qyC)) hbr; rw [← hwE] at hy
  replace hd1 := hd1.set3 (u0 := (Value.bool qB)) (u1 := (Value.slice qxO qxL qxC)) (u2 := (Value.slice qyO qyL qyC)) hbr; rw [← hwE] at hd1
  replace hd2 := hd2.set3 (u0 := (Value.bool qB)) (u1 := (Value.slice qxO qxL qxC)) (u2 := (Value.slice qyO qyL qyC)) hbr; rw [← hwE] at hd2
  replace hm := hm.set3 (u0 := (Value.bool qB)) (u1 := (Value.slice qxO qxL qxC)) (u2 := (Value.slice qyO qyL qyC)) hbr; rw [← hwE] at hm
  replace hz := hz.set3 (u0 := (Value.bool qB)) (u1 := (Value.slice qxO qxL qxC)) (u2 := (Value.slice qyO qyL qyC)) hbr; rw [← hwE] at hz
  replace hqx := hqx.set3 (u0 := (Value.bool qB)) (u1 := (Value.slice qxO qxL qxC)) (u2 := (Value.slice qyO qyL qyC)) hbr; rw [← hwE] at hqx
  replace hqy := hqy.set3 (u0 := (Value.bool qB)) (u1 := (Value.slice qxO qxL qxC)) (u2 := (Value.slice qyO qyL qyC)) hbr; rw [← hwE] at hqy
  replace hq := hq.set3 (u0 := (Value.bool qB)) (u1 := (Value.slice qxO qxL qxC)) (u2 := (Value.slice qyO qyL qyC)) hbr; rw [← hwE] at hq
  replace hba := hba.set3o (u0 := (Value.bool qB)) (u1 := (Value.slice qxO qxL qxC)) (u2 := (Value.slice qyO qyL qyC)) (show pa ≠ pr by have := HP.out; omega); rw [← hwE] at hba
  replace hbc := hbc.set3o (u0 := (Value.bool qB)) (u1 := (Value.slice qxO qxL qxC)) (u2 := (Value.slice qyO qyL qyC)) (show pc ≠ pr by have := HP.out; omega); rw [← hwE] at hbc
  replace hbx := hbx.set3 (u0 := (Value.bool qB)) (u1 := (Value.slice qxO qxL qxC)) (u2 := (Value.slice qyO qyL qyC)) (show px ≠ pr by have := HP.out; omega); rw [← hwE] at hbx
  replace hby := hby.set3 (u0 := (Value.bool qB)) (u1 := (Value.slice qxO qxL qxC)) (u2 := (Value.slice qyO qyL qyC)) (show py ≠ pr by have := HP.out; omega); rw [← hwE] at hby
  replace hbg := hbg.set3 (u0 := (Value.bool qB)) (u1 := (Value.slice qxO qxL qxC)) (u2 := (Value.slice qyO qyL qyC)) (show pg ≠ pr by have := HP.out; omega); rw [← hwE] at hbg
  replace hbf := below_set3 (u0 := (Value.bool qB)) (u1 := (Value.slice qxO qxL qxC)) (u2 := (Value.slice qyO qyL qyC)) hbf (show w.heap.size ≤ pr by have := HP.out; omega); rw [← hwE] at hbf
  replace hbr := hbr.set3 (u0 := (Value.bool qB)) (u1 := (Value.slice qxO qxL qxC)) (u2 := (Value.slice qyO qyL qyC)); rw [← hwE] at hbr; clear hwE
  first | refine hK.out _ _ ⟨hba, hbx, hby, hbg⟩ (fun _ => ?_) | (go_wp2_with fail; refine hK.out _ _ ⟨hba, hbx, hby, hbg⟩ (fun _ => ?_))
  clear hK K
  (try simp only [Act.put, List.setIfInBounds_toArray, List.set_cons_zero, List.set_cons_succ])
  refine seq_end ?_
  rw [qadd_same HaS.out.symm HcS.out.symm] at hq
  go_wp2_with fail
  exact ret_rat rfl rfl hbr rfl ⟨_, rfl, hq, hbf⟩
 have hsb : (aB == cB) = false := by cases aB <;> cases cB <;> first | rfl | exact (hs rfl).elim
 have HSN : Hid (decide (a < 0) ≠ decide (c < 0)) := Lib.hid (by rw [← HaS.out, ← HcS.out]; exact hs)
 clear hs
 have ea0 := hba.c0
 have ea1 := hba.c1
 have ea2 := hba.c2
 have ec0 := hbc.c0
 have ec1 := hbc.c1
 have ec2 := hbc.c2
 have ex := hbx.cell
 have ey := hby.cell
 go_wp2_with fail
 refine (sub_any _ _ _ _ _ hx hy (by omega)).mono ?_
 rintro e w12 ⟨r9, rfl, hk, hb⟩
 clear ea0 ea1 ea2 ec0 ec1 ec2 ex ey
 replace hba := hba.kept hb
 replace hbc := hbc.kept hb
 replace hbr := hbr.kept hb
 replace hbx := hbx.kept hb
 replace hby := hby.kept hb
 replace hbg := hbg.kept hb
 replace ha := ha.below hb
 replace hc := hc.below hb
 replace hax := hax.below hb
 replace hay := hay.below hb
 replace hcx := hcx.below hb
 replace hcy := hcy.below hb
 replace hx := hx.below hb
 replace hy := hy.below hb
 replace hd1 := hd1.below hb
 replace hd2 := hd2.below hb
 replace hm := hm.below hb
 replace hbf := hbf.trans (hb.mono hbf.size)
 clear hb
 by_cases hle : c.num.natAbs * a.den ≤ a.num.natAbs * c.den
 case pos =>
  rw [decide_eq_true hle]
  obtain ⟨kO, kL, kC, rfl⟩ := hk.form
  have HLE := Lib.hid hle; clear hle
  obtain ⟨w13, hwE⟩ : ∃ W, W = (w12.alloc (.cells #[.slice kO kL kC] 180)) := ⟨_, rfl⟩
  have hb : Below w12.heap.size w12 w13 := by rw [hwE]; exact ((Below.refl _ w12).alloc (Nat.le_refl _) _)
  obtain ⟨pk, hpk⟩ : ∃ p, p = w12.heap.size := ⟨_, rfl⟩
  have hbk : Box w13 pk (Value.slice kO kL kC) := by rw [hwE, hpk]; exact ⟨by go_simp, by go_simp, by simp <;> omega⟩
  replace HP : Hid (w.heap.size ≤ pa ∧ pa < pc ∧ pc < pr ∧ pr < px ∧ px < py ∧ py < pg ∧ pg < pk) := Lib.hid (by have h1 := HP.out; have h9 := hbf.size; have h2g := hbg.lt; omega)
  have HW := Lib.hid hwE; clear hwE
  go_upto_region 7 with fail
  rw [← HW.out, ← hpk]
  clear hpk HW
  replace hba := hba.kept hb
  replace hbc := hbc.kept hb
  replace hbr := hbr.kept hb
  replace hbx := hbx.kept hb
  replace hby := hby.kept hb
  replace hbg := hbg.kept hb
  replace ha := ha.below hb
  replace hc := hc.below hb
  replace hax := hax.below hb
  replace hay := hay.below hb
  replace hcx := hcx.below hb
  replace hcy := hcy.below hb
  replace hx := hx.below hb
  replace hy := hy.below hb
  replace hd1 := hd1.below hb
  replace hd2 := hd2.below hb
  replace hm := hm.below hb
  replace hk := hk.below hb
  replace hbf := hbf.trans (hb.mono hbf.size)
  clear hb
  have ea0 := hba.c0
  have ea1 := hba.c1
  have ea2 := hba.c2
  have ek := hbk.cell
  have eg := hbg.cell
  go_wp2_with fail
  refine (lowest_any _ _ _ _ _ _ hk hm (Nat.le_trans (limbs_length_mono (Nat.sub_le _ _)) (by omega)) (by omega) HPD.out).mono ?_
  rintro e w14 hq9
  obtain ⟨qB, qxO, qxL, qxC, qyO, qyL, qyC, rfl, hS, hqx, hqy, hq, hb⟩ := hq9.out
  have HqS := Lib.hid hS; clear hS
  clear ea0 ea1 ea2 ek eg
  replace hba := hba.kept hb
  replace hbc := hbc.kept hb
  replace hbr := hbr.kept hb
  replace hbx := hbx.kept hb
  replace hby := hby.kept hb
  replace hbg := hbg.kept hb
  replace hbk := hbk.kept hb
  replace ha := ha.below hb
  replace hc := hc.below hb
  replace hax := hax.below hb
  replace hay := hay.below hb
  replace hcx := hcx.below hb
  replace hcy := hcy.below hb
  replace hx := hx.below hb
  replace hy := hy.below hb
  replace hd1 := hd1.below hb
  replace hd2 := hd2.below hb
  replace hm := hm.below hb
  replace hk := hk.below hb
  replace hbf := hbf.trans (hb.mono hbf.size)
  clear hb
  rw [HaS.out, qadd_more HSN.out HLE.out] at hq
  have er0 := hbr.c0
  have fr0 := hbr.f0
  have er1 := hbr.c1
  have fr1 := hbr.f1
  have er2 := hbr.c2
  have fr2 := hbr.f2
  go_wp2_with fail
  exact end_q rfl rfl rfl hbr (show w.heap.size ≤ pr by have := HP.out; omega) hq hbf
 rw [decide_eq_false hle]
 have HLE : Hid (a.num.natAbs * c.den ≤ c.num.natAbs * a.den) := Lib.hid (by omega)
 clear hle
 obtain ⟨kO, kL, kC, rfl⟩ := hk.form
 obtain ⟨w13, hwE⟩ : ∃ W, W = (w12.alloc (.cells #[.slice kO kL kC] 180)) := ⟨_, rfl⟩
 have hb : Below w12.heap.size w12 w13 := by rw [hwE]; exact ((Below.refl _ w12).alloc (Nat.le_refl _) _)
 obtain ⟨pk, hpk⟩ : ∃ p, p = w12.heap.size := ⟨_, rfl⟩
 have hbk : Box w13 pk (Value.slice kO kL kC) := by rw [hwE, hpk]; exact ⟨by go_simp, by go_simp, by simp <;> omega⟩
 replace HP : Hid (w.heap.size ≤ pa ∧ pa < pc ∧ pc < pr ∧ pr < px ∧ px < py ∧ py < pg ∧ pg < pk) := Lib.hid (by have h1 := HP.out; have h9 := hbf.size; have h2g := hbg.lt; omega)
 have HW := Lib.hid hwE; clear hwE
 go_upto_region 8 with fail
 rw [← HW.out, ← hpk]
 clear hpk HW
 replace hba := hba.kept hb
 replace hbc := hbc.kept hb
 replace hbr := hbr.kept hb
 replace hbx := hbx.kept hb
 replace hby := hby.kept hb
 replace hbg := hbg.kept hb
 replace ha := ha.below hb
 replace hc := hc.below hb
 replace hax := hax.below hb
 replace hay := hay.below hb
 replace hcx := hcx.below hb
 replace hcy := hcy.below hb
 replace hx := hx.below hb
 replace hy := hy.below hb
 replace hd1 := hd1.below hb
 replace hd2 := hd2.below hb
 replace hm := hm.below hb
 replace hk := hk.below hb
 replace hbf := hbf.trans (hb.mono hbf.size)
 clear hb
 have ex := hbx.cell
 have ey := hby.cell
 go_wp2_with fail
 refine (sub_any _ _ _ _ _ hy hx (by omega)).mono ?_
 rintro e w14 ⟨r9, rfl, hv, hb⟩
 clear ex ey
 replace hba := hba.kept hb
 replace hbc := hbc.kept hb
 replace hbr := hbr.kept hb
 replace hbx := hbx.kept hb
 replace hby := hby.kept hb
 replace hbg := hbg.kept hb
 replace hbk := hbk.kept hb
 replace ha := ha.below hb
 replace hc := hc.below hb
 replace hax := hax.below hb
 replace hay := hay.below hb
 replace hcx := hcx.below hb
 replace hcy := hcy.below hb
 replace hx := hx.below hb
 replace hy := hy.below hb
 replace hd1 := hd1.below hb
 replace hd2 := hd2.below hb
 replace hm := hm.below hb
 replace hk := hk.below hb
 replace hbf := hbf.trans (hb.mono hbf.size)
 clear hb
 obtain ⟨vO, vL, vC, rfl⟩ := hv.form
 obtain ⟨w15, hwE⟩ : ∃ W, W = (w14.alloc (.cells #[.slice vO vL vC] 180)) := ⟨_, rfl⟩
 have hb : Below w14.heap.size w14 w15 := by rw [hwE]; exact ((Below.refl _ w14).alloc (Nat.le_refl _) _)
 obtain ⟨pv, hpv⟩ : ∃ p, p = w14.heap.size := ⟨_, rfl⟩
 have hbv : Box w15 pv (Value.slice vO vL vC) := by rw [hwE, hpv]; exact ⟨by go_simp, by go_simp, by simp <;> omega⟩
 replace HP : Hid (w.heap.size ≤ pa ∧ pa < pc ∧ pc < pr ∧ pr < px ∧ px < py ∧ py < pg ∧ pg < pk ∧ pk < pv) := Lib.hid (by have h1 := HP.out; have h9 := hbf.size; have h2k := hbk.lt; omega)
 have HW := Lib.hid hwE; clear hwE
 go_upto_region 9 with fail
 rw [← HW.out, ← hpv]
 clear hpv HW
 replace hba := hba.kept hb
 replace hbc := hbc.kept hb
 replace hbr := hbr.kept hb
 replace hbx := hbx.kept hb
 replace hby := hby.kept hb
 replace hbg := hbg.kept hb
 replace hbk := hbk.kept hb
 replace ha := ha.below hb
 replace hc := hc.below hb
 replace hax := hax.below hb
 replace hay := hay.below hb
 replace hcx := hcx.below hb
 replace hcy := hcy.below hb
 replace hx := hx.below hb
 replace hy := hy.below hb
 replace hd1 := hd1.below hb
 replace hd2 := hd2.below hb
 replace hm := hm.below hb
 replace hk := hk.below hb
 replace hv := hv.below hb
 replace hbf := hbf.trans (hb.mono hbf.size)
 clear hb
 have ec0 := hbc.c0
 have ec1 := hbc.c1
 have ec2 := hbc.c2
 have ev := hbv.cell
 have eg := hbg.cell
 go_wp2_with fail
 refine (lowest_any _ _ _ _ _ _ hv hm (Nat.le_trans (limbs_length_mono (Nat.sub_le _ _)) (by omega)) (by omega) HPD.out).mono ?_
 rintro e w16 hq9
 obtain ⟨qB, qxO, qxL, qxC, qyO, qyL, qyC, rfl, hS, hqx, hqy, hq, hb⟩ := hq9.out
 have HqS := Lib.hid hS; clear hS
 clear ec0 ec1 ec2 ev eg
 replace hba := hba.kept hb
 replace hbc := hbc.kept hb
 replace hbr := hbr.kept hb
 replace hbx := hbx.kept hb
 replace hby := hby.kept hb
 replace hbg := hbg.kept hb
 replace hbk := hbk.kept hb
 replace hbv := hbv.kept hb
 replace ha := ha.below hb
 replace hc := hc.below hb
 replace hax := hax.below hb
 replace hay := hay.below hb
 replace hcx := hcx.below hb
 replace hcy := hcy.below hb
 replace hx := hx.below hb
 replace hy := hy.below hb
 replace hd1 := hd1.below hb
 replace hd2 := hd2.below hb
 replace hm := hm.below hb
 replace hk := hk.below hb
 replace hv := hv.below hb
 replace hbf := hbf.trans (hb.mono hbf.size)
 clear hb
 rw [Nat.mul_comm a.den c.den, HcS.out, qadd_more (Ne.symm HSN.out) HLE.out, Rat.add_comm] at hq
 have er0 := hbr.c0
 have fr0 := hbr.f0
 have er1 := hbr.c1
 have fr1 := hbr.f1
 have er2 := hbr.c2
 have fr2 := hbr.f2
 go_wp2_with fail
 exact end_q rfl rfl rfl hbr (show w.heap.size ≤ pr by have := HP.out; omega) hq hbf
end Go.Proofs.YtcpfanpcdkoiaaaGreat
