/-
  Pc14: RatC SeqB (what is needed of them).
-/
import Derived.Test.YtieffhkfefimeaaGreatDoorPc07
import Derived.Test.YtieffhkfefimeaaGreatDoorPc13
set_option maxRecDepth 100000
set_option linter.unusedVariables false
set_option linter.unusedSimpArgs false

namespace Go.Proofs.YtieffhkfefimeaaGreatDoor
open Go.RowKit


attribute [local go_sem] field_nat
theorem of_neg (v : Int) (h : v < 0) : qOf true v.natAbs 1 = (v : Rat) := by
 rw [qOf_one]; congr 1; simp [sg]; omega
theorem of_pos (v : Int) (h : 0 ≤ v) : qOf false v.natAbs 1 = (v : Rat) := by
 rw [qOf_one]; congr 1; simp [sg]; omega
theorem of_one (w : World) : Calls Tryz.prog 161 #[.int .u64 1] w fun e w' => ∃ r, e = .returned r ∧ NatIs w' r 1 ∧ Below w.heap.size w w' := of_any 1 w (by decide)
theorem bytes_append (l m : List UInt8) : (⟨l.toArray⟩ ++ ⟨m.toArray⟩ : ByteArray) = ⟨(l ++ m).toArray⟩ := by
 apply ByteArray.ext
 simp
set_option maxHeartbeats 1000000 in
theorem qsub_any (va vc : Value) (a c : Rat) (i j : Nat) (w : World) (ha : QIs w va a) (hc : QIs w vc c) (hla : QB a i) (hlc : QB c j) (hij : i + j ≤ 90000) :
  Calls Tryz.prog 139 #[va, vc] w (QPost w (a - c)) := by
 obtain ⟨aB, axO, axL, axC, ayO, ayL, ayC, rfl, hS, hax, hay⟩ := ha.form
 have HaS := Lib.hid hS; clear hS
 obtain ⟨cB, cxO, cxL, cxC, cyO, cyL, cyC, rfl, hS, hcx, hcy⟩ := hc.form
 have HcS := Lib.hid hS; clear hS
 obtain ⟨w0, hw0⟩ : ∃ w0, w0 = (((w.alloc (.cells #[.bool aB, .slice axO axL axC, .slice ayO ayL ayC] 81)).alloc (.cells #[.bool cB, .slice cxO cxL cxC, .slice cyO cyL cyC] 81)).alloc (.cells #[.bool false, .slice none 0 0, .slice none 0 0] 81)) := ⟨_, rfl⟩
 have hbf : Below w.heap.size w w0 := by rw [hw0]; exact ((((Below.refl _ w).alloc (Nat.le_refl _) _).alloc (by simp <;> omega) _).alloc (by simp <;> omega) _)
 obtain ⟨pa, hpa⟩ : ∃ p, p = w.heap.size := ⟨_, rfl⟩
 have hba : Box3 w0 pa (Value.bool aB) (Value.slice axO axL axC) (Value.slice ayO ayL ayC) := by rw [hw0, hpa]; exact ⟨by go_simp, by go_simp, by go_simp, by go_simp, by go_simp, by go_simp⟩
 obtain ⟨pc, hpc⟩ : ∃ p, p = w.heap.size + 1 := ⟨_, rfl⟩
 have hbc : Box3 w0 pc (Value.bool cB) (Value.slice cxO cxL cxC) (Value.slice cyO cyL cyC) := by rw [hw0, hpc]; exact ⟨by go_simp, by go_simp, by go_simp, by go_simp, by go_simp, by go_simp⟩
 obtain ⟨pr, hpr⟩ : ∃ p, p = w.heap.size + 1 + 1 := ⟨_, rfl⟩
 have hbr : Box3 w0 pr (Value.bool false) (Value.slice none 0 0) (Value.slice none 0 0) := by rw [hw0, hpr]; exact ⟨by go_simp, by go_simp, by go_simp, by go_simp, by go_simp, by go_simp⟩
 have HP : Hid (w.heap.size ≤ pa ∧ pa < pc ∧ pc < pr) := Lib.hid (by omega)
 replace ha := ha.below hbf
 replace hc := hc.below hbf
 replace hax := hax.below hbf
 replace hay := hay.below hbf
 replace hcx := hcx.below hbf
 replace hcy := hcy.below hbf
 have HW := Lib.hid hw0; clear hw0
 go_enter Tryz.func139, Tryz.ntmps139
 go_upto_region 1 with fail
 rw [← HW.out, ← hpr, ← hpc, ← hpa]
 clear hpa hpc hpr HW
 have ea0 := hba.c0
 have ea1 := hba.c1
 have ea2 := hba.c2
 have ec0 := hbc.c0
 have ec1 := hbc.c1
 have ec2 := hbc.c2
 go_wp2_with fail
 clear ea0 ea1 ea2 ec0 ec1 ec2
 refine wp_region_seq (S := fun w' => Box3 w' pa (Value.bool aB) (Value.slice axO axL axC) (Value.slice ayO ayL ayC) ∧ Box3 w' pc (Value.bool cB) (Value.slice cxO cxL cxC) (Value.slice cyO cyL cyC)) [(true, 0), (true, 1), (false, 2), (false, 3), (false, 4)] (by kernel_rfl) (by kernel_rfl) (by kernel_rfl) (by kernel_rfl) (by kernel_rfl) (fun d _ _ _ _ h => by cases d <;> exact h) ⟨hba.drew, hbc.drew⟩ (fun _ => ?_)
 simp only [pickOps, List.append_eq, List.cons_append, List.nil_append, List.getElem?_toArray, List.getElem?_cons_succ, List.getElem?_cons_zero]
 have hb : Below w0.heap.size w0 w0.drew := (Below.refl _ _).drew
 generalize w0.drew = w1 at hb ⊢
 replace hba := hba.kept hb
 replace hbc := hbc.kept hb
 replace hbr := hbr.kept hb
 replace ha := ha.below hb
 replace hc := hc.below hb
 replace hax := hax.below hb
 replace hay := hay.below hb
 replace hcx := hcx.below hb
 replace hcy := hcy.below hb
 replace hbf := hbf.trans (hb.mono hbf.size)
 clear hb
 repeat (first | (refine seq_take (v := ?_) (by rfl) ?_ ?_; rotate_left; (· intro w hSw; (try dsimp only at hSw); obtain ⟨⟨ea0, ea1, ea2, _, _, _⟩, ⟨ec0, ec1, ec2, _, _, _⟩⟩ := hSw; go_simp; all_goals with_reducible rfl); (try simp only [Act.put, List.setIfInBounds_toArray, List.set_cons_zero, List.set_cons_succ])) | (refine seq_leave (by rfl) ?_; (try simp only [Act.put, List.setIfInBounds_toArray, List.set_cons_zero, List.set_cons_succ])))
 refine seq_step (by rfl) (fun K hK => ?_)
 go_simp
 go_at_call 170
 (with_reducible refine (minus_any _ c _ hc).mono ?_)
 rintro e w2 hq9
 obtain ⟨mB, mxO, mxL, mxC, myO, myL, myC, rfl, hS, hmx, hmy, hm, hb⟩ := hq9.out
 have HmS := Lib.hid hS; clear hS
 replace hba := hba.kept hb
 replace hbc := hbc.kept hb
 replace hbr := hbr.kept hb
 replace ha := ha.below hb
 replace hc := hc.below hb
 replace hax := hax.below hb
 replace hay := hay.below hb
 replace hcx := hcx.below hb
 replace hcy := hcy.below hb
 replace hbf := hbf.trans (hb.mono hbf.size)
 clear hb
 first | refine hK.out _ _ ⟨hba, hbc⟩ (fun _ => ?_) | (go_wp2_with fail; refine hK.out _ _ ⟨hba, hbc⟩ (fun _ => ?_))
 clear hK K
 (try simp only [Act.put, List.setIfInBounds_toArray, List.set_cons_zero, List.set_cons_succ])
 refine seq_step (by rfl) (fun K hK => ?_)
 go_simp
 go_at_call 45
 (with_reducible refine (qadd_any _ _ a (-c) i j _ ha hm hla hlc.neg hij).mono ?_)
 rintro e w3 hq9
 obtain ⟨qB, qxO, qxL, qxC, qyO, qyL, qyC, rfl, hS, hqx, hqy, hq, hb⟩ := hq9.out
 have HqS := Lib.hid hS; clear hS
 replace hba := hba.kept hb
 replace hbc := hbc.kept hb
 replace hbr := hbr.kept hb
 replace ha := ha.below hb
 replace hc := hc.below hb
 replace hax := hax.below hb
 replace hay := hay.below hb
 replace hcx := hcx.below hb
 replace hcy := hcy.below hb
 replace hmx := hmx.below hb
 replace hmy := hmy.below hb
 replace hm := hm.below hb
 replace hbf := hbf.trans (hb.mono hbf.size)
 clear hb
 first | refine hK.out _ _ ⟨hba, hbc⟩ (fun _ => ?_) | (go_wp2_with fail; refine hK.out _ _ ⟨hba, hbc⟩ (fun _ => ?_))
 clear hK K
 (try simp only [Act.put, List.setIfInBounds_toArray, List.set_cons_zero, List.set_cons_succ])
 refine seq_step (by rfl) (fun K hK => ?_)
 have er0 := hbr.c0
 have fr0 := hbr.f0
 have er1 := hbr.c1
 have fr1 := hbr.f1
 have er2 := hbr.c2
 have fr2 := hbr.f2
 go_simp
 clear er0 fr0 er1 fr1 er2 fr2
 obtain ⟨w4, hwE⟩ : ∃ W, W = ((w3.setCell ⟨pr, 0, none⟩ (Value.bool qB)).setCell ⟨pr, 1, none⟩ (Value.slice qxO qxL qxC)).setCell ⟨pr, 2, none⟩ (Value.slice qyO qyL qyC) := ⟨_, rfl⟩
 rw [← hwE]
 replace ha := ha.set3 (u0 := (Value.bool qB)) (u1 := (Value.slice qxO qxL qxC)) (u2 := (Value.slice qyO qyL qyC)) hbr; rw [← hwE] at ha
 replace hc := hc.set3 (u0 := (Value.bool qB)) (u1 := (Value.slice qxO qxL qxC)) (u2 := (Value.slice qyO qyL qyC)) hbr; rw [← hwE] at hc
 replace hax := hax.set3 (u0 := (Value.bool qB)) (u1 := (Value.slice qxO qxL qxC)) (u2 := (Value.slice qyO qyL qyC)) hbr; rw [← hwE] at hax
 replace hay := hay.set3 (u0 := (Value.bool qB)) (u1 := (Value.slice qxO qxL qxC)) (u2 := (Value.slice qyO qyL qyC)) hbr; rw [← hwE] at hay
 replace hcx := hcx.set3 (u0 := (Value.bool qB)) (u1 := (Value.slice qxO qxL qxC)) (u2 := (Value.slice qyO qyL qyC)) hbr; rw [← hwE] at hcx
 replace hcy := hcy.set3 (u0 := (Value.bool qB)) (u1 := (Value.slice qxO qxL qxC)) (u2 := (Value.slice qyO qyL qyC)) hbr; rw [← hwE] at hcy
 replace hmx := hmx.set3 (u0 := (Value.bool qB)) (u1 := (Value.slice qxO qxL qxC)) (u2 := (Value.slice qyO qyL qyC)) hbr; rw [← hwE] at hmx
 replace hmy := hmy.set3 (u0 := (Value.bool qB)) (u1 := (Value.slice qxO qxL qxC)) (u2 := (Value.slice qyO qyL qyC)) hbr; rw [← hwE] at hmy
 replace hm := hm.set3 (u0 := (Value.bool qB)) (u1 := (Value.slice qxO qxL qxC)) (u2 := (Value.slice qyO qyL qyC)) hbr; rw [← hwE] at hm
 replace hqx := hqx.set3 (u0 := (Value.bool qB)) (u1 := (Value.slice qxO qxL qxC)) (u2 := (Value.slice qyO qyL qyC)) hbr; rw [← hwE] at hqx
 replace hqy := hqy.set3 (u0 := (Value.bool qB)) (u1 := (Value.slice qxO qxL qxC)) (u2 := (Value.slice qyO qyL qyC)) hbr; rw [← hwE] at hqy
 replace hq := hq.set3 (u0 := (Value.bool qB)) (u1 := (Value.slice qxO qxL qxC)) (u2 := (Value.slice qyO qyL qyC)) hbr; rw [← hwE] at hq
 replace hba := hba.set3o (u0 := (Value.bool qB)) (u1 := (Value.slice qxO qxL qxC)) (u2 := (Value.slice qyO qyL qyC)) (show pa ≠ pr by have := HP.out; omega); rw [← hwE] at hba
 replace hbc := hbc.set3o (u0 := (Value.bool qB)) (u1 := (Value.slice qxO qxL qxC)) (u2 := (Value.slice qyO qyL qyC)) (show pc ≠ pr by have := HP.out; omega); rw [← hwE] at hbc
 replace hbf := below_set3 (u0 := (Value.bool qB)) (u1 := (Value.slice qxO qxL qxC)) (u2 := (Value.slice qyO qyL qyC)) hbf (show w.heap.size ≤ pr by have := HP.out; omega); rw [← hwE] at hbf
 replace hbr := hbr.set3 (u0 := (Value.bool qB)) (u1 := (Value.slice qxO qxL qxC)) (u2 := (Value.slice qyO qyL qyC)); rw [← hwE] at hbr; clear hwE
 first | refine hK.out _ _ ⟨hba, hbc⟩ (fun _ => ?_) | (go_wp2_with fail; refine hK.out _ _ ⟨hba, hbc⟩ (fun _ => ?_))
 clear hK K
 (try simp only [Act.put, List.setIfInBounds_toArray, List.set_cons_zero, List.set_cons_succ])
 refine seq_end ?_
 rw [← qsub_is] at hq
 go_wp2_with fail
 exact ret_rat rfl rfl hbr rfl ⟨_, rfl, hq, hbf⟩
set_option maxHeartbeats 1000000 in
theorem qdiv_main (va vc : Value) (a c : Rat) (i j : Nat) (w : World) (q9 : Rat) (c9 : Int) (hq0 : Hid (c = 0 → q9 = 0 ∧ c9 = 4)) (hq1 : Hid (c ≠ 0 → q9 = a / c ∧ c9 = 0)) (ha : QIs w va a) (hc : QIs w vc c) (hla : QB a i) (hlc : QB c j) (hij : i + j ≤ 90000) :
  Calls Tryz.prog 114 #[va, vc] w (QPostC w q9 c9) := by
 obtain ⟨aB, axO, axL, axC, ayO, ayL, ayC, rfl, hS, hax, hay⟩ := ha.form
 have HaS := Lib.hid hS; clear hS
 obtain ⟨cB, cxO, cxL, cxC, cyO, cyL, cyC, rfl, hS, hcx, hcy⟩ := hc.form
 have HcS := Lib.hid hS; clear hS
 obtain ⟨w0, hw0⟩ : ∃ w0, w0 = (((w.alloc (.cells #[.bool aB, .slice axO axL axC, .slice ayO ayL ayC] 81)).alloc (.cells #[.bool cB, .slice cxO cxL cxC, .slice cyO cyL cyC] 81)).alloc (.cells #[.bool false, .slice none 0 0, .slice none 0 0] 81)) := ⟨_, rfl⟩
 have hbf : Below w.heap.size w w0 := by rw [hw0]; exact ((((Below.refl _ w).alloc (Nat.le_refl _) _).alloc (by simp <;> omega) _).alloc (by simp <;> omega) _)
 obtain ⟨pa, hpa⟩ : ∃ p, p = w.heap.size := ⟨_, rfl⟩
 have hba : Box3 w0 pa (Value.bool aB) (Value.slice axO axL axC) (Value.slice ayO ayL ayC) := by rw [hw0, hpa]; exact ⟨by go_simp, by go_simp, by go_simp, by go_simp, by go_simp, by go_simp⟩
 obtain ⟨pc, hpc⟩ : ∃ p, p = w.heap.size + 1 := ⟨_, rfl⟩
 have hbc : Box3 w0 pc (Value.bool cB) (Value.slice cxO cxL cxC) (Value.slice cyO cyL cyC) := by rw [hw0, hpc]; exact ⟨by go_simp, by go_simp, by go_simp, by go_simp, by go_simp, by go_simp⟩
 obtain ⟨pr, hpr⟩ : ∃ p, p = w.heap.size + 1 + 1 := ⟨_, rfl⟩
 have hbr : Box3 w0 pr (Value.bool false) (Value.slice none 0 0) (Value.slice none 0 0) := by rw [hw0, hpr]; exact ⟨by go_simp, by go_simp, by go_simp, by go_simp, by go_simp, by go_simp⟩
 have HP : Hid (w.heap.size ≤ pa ∧ pa < pc ∧ pc < pr) := Lib.hid (by omega)
 replace ha := ha.below hbf
 replace hc := hc.below hbf
 replace hax := hax.below hbf
 replace hay := hay.below hbf
 replace hcx := hcx.below hbf
 replace hcy := hcy.below hbf
 have HW := Lib.hid hw0; clear hw0
 go_enter Tryz.func114, Tryz.ntmps114
 go_upto_region 1 with fail
 rw [← HW.out, ← hpr, ← hpc, ← hpa]
 clear hpa hpc hpr HW
 have ec0 := hbc.c0
 have ec1 := hbc.c1
 have ec2 := hbc.c2
 go_wp2_with fail
 refine (zero_any _ c.num.natAbs _ hcx).mono ?_
 rintro e w1 ⟨rfl, hb⟩
 clear ec0 ec1 ec2
 replace hba := hba.kept hb
 replace hbc := hbc.kept hb
 replace hbr := hbr.kept hb
 replace ha := ha.below hb
 replace hc := hc.below hb
 replace hax := hax.below hb
 replace hay := hay.below hb
 replace hcx := hcx.below hb
 replace hcy := hcy.below hb
 replace hbf := hbf.trans (hb.mono hbf.size)
 clear hb
 by_cases h0 : c.num.natAbs = 0
 case pos =>
  rw [decide_eq_true h0]
  obtain ⟨rfl, rfl⟩ := hq0.out (q_num_zero.1 h0)
  have er0 := hbr.c0
  have fr0 := hbr.f0
  have er1 := hbr.c1
  have fr1 := hbr.f1
  have er2 := hbr.c2
  have fr2 := hbr.f2
  go_wp2_with fail
  exact end_qc rfl rfl rfl rfl hbr (show w.heap.size ≤ pr by have := HP.out; omega) (QIs.zero _) hbf
 rw [decide_eq_false h0]
 have HC : Hid (c ≠ 0) := Lib.hid (fun h => h0 (q_num_zero.2 h))
 obtain ⟨rfl, rfl⟩ := hq1.out HC.out
 have HD : Hid (0 < a.den * c.num.natAbs) := Lib.hid (Nat.mul_pos a.den_pos (q_num_pos HC.out))
 clear h0
 have hl1 := limbs_mul hla.1 hlc.2
 have hl2 := limbs_mul hla.2 hlc.1
 have hla1 := hla.1
 have hla2 := hla.2
 have hlc1 := hlc.1
 have hlc2 := hlc.2
 go_upto_region 3 with fail
 refine wp_region_seq (S := fun w' => Box3 w' pa (Value.bool aB) (Value.slice axO axL axC) (Value.slice ayO ayL ayC) ∧ Box3 w' pc (Value.bool cB) (Value.slice cxO cxL cxC) (Value.slice cyO cyL cyC)) [(true, 0), (true, 1), (true, 2), (true, 3), (true, 4), (true, 5), (true, 6), (true, 7), (true, 10), (true, 12), (true, 13), (false, 8), (false, 9), (false, 11), (false, 14), (false, 15), (false, 16), (true, 17)] (by kernel_rfl) (by kernel_rfl) (by kernel_rfl) (by kernel_rfl) (by kernel_rfl) (fun d _ _ _ _ h => by cases d <;> exact h) ⟨hba.drew, hbc.drew⟩ (fun _ => ?_)
 simp only [pickOps, List.append_eq, List.cons_append, List.nil_append, List.getElem?_toArray, List.getElem?_cons_succ, List.getElem?_cons_zero]
 have hb : Below w1.heap.size w1 w1.drew := (Below.refl _ _).drew
 generalize w1.drew = w2 at hb ⊢
 replace hba := hba.kept hb
 replace hbc := hbc.kept hb
 replace hbr := hbr.kept hb
 replace ha := ha.below hb
 replace hc := hc.below hb
 replace hax := hax.below hb
 replace hay := hay.below hb
 replace hcx := hcx.below hb
 replace hcy := hcy.below hb
 replace hbf := hbf.trans (hb.mono hbf.size)
 clear hb
 repeat (first | (refine seq_take (v := ?_) (by rfl) ?_ ?_; rotate_left; (· intro w hSw; (try dsimp only at hSw); obtain ⟨⟨ea0, ea1, ea2, _, _, _⟩, ⟨ec0, ec1, ec2, _, _, _⟩⟩ := hSw; go_simp; all_goals with_reducible rfl); (try simp only [Act.put, List.setIfInBounds_toArray, List.set_cons_zero, List.set_cons_succ])) | (refine seq_leave (by rfl) ?_; (try simp only [Act.put, List.setIfInBounds_toArray, List.set_cons_zero, List.set_cons_succ])))
 refine seq_step (by rfl) (fun K hK => ?_)
 go_simp
 go_at_call 119
 (with_reducible refine (den_any _ c _ hc).mono ?_)
 rintro e w3 ⟨r9, rfl, hd1, hb⟩
 obtain ⟨dO, dL, dC, rfl⟩ := hd1.form
 replace hba := hba.kept hb
 replace hbc := hbc.kept hb
 replace hbr := hbr.kept hb
 replace ha := ha.below hb
 replace hc := hc.below hb
 replace hax := hax.below hb
 replace hay := hay.below hb
 replace hcx := hcx.below hb
 replace hcy := hcy.below hb
 replace hbf := hbf.trans (hb.mono hbf.size)
 clear hb
 first | refine hK.out _ _ ⟨hba, hbc⟩ (fun _ => ?_) | (go_wp2_with fail; refine hK.out _ _ ⟨hba, hbc⟩ (fun _ => ?_))
 clear hK K
 (try simp only [Act.put, List.setIfInBounds_toArray, List.set_cons_zero, List.set_cons_succ])
 refine seq_step (by rfl) (fun K hK => ?_)
 go_simp
 go_at_call 118
 (with_reducible refine (mul_any _ _ a.num.natAbs c.den _ hax hd1 (by omega) (by omega)).mono ?_)
 rintro e w4 ⟨r9, rfl, hu, hb⟩
 obtain ⟨uO, uL, uC, rfl⟩ := hu.form
 replace hba := hba.kept hb
 replace hbc := hbc.kept hb
 replace hbr := hbr.kept hb
 replace ha := ha.below hb
 replace hc := hc.below hb
 replace hax := hax.below hb
 replace hay := hay.below hb
 replace hcx := hcx.below hb
 replace hcy := hcy.below hb
 replace hd1 := hd1.below hb
 replace hbf := hbf.trans (hb.mono hbf.size)
 clear hb
 first | refine hK.out _ _ ⟨hba, hbc⟩ (fun _ => ?_) | (go_wp2_with fail; refine hK.out _ _ ⟨hba, hbc⟩ (fun _ => ?_))
 clear hK K
 (try simp only [Act.put, List.setIfInBounds_toArray, List.set_cons_zero, List.set_cons_succ])
 refine seq_step (by rfl) (fun K hK => ?_)
 go_simp
 go_at_call 119
 (with_reducible refine (den_any _ a _ ha).mono ?_)
 rintro e w5 ⟨r9, rfl, hd2, hb⟩
 obtain ⟨bO, bL, bC, rfl⟩ := hd2.form
 replace hba := hba.kept hb
 replace hbc := hbc.kept hb
 replace hbr := hbr.kept hb
 replace ha := ha.below hb
 replace hc := hc.below hb
 replace hax := hax.below hb
 replace hay := hay.below hb
 replace hcx := hcx.below hb
 replace hcy := hcy.below hb
 replace hd1 := hd1.below hb
 replace hu := hu.below hb
 replace hbf := hbf.trans (hb.mono hbf.size)
 clear hb
 first | refine hK.out _ _ ⟨hba, hbc⟩ (fun _ => ?_) | (go_wp2_with fail; refine hK.out _ _ ⟨hba, hbc⟩ (fun _ => ?_))
 clear hK K
 (try simp only [Act.put, List.setIfInBounds_toArray, List.set_cons_zero, List.set_cons_succ])
 refine seq_step (by rfl) (fun K hK => ?_)
 go_simp
 go_at_call 118
 (with_reducible refine (mul_any _ _ a.den c.num.natAbs _ hd2 hcx (by omega) (by omega)).mono ?_)
 rintro e w6 ⟨r9, rfl, hv, hb⟩
 obtain ⟨vO, vL, vC, rfl⟩ := hv.form
 replace hba := hba.kept hb
 replace hbc := hbc.kept hb
 replace hbr := hbr.kept hb
 replace ha := ha.below hb
 replace hc := hc.below hb
 replace hax := hax.below hb
 replace hay := hay.below hb
 replace hcx := hcx.below hb
 replace hcy := hcy.below hb
 replace hd1 := hd1.below hb
 replace hu := hu.below hb
 replace hd2 := hd2.below hb
 replace hbf := hbf.trans (hb.mono hbf.size)
 clear hb
 first | refine hK.out _ _ ⟨hba, hbc⟩ (fun _ => ?_) | (go_wp2_with fail; refine hK.out _ _ ⟨hba, hbc⟩ (fun _ => ?_))
 clear hK K
 (try simp only [Act.put, List.setIfInBounds_toArray, List.set_cons_zero, List.set_cons_succ])
 refine seq_step (by rfl) (fun K hK => ?_)
 go_simp
 go_at_call 120
 (with_reducible refine (lowest_any _ _ _ _ _ _ hu hv (by omega) (by omega) HD.out).mono ?_)
 rintro e w7 hq9
 obtain ⟨qB, qxO, qxL, qxC, qyO, qyL, qyC, rfl, hS, hqx, hqy, hq, hb⟩ := hq9.out
 have HqS := Lib.hid hS; clear hS
 replace hba := hba.kept hb
 replace hbc := hbc.kept hb
 replace hbr := hbr.kept hb
 replace ha := ha.below hb
 replace hc := hc.below hb
 replace hax := hax.below hb
 replace hay := hay.below hb
 replace hcx := hcx.below hb
 replace hcy := hcy.below hb
 replace hd1 := hd1.below hb
 replace hu := hu.below hb
 replace hd2 := hd2.below hb
 replace hv := hv.below hb
 replace hbf := hbf.trans (hb.mono hbf.size)
 clear hb
 first | refine hK.out _ _ ⟨hba, hbc⟩ (fun _ => ?_) | (go_wp2_with fail; refine hK.out _ _ ⟨hba, hbc⟩ (fun _ => ?_))
 clear hK K
 (try simp only [Act.put, List.setIfInBounds_toArray, List.set_cons_zero, List.set_cons_succ])
 refine seq_step (by rfl) (fun K hK => ?_)
 have er0 := hbr.c0
 have fr0 := hbr.f0
 have er1 := hbr.c1
 have fr1 := hbr.f1
 have er2 := hbr.c2
 have fr2 := hbr.f2
 go_simp
 clear er0 fr0 er1 fr1 er2 fr2
 obtain ⟨w8, hwE⟩ : ∃ W, W = ((w7.setCell ⟨pr, 0, none⟩ (Value.bool qB)).setCell ⟨pr, 1, none⟩ (Value.slice qxO qxL qxC)).setCell ⟨pr, 2, none⟩ (Value.slice qyO qyL qyC) := ⟨_, rfl⟩
 rw [← hwE]
 replace ha := ha.set3 (u0 := (Value.bool qB)) (u1 := (Value.slice qxO qxL qxC)) (u2 := (Value.slice qyO qyL qyC)) hbr; rw [← hwE] at ha
 replace hc := hc.set3 (u0 := (Value.bool qB)) (u1 := (Value.slice qxO qxL qxC)) (u2 := (Value.slice qyO qyL qyC)) hbr; rw [← hwE] at hc
 replace hax := hax.set3 (u0 := (Value.bool qB)) (u1 := (Value.slice qxO qxL qxC)) (u2 := (Value.slice qyO qyL qyC)) hbr; rw [← hwE] at hax
 replace hay := hay.set3 (u0 := (Value.bool qB)) (u1 := (Value.slice qxO qxL qxC)) (u2 := (Value.slice qyO qyL qyC)) hbr; rw [← hwE] at hay
 replace hcx := hcx.set3 (u0 := (Value.bool qB)) (u1 := (Value.slice qxO qxL qxC)) (u2 := (Value.slice qyO qyL qyC)) hbr; rw [← hwE] at hcx
 replace hcy := hcy.set3 (u0 := (Value.bool qB)) (u1 := (Value.slice qxO qxL qxC)) (u2 := (Value.slice qyO qyL qyC)) hbr; rw [← hwE] at hcy
 replace hd1 := hd1.set3 (u0 := (Value.bool qB)) (u1 := (Value.slice qxO qxL qxC)) (u2 := (Value.slice qyO qyL qyC)) hbr; rw [← hwE] at hd1
 replace hu := hu.set3 (u0 := (Value.bool qB)) (u1 := (Value.slice qxO qxL qxC)) (u2 := (Value.slice qyO qyL qyC)) hbr; rw [← hwE] at hu
 replace hd2 := hd2.set3 (u0 := (Value.bool qB)) (u1 := (Value.slice qxO qxL qxC)) (u2 := (Value.slice qyO qyL qyC)) hbr; rw [← hwE] at hd2
 replace hv := hv.set3 (u0 := (Value.bool qB)) (u1 := (Value.slice qxO qxL qxC)) (u2 := (Value.slice qyO qyL qyC)) hbr; rw [← hwE] at hv
 replace hqx := hqx.set3 (u0 := (Value.bool qB)) (u1 := (Value.slice qxO qxL qxC)) (u2 := (Value.slice qyO qyL qyC)) hbr; rw [← hwE] at hqx
 replace hqy := hqy.set3 (u0 := (Value.bool qB)) (u1 := (Value.slice qxO qxL qxC)) (u2 := (Value.slice qyO qyL qyC)) hbr; rw [← hwE] at hqy
 replace hq := hq.set3 (u0 := (Value.bool qB)) (u1 := (Value.slice qxO qxL qxC)) (u2 := (Value.slice qyO qyL qyC)) hbr; rw [← hwE] at hq
 replace hba := hba.set3o (u0 := (Value.bool qB)) (u1 := (Value.slice qxO qxL qxC)) (u2 := (Value.slice qyO qyL qyC)) (show pa ≠ pr by have := HP.out; omega); rw [← hwE] at hba
 replace hbc := hbc.set3o (u0 := (Value.bool qB)) (u1 := (Value.slice qxO qxL qxC)) (u2 := (Value.slice qyO qyL qyC)) (show pc ≠ pr by have := HP.out; omega); rw [← hwE] at hbc
 replace hbf := below_set3 (u0 := (Value.bool qB)) (u1 := (Value.slice qxO qxL qxC)) (u2 := (Value.slice qyO qyL qyC)) hbf (show w.heap.size ≤ pr by have := HP.out; omega); rw [← hwE] at hbf
 replace hbr := hbr.set3 (u0 := (Value.bool qB)) (u1 := (Value.slice qxO qxL qxC)) (u2 := (Value.slice qyO qyL qyC)); rw [← hwE] at hbr; clear hwE
 first | refine hK.out _ _ ⟨hba, hbc⟩ (fun _ => ?_) | (go_wp2_with fail; refine hK.out _ _ ⟨hba, hbc⟩ (fun _ => ?_))
 clear hK K
 (try simp only [Act.put, List.setIfInBounds_toArray, List.set_cons_zero, List.set_cons_succ])
 repeat (first | (refine seq_take (v := ?_) (by rfl) ?_ ?_; rotate_left; (· intro w hSw; (try dsimp only at hSw); obtain ⟨⟨ea0, ea1, ea2, _, _, _⟩, ⟨ec0, ec1, ec2, _, _, _⟩⟩ := hSw; go_simp; all_goals with_reducible rfl); (try simp only [Act.put, List.setIfInBounds_toArray, List.set_cons_zero, List.set_cons_succ])) | (refine seq_leave (by rfl) ?_; (try simp only [Act.put, List.setIfInBounds_toArray, List.set_cons_zero, List.set_cons_succ])))
 refine seq_end ?_
 rw [bne_hid HaS HcS, qdiv_is HC.out] at hq
 go_wp2_with fail
 exact ret_rat_tmp rfl rfl rfl hbr rfl ⟨_, rfl, hq, hbf⟩
theorem qdiv_ok (va vc : Value) (a c : Rat) (i j : Nat) (w : World) (ha : QIs w va a) (hc : QIs w vc c) (hla : QB a i) (hlc : QB c j) (hij : i + j ≤ 90000) (h0 : c ≠ 0) :
  Calls Tryz.prog 114 #[va, vc] w (QPostC w (a / c) 0) := qdiv_main va vc a c i j w _ _ (Lib.hid fun h => (h0 h).elim) (Lib.hid fun _ => ⟨rfl, rfl⟩) ha hc hla hlc hij
set_option maxHeartbeats 1000000 in
theorem of_q (v : Int) (w : World) (hv1 : -9223372036854775808 ≤ v) (hv2 : v ≤ 9223372036854775807) :
  Calls Tryz.prog 116 #[.int .i64 v] w (QPost w (v : Rat)) := by
 obtain ⟨w0, hw0⟩ : ∃ w0, w0 = (w.alloc (.cells #[.bool false, .slice none 0 0, .slice none 0 0] 81)) := ⟨_, rfl⟩
 have hbf : Below w.heap.size w w0 := by rw [hw0]; exact ((Below.refl _ w).alloc (Nat.le_refl _) _)
 obtain ⟨pr, hpr⟩ : ∃ p, p = w.heap.size := ⟨_, rfl⟩
 have hbr : Box3 w0 pr (Value.bool false) (Value.slice none 0 0) (Value.slice none 0 0) := by rw [hw0, hpr]; exact ⟨by go_simp, by go_simp, by go_simp, by go_simp, by go_simp, by go_simp⟩
 have HP : Hid (w.heap.size ≤ pr) := Lib.hid (by omega)
 have HW := Lib.hid hw0; clear hw0
 go_enter Tryz.func116, Tryz.ntmps116
 go_upto_region 1 with fail
 rw [← HW.out, ← hpr]
 clear hpr HW
 have hl1 : (limbs 1).length ≤ 1000000 := limbs_bound (by decide) (by omega)
 have hl2 : (limbs v.natAbs).length ≤ 1000000 := Nat.le_trans (limbs_length_le (k := 2) (by omega)) (by omega)
 by_cases h0 : v < 0
 case pos =>
  have hE : IntKind.u64.wrap (-IntKind.u64.wrap v) = ((v.natAbs : Nat) : Int) := by simp only [IntKind.wrap, IntKind.bits, IntKind.signed, Bool.false_and, Bool.false_eq_true, if_false]; omega
  go_wp2_with fail
  refine (of_any v.natAbs _ (by omega)).mono ?_
  rintro e w1 ⟨r9, rfl, hn, hb⟩
  replace hbr := hbr.kept hb
  replace hbf := hbf.trans (hb.mono hbf.size)
  clear hb
  obtain ⟨nO, nL, nC, rfl⟩ := hn.form
  go_wp2_with fail
  refine (of_one _).mono ?_
  rintro e w2 ⟨r9, rfl, ho, hb⟩
  replace hbr := hbr.kept hb
  replace hn := hn.below hb
  replace hbf := hbf.trans (hb.mono hbf.size)
  clear hb
  obtain ⟨oO, oL, oC, rfl⟩ := ho.form
  go_wp2_with fail
  refine (lowest_any _ _ _ _ _ _ hn ho hl2 hl1 (by decide)).mono ?_
  rintro e w3 hq9
  obtain ⟨qB, qxO, qxL, qxC, qyO, qyL, qyC, rfl, hS, hqx, hqy, hq, hb⟩ := hq9.out
  have HqS := Lib.hid hS; clear hS
  replace hbr := hbr.kept hb
  replace hn := hn.below hb
  replace ho := ho.below hb
  replace hbf := hbf.trans (hb.mono hbf.size)
  clear hb
  rw [of_neg v h0] at hq
  have er0 := hbr.c0
  have fr0 := hbr.f0
  have er1 := hbr.c1
  have fr1 := hbr.f1
  have er2 := hbr.c2
  have fr2 := hbr.f2
  go_wp2_with fail
  exact end_q rfl rfl rfl hbr (show w.heap.size ≤ pr by have := HP.out; omega) hq hbf
 have hE : IntKind.u64.wrap v = ((v.natAbs : Nat) : Int) := by simp only [IntKind.wrap, IntKind.bits, IntKind.signed, Bool.false_and, Bool.false_eq_true, if_false]; omega
 go_wp2_with fail
 refine (of_any v.natAbs _ (by omega)).mono ?_
 rintro e w1 ⟨r9, rfl, hn, hb⟩
 replace hbr := hbr.kept hb
 replace hbf := hbf.trans (hb.mono hbf.size)
 clear hb
 obtain ⟨nO, nL, nC, rfl⟩ := hn.form
 go_wp2_with fail
 refine (of_one _).mono ?_
 rintro e w2 ⟨r9, rfl, ho, hb⟩
 replace hbr := hbr.kept hb
 replace hn := hn.below hb
 replace hbf := hbf.trans (hb.mono hbf.size)
 clear hb
 obtain ⟨oO, oL, oC, rfl⟩ := ho.form
 go_wp2_with fail
 refine (lowest_any _ _ _ _ _ _ hn ho hl2 hl1 (by decide)).mono ?_
 rintro e w3 hq9
 obtain ⟨qB, qxO, qxL, qxC, qyO, qyL, qyC, rfl, hS, hqx, hqy, hq, hb⟩ := hq9.out
 have HqS := Lib.hid hS; clear hS
 replace hbr := hbr.kept hb
 replace hn := hn.below hb
 replace ho := ho.below hb
 replace hbf := hbf.trans (hb.mono hbf.size)
 clear hb
 rw [of_pos v (by omega)] at hq
 have er0 := hbr.c0
 have fr0 := hbr.f0
 have er1 := hbr.c1
 have fr1 := hbr.f1
 have er2 := hbr.c2
 have fr2 := hbr.f2
 go_wp2_with fail
 exact end_q rfl rfl rfl hbr (show w.heap.size ≤ pr by have := HP.out; omega) hq hbf
end Go.Proofs.YtieffhkfefimeaaGreatDoor

namespace Go.Proofs.YtieffhkfefimeaaGreatDoor
open Go.RowKit

def mask (l : List Nat) : Nat := l.foldl (fun s d => s ||| 2 ^ d) 0
theorem testBit_fold (l : List Nat) (s k : Nat) : (l.foldl (fun s d => s ||| 2 ^ d) s).testBit k = (s.testBit k || l.contains k) := by
 induction l generalizing s with
 | nil => simp
 | cons d l ih =>
  rw [List.foldl_cons, ih, Nat.testBit_or, Nat.testBit_two_pow]
  simp only [List.contains_cons, Bool.or_assoc]
  congr 2
  by_cases h : d = k
  ·subst h; simp
  ·have : ¬ k = d := fun e => h e.symm
   simp [h, this]
theorem testBit_mask (l : List Nat) (k : Nat) : (mask l).testBit k = l.contains k := by
 unfold mask; rw [testBit_fold]; simp
abbrev Info := Nat × Nat × Option Nat
def depsL (o : Oper) : List Nat := (o.after.toList.filter (Region.binds .any)).map (·.on)
def infoOf (ops : Array Oper) (o : Oper) : Info := (mask (depsL o), mask (o.looksAt ops), o.dst)
def tab (ops : Array Oper) : List Info := ops.toList.map (infoOf ops)
def rdy (t : Info) (m : Nat) : Bool := (t.1 &&& m) == t.1
def apartT (x y : Info) : Bool :=
  (match x.2.2 with
   | some d => !y.2.1.testBit d && y.2.2 != some d
   | none => true) &&
  (match y.2.2 with
   | some d => !x.2.1.testBit d
   | none => true)
def freeT (ti : Info) (i m : Nat) : List Info → Nat → Bool
 | [], _ => true
 | tj :: r, j => (j == i || m.testBit j || tj.1.testBit i || apartT ti tj) && freeT ti i m r (j + 1)
def aloneT (i m : Nat) : List Info → Nat → Bool
 | [], _ => true
 | tj :: r, j => (if j == i then rdy tj m && !m.testBit j else (m.testBit j || !rdy tj m)) && aloneT i m r (j + 1)
def doneT (m : Nat) : List Info → Nat → Bool
 | [], _ => true
 | tj :: r, j => (m.testBit j || !rdy tj m) && doneT m r (j + 1)
def seqFast (T : List Info) : List (Bool × Nat) → Nat → Bool
 | [], m => doneT m T 0
 | (true, i) :: r, m => (match T[i]? with | some ti => rdy ti m && !m.testBit i && freeT ti i m T 0 | none => false) && seqFast T r (m ||| 2 ^ i)
 | (false, i) :: r, m => aloneT i m T 0 && decide (i < T.length) && seqFast T r (m ||| 2 ^ i)
theorem freeT_get {ti : Info} {i m : Nat} : ∀ (l : List Info) (k : Nat), freeT ti i m l k = true → ∀ j tj, l[j]? = some tj → (k + j == i || m.testBit (k + j) || tj.1.testBit i || apartT ti tj) = true
 | [], k, h, j, tj, hj => by simp at hj
 | t :: r, k, h, j, tj, hj => by
  simp only [freeT, Bool.and_eq_true] at h
  cases j with
  | zero => simp at hj; subst hj; exact h.1
  | succ j =>
   have := freeT_get r (k + 1) h.2 j tj (by simpa using hj)
   rwa [show k + 1 + j = k + (j + 1) by omega] at this
theorem aloneT_get {i m : Nat} : ∀ (l : List Info) (k : Nat), aloneT i m l k = true → ∀ j tj, l[j]? = some tj → (if k + j == i then rdy tj m && !m.testBit (k + j) else (m.testBit (k + j) || !rdy tj m)) = true
 | [], k, h, j, tj, hj => by simp at hj
 | t :: r, k, h, j, tj, hj => by
  simp only [aloneT, Bool.and_eq_true] at h
  cases j with
  | zero => simp at hj; subst hj; exact h.1
  | succ j =>
   have := aloneT_get r (k + 1) h.2 j tj (by simpa using hj)
   rwa [show k + 1 + j = k + (j + 1) by omega] at this
theorem doneT_get {m : Nat} : ∀ (l : List Info) (k : Nat), doneT m l k = true → ∀ j tj, l[j]? = some tj → (m.testBit (k + j) || !rdy tj m) = true
 | [], k, h, j, tj, hj => by simp at hj
 | t :: r, k, h, j, tj, hj => by
  simp only [doneT, Bool.and_eq_true] at h
  cases j with
  | zero => simp at hj; subst hj; exact h.1
  | succ j =>
   have := doneT_get r (k + 1) h.2 j tj (by simpa using hj)
   rwa [show k + 1 + j = k + (j + 1) by omega] at this
section
variable {ops : Array Oper}
theorem tab_get {j : Nat} {o : Oper} (h : ops[j]? = some o) : (tab ops)[j]? = some (infoOf ops o) := by
 unfold tab; rw [List.getElem?_map]; simp [h]
structure Rel (ops : Array Oper) (listed : Array Bool) (m : Nat) : Prop where
 size : listed.size = ops.size
 bit : ∀ j, listed.getD j false = m.testBit j
theorem Rel.bitT {listed : Array Bool} {m j : Nat} (h : Rel ops listed m) (hj : j < ops.size) : listed.getD j true = m.testBit j := by
 rw [← h.bit]
 have : j < listed.size := by rw [h.size]; exact hj
 simp [Array.getD_eq_getD_getElem?, this]
theorem Rel.set {listed : Array Bool} {m i : Nat} (h : Rel ops listed m) (hi : i < ops.size) : Rel ops (listed.setIfInBounds i true) (m ||| 2 ^ i) := by
 refine ⟨by simpa using h.size, fun j => ?_⟩
 rw [Nat.testBit_or, Nat.testBit_two_pow, ← h.bit]
 simp only [Array.getD_eq_getD_getElem?, Array.getElem?_setIfInBounds]
 split
 ·rename_i e; subst e
  rw [if_pos (by rw [h.size]; exact hi)]; simp
 ·rename_i e; simp [e]
theorem rdy_iff {o : Oper} {listed : Array Bool} {m : Nat} (h : Rel ops listed m) : rdy (infoOf ops o) m = true ↔ ∀ e ∈ o.after, Region.binds .any e = true → listed.getD e.on false = true := by
 unfold rdy infoOf
 rw [beq_iff_eq]
 constructor
 ·intro he e hm hb
  have he : mask (depsL o) &&& m = mask (depsL o) := he
  have h1 : (mask (depsL o)).testBit e.on = true := by
   rw [testBit_mask]
   simp only [List.contains_eq_mem, decide_eq_true_eq, depsL, List.mem_map, List.mem_filter]
   exact ⟨e, ⟨Array.mem_toList_iff.2 hm, hb⟩, rfl⟩
  rw [← he, Nat.testBit_and, Bool.and_eq_true] at h1
  rw [h.bit]; exact h1.2
 ·intro hall
  apply Nat.eq_of_testBit_eq
  intro k
  rw [Nat.testBit_and]
  cases hk : (mask (depsL o)).testBit k with
  | false => rfl
  | true =>
   rw [testBit_mask] at hk
   simp only [List.contains_eq_mem, decide_eq_true_eq, depsL, List.mem_map, List.mem_filter] at hk
   obtain ⟨e, ⟨hm, hb⟩, rfl⟩ := hk
   rw [← h.bit, hall e (Array.mem_toList_iff.1 hm) hb]; rfl
theorem apartT_is {x y : Oper} : apartT (infoOf ops x) (infoOf ops y) = x.apart ops y := by
 unfold apartT infoOf Oper.apart
 simp only [testBit_mask]
 rfl
theorem ready_mem {listed : Array Bool} {m j : Nat} {o : Oper} (h : Rel ops listed m) (ho : ops[j]? = some o) : j ∈ Region.ready .any ops listed ↔ (m.testBit j = false ∧ rdy (infoOf ops o) m = true) := by
 have hj : j < ops.size := (Array.getElem?_eq_some_iff.1 ho).1
 rw [mem_ready, rdy_iff h, h.bitT hj]
 constructor
 ·rintro ⟨h1, o', ho', h2⟩
  rw [ho] at ho'; cases ho'
  exact ⟨h1, h2⟩
 ·rintro ⟨h1, h2⟩
  exact ⟨h1, o, ho, h2⟩
theorem filter_one {p : Nat → Bool} {n i : Nat} (hi : i < n) (h : ∀ j, j < n → (p j = true ↔ j = i)) : (List.range n).filter p = [i] := by
 induction n with
 | zero => omega
 | succ n ih =>
  rw [List.range_succ, List.filter_append]
  by_cases hn : i = n
  ·subst hn
   have h1 : (List.range i).filter p = [] := by
    rw [List.filter_eq_nil_iff]
    intro j hj hp
    have hj' := List.mem_range.1 hj
    have := (h j (by omega)).1 hp
    omega
   rw [h1]
   have := (h i (by omega)).2 rfl
   simp [this]
  ·rw [ih (by omega) (fun j hj => h j (by omega))]
   have : p n = false := by
    cases hp : p n with
    | false => rfl
    | true => exact (hn ((h n (by omega)).1 hp).symm).elim
   simp [this]
theorem seqOk_of_fast : ∀ (l : List (Bool × Nat)) (listed : Array Bool) (m : Nat), Rel ops listed m → seqFast (tab ops) l m = true → (l.all fun x => decide (x.2 < ops.size)) = true → seqOk ops l listed = true
 | [], listed, m, hR, h, _ => by
  simp only [seqFast] at h
  simp only [seqOk, List.isEmpty_iff, List.eq_nil_iff_forall_not_mem]
  intro j hj
  have hj2 := hj
  rw [mem_ready] at hj2
  obtain ⟨_, o, ho, _⟩ := hj2
  have h1 := (ready_mem hR ho).1 hj
  have h2 := doneT_get _ _ h j _ (tab_get ho)
  rw [Nat.zero_add, h1.1, h1.2] at h2
  cases h2
 | (true, i) :: r, listed, m, hR, h, hlt => by
  simp only [List.all_cons, Bool.and_eq_true, decide_eq_true_eq] at hlt
  have ho : ops[i]? = some ops[i] := Array.getElem?_eq_getElem hlt.1
  simp only [seqFast, tab_get ho, Bool.and_eq_true, Bool.not_eq_true'] at h
  obtain ⟨⟨⟨h1, h2⟩, h3⟩, h4⟩ := h
  simp only [seqOk, Bool.and_eq_true]
  refine ⟨⟨?_, ?_⟩, seqOk_of_fast r _ _ (hR.set hlt.1) h4 hlt.2⟩
  ·simp only [Region.free, ho, List.all_eq_true, List.mem_range]
   intro j hj
   have hoj : ops[j]? = some ops[j] := Array.getElem?_eq_getElem hj
   have h5 := freeT_get _ _ h3 j _ (tab_get hoj)
   rw [Nat.zero_add] at h5
   rw [hoj, hR.bitT hj]
   simp only [Bool.or_eq_true] at h5 ⊢
   rcases h5 with (h5 | h5) | h5
   ·exact .inl (h5.imp id id)
   ·refine .inr (.inl ?_)
    have h6 : (mask (depsL ops[j])).testBit i = true := h5
    rw [testBit_mask] at h6
    simp only [List.contains_eq_mem, decide_eq_true_eq, depsL, List.mem_map, List.mem_filter] at h6
    obtain ⟨e, ⟨hm, hb⟩, he⟩ := h6
    rw [Array.any_eq_true']
    exact ⟨e, Array.mem_toList_iff.1 hm, by simp [hb, he]⟩
   ·rw [apartT_is] at h5
    exact .inr (.inr h5)
  ·rw [List.contains_eq_mem, decide_eq_true_eq]
   exact (ready_mem hR ho).2 ⟨h2, h1⟩
 | (false, i) :: r, listed, m, hR, h, hlt => by
  simp only [List.all_cons, Bool.and_eq_true, decide_eq_true_eq] at hlt
  simp only [seqFast, Bool.and_eq_true, decide_eq_true_eq] at h
  obtain ⟨⟨h1, h2⟩, h3⟩ := h
  simp only [seqOk, Bool.and_eq_true, beq_iff_eq]
  refine ⟨?_, seqOk_of_fast r _ _ (hR.set hlt.1) h3 hlt.2⟩
  unfold Region.ready
  refine filter_one hlt.1 fun j hj => ?_
  have hoj : ops[j]? = some ops[j] := Array.getElem?_eq_getElem hj
  have h4 := aloneT_get _ _ h1 j _ (tab_get hoj)
  rw [Nat.zero_add] at h4
  have h5 := ready_mem hR hoj
  unfold Region.ready at h5
  rw [List.mem_filter, List.mem_range] at h5
  have h6 : ∀ b : Bool, (j < ops.size ∧ b = true) ↔ b = true := fun b => ⟨fun h => h.2, fun h => ⟨hj, h⟩⟩
  rw [h6] at h5
  rw [h5]
  by_cases hji : j = i
  ·subst hji
   simp only [beq_self_eq_true, if_true, Bool.and_eq_true, Bool.not_eq_true'] at h4
   exact ⟨fun _ => rfl, fun _ => ⟨h4.2, h4.1⟩⟩
  ·have : (j == i) = false := by simpa using hji
   rw [this] at h4
   simp only [Bool.false_eq_true, if_false, Bool.or_eq_true, Bool.not_eq_true'] at h4
   refine ⟨fun h => ?_, fun h => (hji h).elim⟩
   rcases h4 with h4 | h4
   ·rw [h.1] at h4; cases h4
   ·rw [h.2] at h4; cases h4
variable {P : Program} {Q : Exit → Act → World → Prop} {S : World → Prop}
theorem wp_region_seqQ {id : Nat} {a : Act} {w : World} (T : List Info) (l : List (Bool × Nat)) (hm : P.follows .mixedOrders = true) (hs : Region.noSelect ops = true) (hl : l.length = ops.size) (hlt : (l.all fun x => decide (x.2 < ops.size)) = true)
  (hT : tab ops = T) (hk : seqFast T l 0 = true) (hQ : ∀ d v c a w, Q (.panic c) (a.put d v) w → Q (.panic c) a w) (hS : S w.drew)
  (h : S w.drew → wpSeqH P ops Q S (pickOps ops l) a w.drew) : (Code.region id ops true).wp P Q a w := by
 refine wp_region_seq l hm hs hl hlt (seqOk_of_fast l _ 0 ⟨by simp, fun j => ?_⟩ (by rw [hT]; exact hk) hlt) hQ hS h
 simp only [Array.getD_eq_getD_getElem?, Array.getElem?_replicate, Nat.zero_testBit]
 split <;> rfl
end
end Go.Proofs.YtieffhkfefimeaaGreatDoor
