/-
  NatLaws: its own comparing function.
-/
import Derived.Test.YtegneoaoodddoaaDoorLawH
import Derived.Deep.DeepCutAuto
namespace Go.Proofs.YtegneoaoodddoaaDoor
open Go.RowKit
set_option linter.unusedVariables false
set_option linter.unusedSimpArgs false
attribute [local go_sem] field_nat

theorem limbs_mul {a b m n : Nat} (ha : (limbs a).length ≤ m) (hb : (limbs b).length ≤ n) : (limbs (a * b)).length ≤ m + n := by
  have h1 := lt_pow_limbs a
  have h2 := lt_pow_limbs b
  refine Nat.le_trans (limbs_length_le (k := (limbs a).length + (limbs b).length) ?_) (by omega)
  rw [Nat.pow_add]
  rcases Nat.eq_zero_or_pos b with h0 | h0
  · subst h0; rw [Nat.mul_zero]; exact Nat.mul_pos (Nat.pow_pos (by decide)) (Nat.pow_pos (by decide))
  · exact Nat.lt_of_lt_of_le (Nat.mul_lt_mul_of_pos_right h1 h0) (Nat.mul_le_mul_left _ (Nat.le_of_lt h2))
theorem limbs_add {a b m : Nat} (ha : (limbs a).length ≤ m) (hb : (limbs b).length ≤ m) : (limbs (a + b)).length ≤ m + 1 := by
  have h1 : a < 4294967296 ^ m := Nat.lt_of_lt_of_le (lt_pow_limbs a) (Nat.pow_le_pow_right (by decide) ha)
  have h2 : b < 4294967296 ^ m := Nat.lt_of_lt_of_le (lt_pow_limbs b) (Nat.pow_le_pow_right (by decide) hb)
  refine limbs_length_le ?_
  rw [Nat.pow_succ]
  omega

set_option maxRecDepth 100000 in
set_option maxHeartbeats 1000000 in
theorem eq1_any (va vb : Value) (n : Nat) (w : World) (ha : NatIs w va n) (hb : NatIs w vb n) (hl : (limbs n).length ≤ 100000) :
    Calls Tryd.prog 33 #[va, vb] w fun e w' => e = .returned (.bool true) ∧ Below w.heap.size w w' := by
  obtain ⟨ao, ac, rfl, _, _, _, _⟩ := ha.open
  obtain ⟨bo, bc, rfl, _, _, _, _⟩ := hb.open
  obtain ⟨L, hL⟩ : ∃ L, L = (limbs n).length := ⟨_, rfl⟩
  rw [← hL] at ha hb ⊢
  obtain ⟨w0, hw0⟩ : ∃ w0, w0 = (w.alloc (.cells #[.slice ao L ac] 25)).alloc (.cells #[.slice bo L bc] 25) := ⟨_, rfl⟩
  have hbel : Below w.heap.size w w0 := by
    rw [hw0]; exact ((Below.refl _ w).alloc (Nat.le_refl _) _).alloc (by simp <;> omega) _
  have hba : Box w0 w.heap.size (.slice ao L ac) := by
    rw [hw0]; exact ⟨by go_simp, by go_simp, by simp <;> omega⟩
  have hbb : Box w0 (w.heap.size + 1) (.slice bo L bc) := by
    rw [hw0]; exact ⟨by go_simp, by go_simp, by simp <;> omega⟩
  have na := ha.below hbel
  have nb := hb.below hbel
  have HW := Lib.hid hw0; clear hw0 hL ha hb
  obtain ⟨T, hT⟩ : ∃ T, T = str (dec n) := ⟨_, rfl⟩
  have HT := Lib.hid hT.symm; clear hT
  go_enter Tryd.func33, Tryd.ntmps33
  go_upto_region 1 with fail
  rw [← HW.out]
  obtain ⟨pa, hpa⟩ : ∃ p, p = w.heap.size := ⟨_, rfl⟩
  obtain ⟨pb, hpb⟩ : ∃ p, p = w.heap.size + 1 := ⟨_, rfl⟩
  rw [← hpb] at hbb ⊢
  rw [← hpa] at hba ⊢
  clear hpa hpb
  have ea := hba.cell
  have eb := hbb.cell
  have HMK : Hid (∀ w', Below w0.heap.size w0 w' → w'.cell? ⟨pa, 0, none⟩ = some (Value.slice ao L ac) ∧ w'.cell? ⟨pb, 0, none⟩ = some (Value.slice bo L bc) ∧ Below w0.heap.size w0 w') := Lib.hid (fun w' hb => ⟨(hb.cell (p := ⟨pa, 0, none⟩) (World.block_lt_of_cell? w0 ⟨pa, 0, none⟩ ea)).trans ea, (hb.cell (p := ⟨pb, 0, none⟩) (World.block_lt_of_cell? w0 ⟨pb, 0, none⟩ eb)).trans eb, hb⟩)
  have HBL : Hid (∀ w', (w'.cell? ⟨pa, 0, none⟩ = some (Value.slice ao L ac) ∧ w'.cell? ⟨pb, 0, none⟩ = some (Value.slice bo L bc) ∧ Below w0.heap.size w0 w') → Below w0.heap.size w0 w') := Lib.hid (fun w' h => h.2.2)
  clear ea eb
  go_wp2_with fail
  refine wp_region_seq (S := fun w' => w'.cell? ⟨pa, 0, none⟩ = some (Value.slice ao L ac) ∧ w'.cell? ⟨pb, 0, none⟩ = some (Value.slice bo L bc) ∧ Below w0.heap.size w0 w') [(true, 0), (true, 1), (false, 2), (true, 3), (true, 4), (true, 5), (true, 7), (false, 6), (false, 8), (true, 9), (true, 10), (true, 11)] (by kernel_rfl) (by kernel_rfl) (by kernel_rfl) (by kernel_rfl) (by kernel_rfl) (fun d _ _ _ _ h => by cases d <;> exact h) ?_ (fun hHeld => ?_)
  · first | assumption | exact HMK.out _ (Below.refl _ _).drew
  simp only [pickOps, List.append_eq, List.cons_append, List.nil_append, List.getElem?_toArray, List.getElem?_cons_succ, List.getElem?_cons_zero]
  repeat (first | (refine seq_take (v := ?_) (by rfl) ?_ ?_; rotate_left; (· intro w hSw; (try dsimp only at hSw); go_simp; all_goals with_reducible rfl); (try simp only [Act.put, List.setIfInBounds_toArray, List.set_cons_zero, List.set_cons_succ])) | (refine seq_leave (by rfl) ?_; (try simp only [Act.put, List.setIfInBounds_toArray, List.set_cons_zero, List.set_cons_succ])))
  (refine seq_step (by rfl) (fun K hK => ?_); go_simp; (go_at_call 34; (with_reducible refine (cmp_same _ _ n _ (na.below (HBL.out _ (by assumption))) (nb.below (HBL.out _ (by assumption)))).mono ?_); rintro e w' ⟨rfl, hb'⟩; have hS := heldS HMK.out HBL.out hb' (by assumption)); (first | refine hK.out _ _ ?_ (fun hHeld => ?_) | (go_wp2_with fail; refine hK.out _ _ ?_ (fun hHeld => ?_))); (· first | assumption | exact HMK.out _ (Below.refl _ _).drew); clear hK K; (try simp only [Act.put, List.setIfInBounds_toArray, List.set_cons_zero, List.set_cons_succ]))
  repeat (first | (refine seq_take (v := ?_) (by rfl) ?_ ?_; rotate_left; (· intro w hSw; (try dsimp only at hSw); go_simp; all_goals with_reducible rfl); (try simp only [Act.put, List.setIfInBounds_toArray, List.set_cons_zero, List.set_cons_succ])) | (refine seq_leave (by rfl) ?_; (try simp only [Act.put, List.setIfInBounds_toArray, List.set_cons_zero, List.set_cons_succ])))
  (refine seq_step (by rfl) (fun K hK => ?_); go_simp; (go_at_call 13; (with_reducible refine (text_any _ n _ (na.below (HBL.out _ (by assumption))) hl).mono ?_); rintro e w' ⟨rfl, hb'⟩; rw [HT.out]; have hS := heldS HMK.out HBL.out hb' (by assumption)); (first | refine hK.out _ _ ?_ (fun hHeld => ?_) | (go_wp2_with fail; refine hK.out _ _ ?_ (fun hHeld => ?_))); (· first | assumption | exact HMK.out _ (Below.refl _ _).drew); clear hK K; (try simp only [Act.put, List.setIfInBounds_toArray, List.set_cons_zero, List.set_cons_succ]))
  (refine seq_step (by rfl) (fun K hK => ?_); go_simp; (go_at_call 13; (with_reducible refine (text_any _ n _ (nb.below (HBL.out _ (by assumption))) hl).mono ?_); rintro e w' ⟨rfl, hb'⟩; rw [HT.out]; have hS := heldS HMK.out HBL.out hb' (by assumption)); (first | refine hK.out _ _ ?_ (fun hHeld => ?_) | (go_wp2_with fail; refine hK.out _ _ ?_ (fun hHeld => ?_))); (· first | assumption | exact HMK.out _ (Below.refl _ _).drew); clear hK K; (try simp only [Act.put, List.setIfInBounds_toArray, List.set_cons_zero, List.set_cons_succ]))
  repeat (first | (refine seq_take (v := ?_) (by rfl) ?_ ?_; rotate_left; (· intro w hSw; (try dsimp only at hSw); go_simp; all_goals with_reducible rfl); (try simp only [Act.put, List.setIfInBounds_toArray, List.set_cons_zero, List.set_cons_succ])) | (refine seq_leave (by rfl) ?_; (try simp only [Act.put, List.setIfInBounds_toArray, List.set_cons_zero, List.set_cons_succ])))
  refine seq_end ?_
  go_wp2
  go_ret
  exact ⟨rfl, hbel.trans (hHeld.2.2.mono hbel.size)⟩
end Go.Proofs.YtegneoaoodddoaaDoor
