/-
  NatLaws: the walk.
-/
import Derived.Test.YtegneoaoodddoaaDoorLawK
namespace Go.Proofs.YtegneoaoodddoaaDoor
open Go.RowKit
set_option linter.unusedVariables false
set_option linter.unusedSimpArgs false
attribute [local go_sem] field_nat

theorem box_of {w : World} {p : Nat} {v : Value} (hc : w.cell? ⟨p, 0, none⟩ = some v) (hf : w.frozen? ⟨p, 0, none⟩ = false) : Box w p v := ⟨hc, hf, World.block_lt_of_cell? w ⟨p, 0, none⟩ hc⟩
theorem NatIs.setBox {w : World} {v u : Value} {n : Nat} {p : Addr} (h : NatIs w v n) (hc : w.cell? p = some (.slice none 0 0)) : NatIs (w.setCell p u) v n := h.set _ _ (fun n e => by rw [hc] at e; cases e)
theorem zero_is (v : Value) (n : Nat) (w : World) (h : NatIs w v n) (hn : n = 0) : Calls Tryd.prog 12 #[v] w fun e w' => e = .returned (.bool true) ∧ Below w.heap.size w w' := by
  have := zero_any v n w h
  rwa [decide_eq_true hn] at this
theorem NatIs.alloc {w : World} {v : Value} {n : Nat} (h : NatIs w v n) (o : Obj) : NatIs (w.alloc o) v n := h.below ((Below.refl _ _).alloc (Nat.le_refl _) _)

set_option maxRecDepth 100000 in
set_option maxHeartbeats 4000000 in
theorem natLaws_main (l m n : List UInt8) (h1 : l.length ≤ 200) (h2 : m.length ≤ 200) (h3 : n.length ≤ 200) (w : World) :
    Calls Tryd.prog 7 #[.string ⟨l.toArray⟩, .string ⟨m.toArray⟩, .string ⟨n.toArray⟩] w fun e w' => e = .returned (.bool true) ∧ Below w.heap.size w w' := by
  go_enter Tryd.func7, Tryd.ntmps7
  go_wp2_with fail
  refine (alive_any _).mono ?_
  rintro e w1 ⟨rfl, hb⟩
  have hbf := hb
  clear hb
  go_wp2_with fail
  refine (parse_any l _ (by omega)).mono ?_
  rintro e w2 ⟨rv, rfl, hn, hb⟩
  replace hbf := hbf.trans (hb.mono hbf.size)
  clear hb
  have hlA := pval_limbs (l := l) (by omega)
  obtain ⟨x, hcx⟩ : ∃ c, c = pcode l := ⟨_, rfl⟩
  obtain ⟨A, hA⟩ : ∃ A, A = pval l := ⟨_, rfl⟩
  rw [← hA] at hn hlA
  rw [← hcx]
  clear hcx hA
  obtain ⟨sv, rfl, ⟨ao, al, ac, rfl⟩, hba, hb, na⟩ := box_nat hn
  obtain ⟨w3, hwE⟩ : ∃ w3, w3 = w2.alloc (.cells #[Value.slice ao al ac] 25) := ⟨_, rfl⟩
  rw [← hwE] at hba hb na
  obtain ⟨pa, hpE⟩ : ∃ p, p = w2.heap.size := ⟨_, rfl⟩
  have HW := Lib.hid hwE; clear hwE hn
  go_upto_region 4 with fail
  rw [← HW.out]
  rw [← hpE] at hba ⊢
  clear hpE HW
  replace hbf := hbf.trans (hb.mono hbf.size)
  clear hb
  go_wp2_with fail
  refine (parse_any m _ (by omega)).mono ?_
  rintro e w4 ⟨rv, rfl, hn, hb⟩
  replace hba := hba.kept hb
  replace na := na.below hb
  replace hbf := hbf.trans (hb.mono hbf.size)
  clear hb
  have hlB := pval_limbs (l := m) (by omega)
  obtain ⟨y, hcy⟩ : ∃ c, c = pcode m := ⟨_, rfl⟩
  obtain ⟨B, hA⟩ : ∃ A, A = pval m := ⟨_, rfl⟩
  rw [← hA] at hn hlB
  rw [← hcy]
  clear hcy hA
  obtain ⟨sv, rfl, ⟨bo, bl, bc, rfl⟩, hbb, hb, nb⟩ := box_nat hn
  obtain ⟨w5, hwE⟩ : ∃ w3, w3 = w4.alloc (.cells #[Value.slice bo bl bc] 25) := ⟨_, rfl⟩
  rw [← hwE] at hbb hb nb
  obtain ⟨pb, hpE⟩ : ∃ p, p = w4.heap.size := ⟨_, rfl⟩
  have HW := Lib.hid hwE; clear hwE hn
  go_upto_region 5 with fail
  rw [← HW.out]
  rw [← hpE] at hbb ⊢
  clear hpE HW
  replace hba := hba.kept hb
  replace na := na.below hb
  replace hbf := hbf.trans (hb.mono hbf.size)
  clear hb
  go_wp2_with fail
  refine (parse_any n _ (by omega)).mono ?_
  rintro e w6 ⟨rv, rfl, hn, hb⟩
  replace hba := hba.kept hb
  replace na := na.below hb
  replace hbb := hbb.kept hb
  replace nb := nb.below hb
  replace hbf := hbf.trans (hb.mono hbf.size)
  clear hb
  have hlC := pval_limbs (l := n) (by omega)
  obtain ⟨z, hcz⟩ : ∃ c, c = pcode n := ⟨_, rfl⟩
  obtain ⟨C, hA⟩ : ∃ A, A = pval n := ⟨_, rfl⟩
  rw [← hA] at hn hlC
  rw [← hcz]
  clear hcz hA
  obtain ⟨sv, rfl, ⟨co, cl, cc, rfl⟩, hbc, hb, nc⟩ := box_nat hn
  obtain ⟨w7, hwE⟩ : ∃ w3, w3 = w6.alloc (.cells #[Value.slice co cl cc] 25) := ⟨_, rfl⟩
  rw [← hwE] at hbc hb nc
  obtain ⟨pc, hpE⟩ : ∃ p, p = w6.heap.size := ⟨_, rfl⟩
  have HW := Lib.hid hwE; clear hwE hn
  go_upto_region 6 with fail
  rw [← HW.out]
  rw [← hpE] at hbc ⊢
  clear hpE HW
  replace hba := hba.kept hb
  replace na := na.below hb
  replace hbb := hbb.kept hb
  replace nb := nb.below hb
  replace hbf := hbf.trans (hb.mono hbf.size)
  clear hb
  by_cases hx : x = 0
  case neg =>
    go_wp2
    go_ret
    exact ⟨rfl, hbf⟩
  subst hx
  by_cases hy : y = 0
  case neg =>
    go_wp2
    go_ret
    exact ⟨rfl, hbf⟩
  subst hy
  by_cases hz : z = 0
  case neg =>
    go_wp2
    go_ret
    exact ⟨rfl, hbf⟩
  subst hz
  have ea := hba.cell
  have eb := hbb.cell
  go_wp2_with fail
  refine (divmod_any _ _ A B _ na nb (by omega) (by omega)).mono ?_
  rintro e w8 ⟨q, s, rfl, hq, hs, hb⟩
  clear ea eb
  replace hba := hba.kept hb
  replace na := na.below hb
  replace hbb := hbb.kept hb
  replace nb := nb.below hb
  replace hbc := hbc.kept hb
  replace nc := nc.below hb
  replace hbf := hbf.trans (hb.mono hbf.size)
  clear hb
  obtain ⟨sv, tv, rfl, rfl, ⟨qo, ql, qc, rfl⟩, ⟨ro, rl, rc, rfl⟩, hbq, hbr, hb, nq, nr⟩ := box_nat2 hq hs
  obtain ⟨w9, hwE⟩ : ∃ w3, w3 = (w8.alloc (.cells #[Value.slice qo ql qc] 25)).alloc (.cells #[Value.slice ro rl rc] 25) := ⟨_, rfl⟩
  rw [← hwE] at hbq hbr hb nq nr
  obtain ⟨pq, hpE⟩ : ∃ p, p = w8.heap.size := ⟨_, rfl⟩
  obtain ⟨pr, hqE⟩ : ∃ p, p = w8.heap.size + 1 := ⟨_, rfl⟩
  have HW := Lib.hid hwE; clear hwE hq hs
  go_upto_region 10 with fail
  rw [← HW.out]
  rw [← hqE] at hbr ⊢
  rw [← hpE] at hbq ⊢
  clear hpE hqE HW
  replace hba := hba.kept hb
  replace na := na.below hb
  replace hbb := hbb.kept hb
  replace nb := nb.below hb
  replace hbc := hbc.kept hb
  replace nc := nc.below hb
  replace hbf := hbf.trans (hb.mono hbf.size)
  clear hb
  have hlAB : (limbs (A + B)).length ≤ 1001 := limbs_add hlA hlB
  have hsub : A + B - B = A := Nat.add_sub_cancel ..
  have hle : decide (B ≤ A + B) = true := decide_eq_true (Nat.le_add_left ..)
  have HSUB := Lib.hid hsub
  have HLE := Lib.hid hle
  clear hsub hle
  go_cut [17, 18] (fun p17 p18 wx => ∃ (pd : Nat) (dO : Option Addr) (dl dc : Nat), p17 = .pointer (some ⟨pd, 0, none⟩) ∧ p18 = .bool true ∧ Box wx pd (.slice dO dl dc) ∧ NatIs wx (.agg #[.slice dO dl dc]) A ∧ Below w9.heap.size w9 wx)
  case first =>
    have HMK : Hid (∀ w', Below w9.heap.size w9 w' → w'.cell? ⟨pa, 0, none⟩ = some (Value.slice ao al ac) ∧ w'.cell? ⟨pb, 0, none⟩ = some (Value.slice bo bl bc) ∧ Below w9.heap.size w9 w') := Lib.hid (fun w' hb => ⟨(hb.cell (p := ⟨pa, 0, none⟩) (World.block_lt_of_cell? w9 ⟨pa, 0, none⟩ hba.cell)).trans hba.cell, (hb.cell (p := ⟨pb, 0, none⟩) (World.block_lt_of_cell? w9 ⟨pb, 0, none⟩ hbb.cell)).trans hbb.cell, hb⟩)
    have HBL : Hid (∀ w', (w'.cell? ⟨pa, 0, none⟩ = some (Value.slice ao al ac) ∧ w'.cell? ⟨pb, 0, none⟩ = some (Value.slice bo bl bc) ∧ Below w9.heap.size w9 w') → Below w9.heap.size w9 w') := Lib.hid (fun w' h => h.2.2)
    go_wp2_with fail
    go_region_held3 (fun w' => w'.cell? ⟨pa, 0, none⟩ = some (Value.slice ao al ac) ∧ w'.cell? ⟨pb, 0, none⟩ = some (Value.slice bo bl bc) ∧ Below w9.heap.size w9 w')
      (first | assumption | exact HMK.out _ (Below.refl _ _).drew | exact heldS HMK.out HBL.out ((Below.refl _ _).alloc (Nat.le_refl _) _) (by assumption) | exact HMK.out _ ((HBL.out _ (by assumption)).setCell (p := ⟨_, 0, none⟩) (by first | exact Nat.le_refl _ | omega | (simp; omega)) _) | exact HMK.out _ ((HBL.out _ (by assumption)).alloc (by first | exact Nat.le_refl _ | omega | (simp; omega)) _))
      (first
        | (go_at_call 15; (with_reducible refine (add_any _ _ A B _ (na.below (HBL.out _ (by assumption))) (nb.below (HBL.out _ (by assumption))) (by omega) (by omega)).mono ?_); rintro e w' ⟨r1, rfl, hn1, hb'⟩; have hS := heldS HMK.out HBL.out hb' (by assumption); have hszk1 := (HBL.out _ hS).size; obtain ⟨hcc, hff⟩ := bcell hb'; (try have hz1 : w9.heap.size < w'.heap.size := by have := hb'.size; simp at this; omega))
        | (go_at_call 35; (with_reducible refine (sub_any _ _ (A + B) B _ (by first | assumption | exact hn1.alloc _) (nb.below (HBL.out _ (by assumption))) (by omega)).mono ?_); rintro e w' ⟨r2, rfl, hn2, hb'⟩; rw [HSUB.out] at hn2; rw [HLE.out]; obtain ⟨dO, dC, rfl, _, _, _, _⟩ := hn2.open; have hS := heldS HMK.out HBL.out hb' (by assumption); have hszk2 := (HBL.out _ hS).size; obtain ⟨hcc2, hff2⟩ := bcell hb'))
    all_goals
      go_wp2
      go_meet
      case rel => exact ⟨_, dO, (limbs A).length, dC, rfl, rfl, box_of (by go_simp) (by go_simp), by first | exact hn2.alloc _ | exact hn2.setBox (by go_simp), by first | exact (HBL.out _ hS).alloc (by omega) _ | exact (HBL.out _ hS).setCell (p := ⟨_, 0, none⟩) (by first | exact Nat.le_refl _ | exact hszk1 | omega) _⟩
  case rest =>
    obtain ⟨pv, vo, vl, vc, rfl, rfl, hbv, nv, hb⟩ := hcut
    replace hba := hba.kept hb
    replace na := na.below hb
    replace hbb := hbb.kept hb
    replace nb := nb.below hb
    replace hbc := hbc.kept hb
    replace nc := nc.below hb
    replace hbq := hbq.kept hb
    replace nq := nq.below hb
    replace hbr := hbr.kept hb
    replace nr := nr.below hb
    replace hbf := hbf.trans (hb.mono hbf.size)
    clear hb HSUB HLE
    have hlBC : (limbs (B + C)).length ≤ 1001 := limbs_add hlB hlC
    have hlABC := limbs_mul hlA hlBC
    have hlAxB := limbs_mul hlA hlB
    have hlAxC := limbs_mul hlA hlC
    have hlBxC := limbs_mul hlB hlC
    have hlABxC := limbs_mul hlAxB hlC
    by_cases hB0 : B = 0
    case pos =>
      have HB0 : Hid (B = 0) := Lib.hid hB0
      rw [if_pos hB0] at nr
      have hdec : decide (B = 0) = true := decide_eq_true hB0
      clear hB0
      have ea := hba.cell
      have eb := hbb.cell
      have ec := hbc.cell
      have eq := hbq.cell
      have er := hbr.cell
      have ev := hbv.cell
      have HMK : Hid (∀ w', Below wc.heap.size wc w' → w'.cell? ⟨pa, 0, none⟩ = some (Value.slice ao al ac) ∧ w'.cell? ⟨pb, 0, none⟩ = some (Value.slice bo bl bc) ∧ w'.cell? ⟨pc, 0, none⟩ = some (Value.slice co cl cc) ∧ w'.cell? ⟨pq, 0, none⟩ = some (Value.slice qo ql qc) ∧ w'.cell? ⟨pr, 0, none⟩ = some (Value.slice ro rl rc) ∧ w'.cell? ⟨pv, 0, none⟩ = some (Value.slice vo vl vc) ∧ Below wc.heap.size wc w') := Lib.hid (fun w' hb => ⟨(hb.cell (p := ⟨pa, 0, none⟩) (World.block_lt_of_cell? wc ⟨pa, 0, none⟩ ea)).trans ea, (hb.cell (p := ⟨pb, 0, none⟩) (World.block_lt_of_cell? wc ⟨pb, 0, none⟩ eb)).trans eb, (hb.cell (p := ⟨pc, 0, none⟩) (World.block_lt_of_cell? wc ⟨pc, 0, none⟩ ec)).trans ec, (hb.cell (p := ⟨pq, 0, none⟩) (World.block_lt_of_cell? wc ⟨pq, 0, none⟩ eq)).trans eq, (hb.cell (p := ⟨pr, 0, none⟩) (World.block_lt_of_cell? wc ⟨pr, 0, none⟩ er)).trans er, (hb.cell (p := ⟨pv, 0, none⟩) (World.block_lt_of_cell? wc ⟨pv, 0, none⟩ ev)).trans ev, hb⟩)
      have HBL : Hid (∀ w', (w'.cell? ⟨pa, 0, none⟩ = some (Value.slice ao al ac) ∧ w'.cell? ⟨pb, 0, none⟩ = some (Value.slice bo bl bc) ∧ w'.cell? ⟨pc, 0, none⟩ = some (Value.slice co cl cc) ∧ w'.cell? ⟨pq, 0, none⟩ = some (Value.slice qo ql qc) ∧ w'.cell? ⟨pr, 0, none⟩ = some (Value.slice ro rl rc) ∧ w'.cell? ⟨pv, 0, none⟩ = some (Value.slice vo vl vc) ∧ Below wc.heap.size wc w') → Below wc.heap.size wc w') := Lib.hid (fun w' h => h.2.2.2.2.2.2)
      clear ea eb ec eq er ev
      go_wp2_with fail
      refine wp_region_seq (S := fun w' => w'.cell? ⟨pa, 0, none⟩ = some (Value.slice ao al ac) ∧ w'.cell? ⟨pb, 0, none⟩ = some (Value.slice bo bl bc) ∧ w'.cell? ⟨pc, 0, none⟩ = some (Value.slice co cl cc) ∧ w'.cell? ⟨pq, 0, none⟩ = some (Value.slice qo ql qc) ∧ w'.cell? ⟨pr, 0, none⟩ = some (Value.slice ro rl rc) ∧ w'.cell? ⟨pv, 0, none⟩ = some (Value.slice vo vl vc) ∧ Below wc.heap.size wc w') [(true, 0), (true, 1), (true, 2), (true, 4), (true, 5), (false, 3), (false, 6), (false, 7), (true, 8), (true, 9), (true, 10), (true, 11), (true, 12), (true, 15), (true, 16), (true, 18), (true, 19), (false, 13), (false, 14), (false, 17), (false, 20), (false, 21), (false, 22), (true, 23), (true, 24), (true, 25), (true, 26), (true, 27), (true, 29), (true, 31), (true, 32), (true, 33), (false, 28), (false, 30), (false, 34), (false, 35), (false, 36), (true, 37), (true, 38), (true, 39), (true, 40), (true, 41), (true, 42), (true, 43), (true, 44), (false, 45), (true, 46), (true, 47), (true, 48), (true, 49), (false, 50), (true, 51), (true, 52), (true, 53), (true, 54), (true, 55), (true, 56), (true, 57), (true, 58), (true, 59), (true, 60), (true, 62), (true, 64), (false, 61), (false, 63), (false, 65), (true, 66), (true, 67), (true, 68), (false, 69), (true, 70), (true, 71), (true, 72), (true, 73), (true, 74)] (by kernel_rfl) (by kernel_rfl) (by kernel_rfl) (by kernel_rfl) (by kernel_rfl) (fun d _ _ _ _ h => by cases d <;> exact h) ?_ (fun hHeld => ?_)
      · first | assumption | exact HMK.out _ (Below.refl _ _).drew
      simp only [pickOps, List.append_eq, List.cons_append, List.nil_append, List.getElem?_toArray, List.getElem?_cons_succ, List.getElem?_cons_zero]
      repeat (first | (refine seq_take (v := ?_) (by rfl) ?_ ?_; rotate_left; (· intro w hSw; (try dsimp only at hSw); go_simp; all_goals with_reducible rfl); (try simp only [Act.put, List.setIfInBounds_toArray, List.set_cons_zero, List.set_cons_succ])) | (refine seq_leave (by rfl) ?_; (try simp only [Act.put, List.setIfInBounds_toArray, List.set_cons_zero, List.set_cons_succ])))
      (refine seq_step (by rfl) (fun K hK => ?_); go_simp; (go_at_call 15; (with_reducible refine (add_any _ _ (A) (B) _ (na.below (HBL.out _ (by assumption))) (nb.below (HBL.out _ (by assumption))) (by omega) (by omega)).mono ?_); rintro e w' ⟨r1, rfl, hr1, hb'⟩; have hS := heldS HMK.out HBL.out hb' (by assumption)); (first | refine hK.out _ _ ?_ (fun hHeld => ?_) | (go_wp2_with fail; refine hK.out _ _ ?_ (fun hHeld => ?_))); (· first | assumption | exact HMK.out _ (Below.refl _ _).drew); clear hK K; (try simp only [Act.put, List.setIfInBounds_toArray, List.set_cons_zero, List.set_cons_succ]))
      (refine seq_step (by rfl) (fun K hK => ?_); go_simp; (go_at_call 15; (with_reducible refine (add_any _ _ (B) (A) _ (nb.below (HBL.out _ (by assumption))) (na.below (HBL.out _ (by assumption))) (by omega) (by omega)).mono ?_); rintro e w' ⟨r2, rfl, hr2, hb'⟩; rw [Nat.add_comm] at hr2; replace hr1 := hr1.below hb'; have hS := heldS HMK.out HBL.out hb' (by assumption)); (first | refine hK.out _ _ ?_ (fun hHeld => ?_) | (go_wp2_with fail; refine hK.out _ _ ?_ (fun hHeld => ?_))); (· first | assumption | exact HMK.out _ (Below.refl _ _).drew); clear hK K; (try simp only [Act.put, List.setIfInBounds_toArray, List.set_cons_zero, List.set_cons_succ]))
      (refine seq_step (by rfl) (fun K hK => ?_); go_simp; (go_at_call 33; (with_reducible refine (eq1_any _ _ (A + B) _ hr1 hr2 (by omega)).mono ?_); rintro e w' ⟨rfl, hb'⟩; have hS := heldS HMK.out HBL.out hb' (by assumption)); (first | refine hK.out _ _ ?_ (fun hHeld => ?_) | (go_wp2_with fail; refine hK.out _ _ ?_ (fun hHeld => ?_))); (· first | assumption | exact HMK.out _ (Below.refl _ _).drew); clear hK K; (try simp only [Act.put, List.setIfInBounds_toArray, List.set_cons_zero, List.set_cons_succ]))
      repeat (first | (refine seq_take (v := ?_) (by rfl) ?_ ?_; rotate_left; (· intro w hSw; (try dsimp only at hSw); go_simp; all_goals with_reducible rfl); (try simp only [Act.put, List.setIfInBounds_toArray, List.set_cons_zero, List.set_cons_succ])) | (refine seq_leave (by rfl) ?_; (try simp only [Act.put, List.setIfInBounds_toArray, List.set_cons_zero, List.set_cons_succ])))
      (refine seq_step (by rfl) (fun K hK => ?_); go_simp; (go_at_call 15; (with_reducible refine (add_any _ _ (B) (C) _ (nb.below (HBL.out _ (by assumption))) (nc.below (HBL.out _ (by assumption))) (by omega) (by omega)).mono ?_); rintro e w' ⟨r3, rfl, hr3, hb'⟩; have hS := heldS HMK.out HBL.out hb' (by assumption)); (first | refine hK.out _ _ ?_ (fun hHeld => ?_) | (go_wp2_with fail; refine hK.out _ _ ?_ (fun hHeld => ?_))); (· first | assumption | exact HMK.out _ (Below.refl _ _).drew); clear hK K; (try simp only [Act.put, List.setIfInBounds_toArray, List.set_cons_zero, List.set_cons_succ]))
      (refine seq_step (by rfl) (fun K hK => ?_); go_simp; (go_at_call 36; (with_reducible refine (mul_any _ _ (A) (B + C) _ (na.below (HBL.out _ (by assumption))) hr3 (by omega) (by omega)).mono ?_); rintro e w' ⟨r4, rfl, hr4, hb'⟩; have hS := heldS HMK.out HBL.out hb' (by assumption)); (first | refine hK.out _ _ ?_ (fun hHeld => ?_) | (go_wp2_with fail; refine hK.out _ _ ?_ (fun hHeld => ?_))); (· first | assumption | exact HMK.out _ (Below.refl _ _).drew); clear hK K; (try simp only [Act.put, List.setIfInBounds_toArray, List.set_cons_zero, List.set_cons_succ]))
      (refine seq_step (by rfl) (fun K hK => ?_); go_simp; (go_at_call 36; (with_reducible refine (mul_any _ _ (A) (B) _ (na.below (HBL.out _ (by assumption))) (nb.below (HBL.out _ (by assumption))) (by omega) (by omega)).mono ?_); rintro e w' ⟨r5, rfl, hr5, hb'⟩; replace hr4 := hr4.below hb'; have hS := heldS HMK.out HBL.out hb' (by assumption)); (first | refine hK.out _ _ ?_ (fun hHeld => ?_) | (go_wp2_with fail; refine hK.out _ _ ?_ (fun hHeld => ?_))); (· first | assumption | exact HMK.out _ (Below.refl _ _).drew); clear hK K; (try simp only [Act.put, List.setIfInBounds_toArray, List.set_cons_zero, List.set_cons_succ]))
      (refine seq_step (by rfl) (fun K hK => ?_); go_simp; (go_at_call 36; (with_reducible refine (mul_any _ _ (A) (C) _ (na.below (HBL.out _ (by assumption))) (nc.below (HBL.out _ (by assumption))) (by omega) (by omega)).mono ?_); rintro e w' ⟨r6, rfl, hr6, hb'⟩; replace hr4 := hr4.below hb'; replace hr5 := hr5.below hb'; have hS := heldS HMK.out HBL.out hb' (by assumption)); (first | refine hK.out _ _ ?_ (fun hHeld => ?_) | (go_wp2_with fail; refine hK.out _ _ ?_ (fun hHeld => ?_))); (· first | assumption | exact HMK.out _ (Below.refl _ _).drew); clear hK K; (try simp only [Act.put, List.setIfInBounds_toArray, List.set_cons_zero, List.set_cons_succ]))
      (refine seq_step (by rfl) (fun K hK => ?_); go_simp; (go_at_call 15; (with_reducible refine (add_any _ _ (A * B) (A * C) _ hr5 hr6 (by omega) (by omega)).mono ?_); rintro e w' ⟨r7, rfl, hr7, hb'⟩; replace hr4 := hr4.below hb'; rw [← Nat.mul_add] at hr7; have hS := heldS HMK.out HBL.out hb' (by assumption)); (first | refine hK.out _ _ ?_ (fun hHeld => ?_) | (go_wp2_with fail; refine hK.out _ _ ?_ (fun hHeld => ?_))); (· first | assumption | exact HMK.out _ (Below.refl _ _).drew); clear hK K; (try simp only [Act.put, List.setIfInBounds_toArray, List.set_cons_zero, List.set_cons_succ]))
      (refine seq_step (by rfl) (fun K hK => ?_); go_simp; (go_at_call 33; (with_reducible refine (eq1_any _ _ (A * (B + C)) _ hr4 hr7 (by omega)).mono ?_); rintro e w' ⟨rfl, hb'⟩; have hS := heldS HMK.out HBL.out hb' (by assumption)); (first | refine hK.out _ _ ?_ (fun hHeld => ?_) | (go_wp2_with fail; refine hK.out _ _ ?_ (fun hHeld => ?_))); (· first | assumption | exact HMK.out _ (Below.refl _ _).drew); clear hK K; (try simp only [Act.put, List.setIfInBounds_toArray, List.set_cons_zero, List.set_cons_succ]))
      repeat (first | (refine seq_take (v := ?_) (by rfl) ?_ ?_; rotate_left; (· intro w hSw; (try dsimp only at hSw); go_simp; all_goals with_reducible rfl); (try simp only [Act.put, List.setIfInBounds_toArray, List.set_cons_zero, List.set_cons_succ])) | (refine seq_leave (by rfl) ?_; (try simp only [Act.put, List.setIfInBounds_toArray, List.set_cons_zero, List.set_cons_succ])))
      (refine seq_step (by rfl) (fun K hK => ?_); go_simp; (go_at_call 36; (with_reducible refine (mul_any _ _ (A) (B) _ (na.below (HBL.out _ (by assumption))) (nb.below (HBL.out _ (by assumption))) (by omega) (by omega)).mono ?_); rintro e w' ⟨r8, rfl, hr8, hb'⟩; have hS := heldS HMK.out HBL.out hb' (by assumption)); (first | refine hK.out _ _ ?_ (fun hHeld => ?_) | (go_wp2_with fail; refine hK.out _ _ ?_ (fun hHeld => ?_))); (· first | assumption | exact HMK.out _ (Below.refl _ _).drew); clear hK K; (try simp only [Act.put, List.setIfInBounds_toArray, List.set_cons_zero, List.set_cons_succ]))
      (refine seq_step (by rfl) (fun K hK => ?_); go_simp; (go_at_call 36; (with_reducible refine (mul_any _ _ (A * B) (C) _ hr8 (nc.below (HBL.out _ (by assumption))) (by omega) (by omega)).mono ?_); rintro e w' ⟨r9, rfl, hr9, hb'⟩; have hS := heldS HMK.out HBL.out hb' (by assumption)); (first | refine hK.out _ _ ?_ (fun hHeld => ?_) | (go_wp2_with fail; refine hK.out _ _ ?_ (fun hHeld => ?_))); (· first | assumption | exact HMK.out _ (Below.refl _ _).drew); clear hK K; (try simp only [Act.put, List.setIfInBounds_toArray, List.set_cons_zero, List.set_cons_succ]))
      (refine seq_step (by rfl) (fun K hK => ?_); go_simp; (go_at_call 36; (with_reducible refine (mul_any _ _ (B) (C) _ (nb.below (HBL.out _ (by assumption))) (nc.below (HBL.out _ (by assumption))) (by omega) (by omega)).mono ?_); rintro e w' ⟨r10, rfl, hr10, hb'⟩; replace hr9 := hr9.below hb'; have hS := heldS HMK.out HBL.out hb' (by assumption)); (first | refine hK.out _ _ ?_ (fun hHeld => ?_) | (go_wp2_with fail; refine hK.out _ _ ?_ (fun hHeld => ?_))); (· first | assumption | exact HMK.out _ (Below.refl _ _).drew); clear hK K; (try simp only [Act.put, List.setIfInBounds_toArray, List.set_cons_zero, List.set_cons_succ]))
      (refine seq_step (by rfl) (fun K hK => ?_); go_simp; (go_at_call 36; (with_reducible refine (mul_any _ _ (A) (B * C) _ (na.below (HBL.out _ (by assumption))) hr10 (by omega) (by omega)).mono ?_); rintro e w' ⟨r11, rfl, hr11, hb'⟩; replace hr9 := hr9.below hb'; rw [← Nat.mul_assoc] at hr11; have hS := heldS HMK.out HBL.out hb' (by assumption)); (first | refine hK.out _ _ ?_ (fun hHeld => ?_) | (go_wp2_with fail; refine hK.out _ _ ?_ (fun hHeld => ?_))); (· first | assumption | exact HMK.out _ (Below.refl _ _).drew); clear hK K; (try simp only [Act.put, List.setIfInBounds_toArray, List.set_cons_zero, List.set_cons_succ]))
      (refine seq_step (by rfl) (fun K hK => ?_); go_simp; (go_at_call 33; (with_reducible refine (eq1_any _ _ (A * B * C) _ hr9 hr11 (by omega)).mono ?_); rintro e w' ⟨rfl, hb'⟩; have hS := heldS HMK.out HBL.out hb' (by assumption)); (first | refine hK.out _ _ ?_ (fun hHeld => ?_) | (go_wp2_with fail; refine hK.out _ _ ?_ (fun hHeld => ?_))); (· first | assumption | exact HMK.out _ (Below.refl _ _).drew); clear hK K; (try simp only [Act.put, List.setIfInBounds_toArray, List.set_cons_zero, List.set_cons_succ]))
      repeat (first | (refine seq_take (v := ?_) (by rfl) ?_ ?_; rotate_left; (· intro w hSw; (try dsimp only at hSw); go_simp; all_goals with_reducible rfl); (try simp only [Act.put, List.setIfInBounds_toArray, List.set_cons_zero, List.set_cons_succ])) | (refine seq_leave (by rfl) ?_; (try simp only [Act.put, List.setIfInBounds_toArray, List.set_cons_zero, List.set_cons_succ])))
      (refine seq_step (by rfl) (fun K hK => ?_); go_simp; (go_at_call 33; (with_reducible refine (eq1_any _ _ (A) _ (nv.below (HBL.out _ (by assumption))) (na.below (HBL.out _ (by assumption))) (by omega)).mono ?_); rintro e w' ⟨rfl, hb'⟩; have hS := heldS HMK.out HBL.out hb' (by assumption)); (first | refine hK.out _ _ ?_ (fun hHeld => ?_) | (go_wp2_with fail; refine hK.out _ _ ?_ (fun hHeld => ?_))); (· first | assumption | exact HMK.out _ (Below.refl _ _).drew); clear hK K; (try simp only [Act.put, List.setIfInBounds_toArray, List.set_cons_zero, List.set_cons_succ]))
      repeat (first | (refine seq_take (v := ?_) (by rfl) ?_ ?_; rotate_left; (· intro w hSw; (try dsimp only at hSw); go_simp; all_goals with_reducible rfl); (try simp only [Act.put, List.setIfInBounds_toArray, List.set_cons_zero, List.set_cons_succ])) | (refine seq_leave (by rfl) ?_; (try simp only [Act.put, List.setIfInBounds_toArray, List.set_cons_zero, List.set_cons_succ])))
      (refine seq_step (by rfl) (fun K hK => ?_); go_simp; (go_at_call 12; (with_reducible refine (zero_is _ B _ (nb.below (HBL.out _ (by assumption))) HB0.out).mono ?_); rintro e w' ⟨rfl, hb'⟩; have hS := heldS HMK.out HBL.out hb' (by assumption)); (first | refine hK.out _ _ ?_ (fun hHeld => ?_) | (go_wp2_with fail; refine hK.out _ _ ?_ (fun hHeld => ?_))); (· first | assumption | exact HMK.out _ (Below.refl _ _).drew); clear hK K; (try simp only [Act.put, List.setIfInBounds_toArray, List.set_cons_zero, List.set_cons_succ]))
      repeat (first | (refine seq_take (v := ?_) (by rfl) ?_ ?_; rotate_left; (· intro w hSw; (try dsimp only at hSw); go_simp; all_goals with_reducible rfl); (try simp only [Act.put, List.setIfInBounds_toArray, List.set_cons_zero, List.set_cons_succ])) | (refine seq_leave (by rfl) ?_; (try simp only [Act.put, List.setIfInBounds_toArray, List.set_cons_zero, List.set_cons_succ])))
      (refine seq_pass (by rfl) (by assumption) ?_; (try simp only [Act.put, List.setIfInBounds_toArray, List.set_cons_zero, List.set_cons_succ]))
      (refine seq_pass (by rfl) (by assumption) ?_; (try simp only [Act.put, List.setIfInBounds_toArray, List.set_cons_zero, List.set_cons_succ]))
      (refine seq_pass (by rfl) (by assumption) ?_; (try simp only [Act.put, List.setIfInBounds_toArray, List.set_cons_zero, List.set_cons_succ]))
      repeat (first | (refine seq_take (v := ?_) (by rfl) ?_ ?_; rotate_left; (· intro w hSw; (try dsimp only at hSw); go_simp; all_goals with_reducible rfl); (try simp only [Act.put, List.setIfInBounds_toArray, List.set_cons_zero, List.set_cons_succ])) | (refine seq_leave (by rfl) ?_; (try simp only [Act.put, List.setIfInBounds_toArray, List.set_cons_zero, List.set_cons_succ])))
      (refine seq_pass (by rfl) (by assumption) ?_; (try simp only [Act.put, List.setIfInBounds_toArray, List.set_cons_zero, List.set_cons_succ]))
      repeat (first | (refine seq_take (v := ?_) (by rfl) ?_ ?_; rotate_left; (· intro w hSw; (try dsimp only at hSw); go_simp; all_goals with_reducible rfl); (try simp only [Act.put, List.setIfInBounds_toArray, List.set_cons_zero, List.set_cons_succ])) | (refine seq_leave (by rfl) ?_; (try simp only [Act.put, List.setIfInBounds_toArray, List.set_cons_zero, List.set_cons_succ])))
      refine seq_end ?_
      go_wp2
      go_ret
      exact ⟨rfl, hbf.trans (hHeld.2.2.2.2.2.2.mono hbf.size)⟩
    case neg =>
      rw [if_neg hB0] at nr
      have hdec : decide (B = 0) = false := decide_eq_false hB0
      have HB0 : Hid (B ≠ 0) := Lib.hid hB0
      have hlQ : (limbs (A / B)).length ≤ 1000 := Nat.le_trans (limbs_length_mono (Nat.div_le_self _ _)) hlA
      have hlM : (limbs (A % B)).length ≤ 1000 := Nat.le_trans (limbs_length_mono (Nat.mod_le _ _)) hlA
      have hlQB := limbs_mul hlQ hlB
      have hdm : A / B * B + A % B = A := Nat.div_add_mod' A B
      have HDM := Lib.hid hdm
      have hcm : cmpI (A % B) B = -1 := by unfold cmpI; rw [if_pos (Nat.mod_lt _ (by omega))]
      have HCM := Lib.hid hcm
      clear hdm hcm hB0
      have ea := hba.cell
      have eb := hbb.cell
      have ec := hbc.cell
      have eq := hbq.cell
      have er := hbr.cell
      have ev := hbv.cell
      have HMK : Hid (∀ w', Below wc.heap.size wc w' → w'.cell? ⟨pa, 0, none⟩ = some (Value.slice ao al ac) ∧ w'.cell? ⟨pb, 0, none⟩ = some (Value.slice bo bl bc) ∧ w'.cell? ⟨pc, 0, none⟩ = some (Value.slice co cl cc) ∧ w'.cell? ⟨pq, 0, none⟩ = some (Value.slice qo ql qc) ∧ w'.cell? ⟨pr, 0, none⟩ = some (Value.slice ro rl rc) ∧ w'.cell? ⟨pv, 0, none⟩ = some (Value.slice vo vl vc) ∧ Below wc.heap.size wc w') := Lib.hid (fun w' hb => ⟨(hb.cell (p := ⟨pa, 0, none⟩) (World.block_lt_of_cell? wc ⟨pa, 0, none⟩ ea)).trans ea, (hb.cell (p := ⟨pb, 0, none⟩) (World.block_lt_of_cell? wc ⟨pb, 0, none⟩ eb)).trans eb, (hb.cell (p := ⟨pc, 0, none⟩) (World.block_lt_of_cell? wc ⟨pc, 0, none⟩ ec)).trans ec, (hb.cell (p := ⟨pq, 0, none⟩) (World.block_lt_of_cell? wc ⟨pq, 0, none⟩ eq)).trans eq, (hb.cell (p := ⟨pr, 0, none⟩) (World.block_lt_of_cell? wc ⟨pr, 0, none⟩ er)).trans er, (hb.cell (p := ⟨pv, 0, none⟩) (World.block_lt_of_cell? wc ⟨pv, 0, none⟩ ev)).trans ev, hb⟩)
      have HBL : Hid (∀ w', (w'.cell? ⟨pa, 0, none⟩ = some (Value.slice ao al ac) ∧ w'.cell? ⟨pb, 0, none⟩ = some (Value.slice bo bl bc) ∧ w'.cell? ⟨pc, 0, none⟩ = some (Value.slice co cl cc) ∧ w'.cell? ⟨pq, 0, none⟩ = some (Value.slice qo ql qc) ∧ w'.cell? ⟨pr, 0, none⟩ = some (Value.slice ro rl rc) ∧ w'.cell? ⟨pv, 0, none⟩ = some (Value.slice vo vl vc) ∧ Below wc.heap.size wc w') → Below wc.heap.size wc w') := Lib.hid (fun w' h => h.2.2.2.2.2.2)
      clear ea eb ec eq er ev
      go_wp2_with fail
      refine wp_region_seq (S := fun w' => w'.cell? ⟨pa, 0, none⟩ = some (Value.slice ao al ac) ∧ w'.cell? ⟨pb, 0, none⟩ = some (Value.slice bo bl bc) ∧ w'.cell? ⟨pc, 0, none⟩ = some (Value.slice co cl cc) ∧ w'.cell? ⟨pq, 0, none⟩ = some (Value.slice qo ql qc) ∧ w'.cell? ⟨pr, 0, none⟩ = some (Value.slice ro rl rc) ∧ w'.cell? ⟨pv, 0, none⟩ = some (Value.slice vo vl vc) ∧ Below wc.heap.size wc w') [(true, 0), (true, 1), (true, 2), (true, 4), (true, 5), (false, 3), (false, 6), (false, 7), (true, 8), (true, 9), (true, 10), (true, 11), (true, 12), (true, 15), (true, 16), (true, 18), (true, 19), (false, 13), (false, 14), (false, 17), (false, 20), (false, 21), (false, 22), (true, 23), (true, 24), (true, 25), (true, 26), (true, 27), (true, 29), (true, 31), (true, 32), (true, 33), (false, 28), (false, 30), (false, 34), (false, 35), (false, 36), (true, 37), (true, 38), (true, 39), (true, 40), (true, 41), (true, 42), (true, 43), (true, 44), (false, 45), (true, 46), (true, 47), (true, 48), (true, 49), (false, 50), (true, 51), (true, 52), (true, 53), (true, 54), (true, 55), (true, 56), (true, 57), (true, 58), (true, 59), (true, 60), (true, 62), (true, 64), (false, 61), (false, 63), (false, 65), (true, 66), (true, 67), (true, 68), (false, 69), (true, 70), (true, 71), (true, 72), (true, 73), (true, 74)] (by kernel_rfl) (by kernel_rfl) (by kernel_rfl) (by kernel_rfl) (by kernel_rfl) (fun d _ _ _ _ h => by cases d <;> exact h) ?_ (fun hHeld => ?_)
      · first | assumption | exact HMK.out _ (Below.refl _ _).drew
      simp only [pickOps, List.append_eq, List.cons_append, List.nil_append, List.getElem?_toArray, List.getElem?_cons_succ, List.getElem?_cons_zero]
      repeat (first | (refine seq_take (v := ?_) (by rfl) ?_ ?_; rotate_left; (· intro w hSw; (try dsimp only at hSw); go_simp; all_goals with_reducible rfl); (try simp only [Act.put, List.setIfInBounds_toArray, List.set_cons_zero, List.set_cons_succ])) | (refine seq_leave (by rfl) ?_; (try simp only [Act.put, List.setIfInBounds_toArray, List.set_cons_zero, List.set_cons_succ])))
      (refine seq_step (by rfl) (fun K hK => ?_); go_simp; (go_at_call 15; (with_reducible refine (add_any _ _ (A) (B) _ (na.below (HBL.out _ (by assumption))) (nb.below (HBL.out _ (by assumption))) (by omega) (by omega)).mono ?_); rintro e w' ⟨r1, rfl, hr1, hb'⟩; have hS := heldS HMK.out HBL.out hb' (by assumption)); (first | refine hK.out _ _ ?_ (fun hHeld => ?_) | (go_wp2_with fail; refine hK.out _ _ ?_ (fun hHeld => ?_))); (· first | assumption | exact HMK.out _ (Below.refl _ _).drew); clear hK K; (try simp only [Act.put, List.setIfInBounds_toArray, List.set_cons_zero, List.set_cons_succ]))
      (refine seq_step (by rfl) (fun K hK => ?_); go_simp; (go_at_call 15; (with_reducible refine (add_any _ _ (B) (A) _ (nb.below (HBL.out _ (by assumption))) (na.below (HBL.out _ (by assumption))) (by omega) (by omega)).mono ?_); rintro e w' ⟨r2, rfl, hr2, hb'⟩; rw [Nat.add_comm] at hr2; replace hr1 := hr1.below hb'; have hS := heldS HMK.out HBL.out hb' (by assumption)); (first | refine hK.out _ _ ?_ (fun hHeld => ?_) | (go_wp2_with fail; refine hK.out _ _ ?_ (fun hHeld => ?_))); (· first | assumption | exact HMK.out _ (Below.refl _ _).drew); clear hK K; (try simp only [Act.put, List.setIfInBounds_toArray, List.set_cons_zero, List.set_cons_succ]))
      (refine seq_step (by rfl) (fun K hK => ?_); go_simp; (go_at_call 33; (with_reducible refine (eq1_any _ _ (A + B) _ hr1 hr2 (by omega)).mono ?_); rintro e w' ⟨rfl, hb'⟩; have hS := heldS HMK.out HBL.out hb' (by assumption)); (first | refine hK.out _ _ ?_ (fun hHeld => ?_) | (go_wp2_with fail; refine hK.out _ _ ?_ (fun hHeld => ?_))); (· first | assumption | exact HMK.out _ (Below.refl _ _).drew); clear hK K; (try simp only [Act.put, List.setIfInBounds_toArray, List.set_cons_zero, List.set_cons_succ]))
      repeat (first | (refine seq_take (v := ?_) (by rfl) ?_ ?_; rotate_left; (· intro w hSw; (try dsimp only at hSw); go_simp; all_goals with_reducible rfl); (try simp only [Act.put, List.setIfInBounds_toArray, List.set_cons_zero, List.set_cons_succ])) | (refine seq_leave (by rfl) ?_; (try simp only [Act.put, List.setIfInBounds_toArray, List.set_cons_zero, List.set_cons_succ])))
      (refine seq_step (by rfl) (fun K hK => ?_); go_simp; (go_at_call 15; (with_reducible refine (add_any _ _ (B) (C) _ (nb.below (HBL.out _ (by assumption))) (nc.below (HBL.out _ (by assumption))) (by omega) (by omega)).mono ?_); rintro e w' ⟨r3, rfl, hr3, hb'⟩; have hS := heldS HMK.out HBL.out hb' (by assumption)); (first | refine hK.out _ _ ?_ (fun hHeld => ?_) | (go_wp2_with fail; refine hK.out _ _ ?_ (fun hHeld => ?_))); (· first | assumption | exact HMK.out _ (Below.refl _ _).drew); clear hK K; (try simp only [Act.put, List.setIfInBounds_toArray, List.set_cons_zero, List.set_cons_succ]))
      (refine seq_step (by rfl) (fun K hK => ?_); go_simp; (go_at_call 36; (with_reducible refine (mul_any _ _ (A) (B + C) _ (na.below (HBL.out _ (by assumption))) hr3 (by omega) (by omega)).mono ?_); rintro e w' ⟨r4, rfl, hr4, hb'⟩; have hS := heldS HMK.out HBL.out hb' (by assumption)); (first | refine hK.out _ _ ?_ (fun hHeld => ?_) | (go_wp2_with fail; refine hK.out _ _ ?_ (fun hHeld => ?_))); (· first | assumption | exact HMK.out _ (Below.refl _ _).drew); clear hK K; (try simp only [Act.put, List.setIfInBounds_toArray, List.set_cons_zero, List.set_cons_succ]))
      (refine seq_step (by rfl) (fun K hK => ?_); go_simp; (go_at_call 36; (with_reducible refine (mul_any _ _ (A) (B) _ (na.below (HBL.out _ (by assumption))) (nb.below (HBL.out _ (by assumption))) (by omega) (by omega)).mono ?_); rintro e w' ⟨r5, rfl, hr5, hb'⟩; replace hr4 := hr4.below hb'; have hS := heldS HMK.out HBL.out hb' (by assumption)); (first | refine hK.out _ _ ?_ (fun hHeld => ?_) | (go_wp2_with fail; refine hK.out _ _ ?_ (fun hHeld => ?_))); (· first | assumption | exact HMK.out _ (Below.refl _ _).drew); clear hK K; (try simp only [Act.put, List.setIfInBounds_toArray, List.set_cons_zero, List.set_cons_succ]))
      (refine seq_step (by rfl) (fun K hK => ?_); go_simp; (go_at_call 36; (with_reducible refine (mul_any _ _ (A) (C) _ (na.below (HBL.out _ (by assumption))) (nc.below (HBL.out _ (by assumption))) (by omega) (by omega)).mono ?_); rintro e w' ⟨r6, rfl, hr6, hb'⟩; replace hr4 := hr4.below hb'; replace hr5 := hr5.below hb'; have hS := heldS HMK.out HBL.out hb' (by assumption)); (first | refine hK.out _ _ ?_ (fun hHeld => ?_) | (go_wp2_with fail; refine hK.out _ _ ?_ (fun hHeld => ?_))); (· first | assumption | exact HMK.out _ (Below.refl _ _).drew); clear hK K; (try simp only [Act.put, List.setIfInBounds_toArray, List.set_cons_zero, List.set_cons_succ]))
      (refine seq_step (by rfl) (fun K hK => ?_); go_simp; (go_at_call 15; (with_reducible refine (add_any _ _ (A * B) (A * C) _ hr5 hr6 (by omega) (by omega)).mono ?_); rintro e w' ⟨r7, rfl, hr7, hb'⟩; replace hr4 := hr4.below hb'; rw [← Nat.mul_add] at hr7; have hS := heldS HMK.out HBL.out hb' (by assumption)); (first | refine hK.out _ _ ?_ (fun hHeld => ?_) | (go_wp2_with fail; refine hK.out _ _ ?_ (fun hHeld => ?_))); (· first | assumption | exact HMK.out _ (Below.refl _ _).drew); clear hK K; (try simp only [Act.put, List.setIfInBounds_toArray, List.set_cons_zero, List.set_cons_succ]))
      (refine seq_step (by rfl) (fun K hK => ?_); go_simp; (go_at_call 33; (with_reducible refine (eq1_any _ _ (A * (B + C)) _ hr4 hr7 (by omega)).mono ?_); rintro e w' ⟨rfl, hb'⟩; have hS := heldS HMK.out HBL.out hb' (by assumption)); (first | refine hK.out _ _ ?_ (fun hHeld => ?_) | (go_wp2_with fail; refine hK.out _ _ ?_ (fun hHeld => ?_))); (· first | assumption | exact HMK.out _ (Below.refl _ _).drew); clear hK K; (try simp only [Act.put, List.setIfInBounds_toArray, List.set_cons_zero, List.set_cons_succ]))
      repeat (first | (refine seq_take (v := ?_) (by rfl) ?_ ?_; rotate_left; (· intro w hSw; (try dsimp only at hSw); go_simp; all_goals with_reducible rfl); (try simp only [Act.put, List.setIfInBounds_toArray, List.set_cons_zero, List.set_cons_succ])) | (refine seq_leave (by rfl) ?_; (try simp only [Act.put, List.setIfInBounds_toArray, List.set_cons_zero, List.set_cons_succ])))
      (refine seq_step (by rfl) (fun K hK => ?_); go_simp; (go_at_call 36; (with_reducible refine (mul_any _ _ (A) (B) _ (na.below (HBL.out _ (by assumption))) (nb.below (HBL.out _ (by assumption))) (by omega) (by omega)).mono ?_); rintro e w' ⟨r8, rfl, hr8, hb'⟩; have hS := heldS HMK.out HBL.out hb' (by assumption)); (first | refine hK.out _ _ ?_ (fun hHeld => ?_) | (go_wp2_with fail; refine hK.out _ _ ?_ (fun hHeld => ?_))); (· first | assumption | exact HMK.out _ (Below.refl _ _).drew); clear hK K; (try simp only [Act.put, List.setIfInBounds_toArray, List.set_cons_zero, List.set_cons_succ]))
      (refine seq_step (by rfl) (fun K hK => ?_); go_simp; (go_at_call 36; (with_reducible refine (mul_any _ _ (A * B) (C) _ hr8 (nc.below (HBL.out _ (by assumption))) (by omega) (by omega)).mono ?_); rintro e w' ⟨r9, rfl, hr9, hb'⟩; have hS := heldS HMK.out HBL.out hb' (by assumption)); (first | refine hK.out _ _ ?_ (fun hHeld => ?_) | (go_wp2_with fail; refine hK.out _ _ ?_ (fun hHeld => ?_))); (· first | assumption | exact HMK.out _ (Below.refl _ _).drew); clear hK K; (try simp only [Act.put, List.setIfInBounds_toArray, List.set_cons_zero, List.set_cons_succ]))
      (refine seq_step (by rfl) (fun K hK => ?_); go_simp; (go_at_call 36; (with_reducible refine (mul_any _ _ (B) (C) _ (nb.below (HBL.out _ (by assumption))) (nc.below (HBL.out _ (by assumption))) (by omega) (by omega)).mono ?_); rintro e w' ⟨r10, rfl, hr10, hb'⟩; replace hr9 := hr9.below hb'; have hS := heldS HMK.out HBL.out hb' (by assumption)); (first | refine hK.out _ _ ?_ (fun hHeld => ?_) | (go_wp2_with fail; refine hK.out _ _ ?_ (fun hHeld => ?_))); (· first | assumption | exact HMK.out _ (Below.refl _ _).drew); clear hK K; (try simp only [Act.put, List.setIfInBounds_toArray, List.set_cons_zero, List.set_cons_succ]))
      (refine seq_step (by rfl) (fun K hK => ?_); go_simp; (go_at_call 36; (with_reducible refine (mul_any _ _ (A) (B * C) _ (na.below (HBL.out _ (by assumption))) hr10 (by omega) (by omega)).mono ?_); rintro e w' ⟨r11, rfl, hr11, hb'⟩; replace hr9 := hr9.below hb'; rw [← Nat.mul_assoc] at hr11; have hS := heldS HMK.out HBL.out hb' (by assumption)); (first | refine hK.out _ _ ?_ (fun hHeld => ?_) | (go_wp2_with fail; refine hK.out _ _ ?_ (fun hHeld => ?_))); (· first | assumption | exact HMK.out _ (Below.refl _ _).drew); clear hK K; (try simp only [Act.put, List.setIfInBounds_toArray, List.set_cons_zero, List.set_cons_succ]))
      (refine seq_step (by rfl) (fun K hK => ?_); go_simp; (go_at_call 33; (with_reducible refine (eq1_any _ _ (A * B * C) _ hr9 hr11 (by omega)).mono ?_); rintro e w' ⟨rfl, hb'⟩; have hS := heldS HMK.out HBL.out hb' (by assumption)); (first | refine hK.out _ _ ?_ (fun hHeld => ?_) | (go_wp2_with fail; refine hK.out _ _ ?_ (fun hHeld => ?_))); (· first | assumption | exact HMK.out _ (Below.refl _ _).drew); clear hK K; (try simp only [Act.put, List.setIfInBounds_toArray, List.set_cons_zero, List.set_cons_succ]))
      repeat (first | (refine seq_take (v := ?_) (by rfl) ?_ ?_; rotate_left; (· intro w hSw; (try dsimp only at hSw); go_simp; all_goals with_reducible rfl); (try simp only [Act.put, List.setIfInBounds_toArray, List.set_cons_zero, List.set_cons_succ])) | (refine seq_leave (by rfl) ?_; (try simp only [Act.put, List.setIfInBounds_toArray, List.set_cons_zero, List.set_cons_succ])))
      (refine seq_step (by rfl) (fun K hK => ?_); go_simp; (go_at_call 33; (with_reducible refine (eq1_any _ _ (A) _ (nv.below (HBL.out _ (by assumption))) (na.below (HBL.out _ (by assumption))) (by omega)).mono ?_); rintro e w' ⟨rfl, hb'⟩; have hS := heldS HMK.out HBL.out hb' (by assumption)); (first | refine hK.out _ _ ?_ (fun hHeld => ?_) | (go_wp2_with fail; refine hK.out _ _ ?_ (fun hHeld => ?_))); (· first | assumption | exact HMK.out _ (Below.refl _ _).drew); clear hK K; (try simp only [Act.put, List.setIfInBounds_toArray, List.set_cons_zero, List.set_cons_succ]))
      repeat (first | (refine seq_take (v := ?_) (by rfl) ?_ ?_; rotate_left; (· intro w hSw; (try dsimp only at hSw); go_simp; all_goals with_reducible rfl); (try simp only [Act.put, List.setIfInBounds_toArray, List.set_cons_zero, List.set_cons_succ])) | (refine seq_leave (by rfl) ?_; (try simp only [Act.put, List.setIfInBounds_toArray, List.set_cons_zero, List.set_cons_succ])))
      (refine seq_step (by rfl) (fun K hK => ?_); go_simp; (go_at_call 12; (with_reducible refine (zero_no _ _ _ (nb.below (HBL.out _ (by assumption))) HB0.out).mono ?_); rintro e w' ⟨rfl, hb'⟩; have hS := heldS HMK.out HBL.out hb' (by assumption)); (first | refine hK.out _ _ ?_ (fun hHeld => ?_) | (go_wp2_with fail; refine hK.out _ _ ?_ (fun hHeld => ?_))); (· first | assumption | exact HMK.out _ (Below.refl _ _).drew); clear hK K; (try simp only [Act.put, List.setIfInBounds_toArray, List.set_cons_zero, List.set_cons_succ]))
      repeat (first | (refine seq_take (v := ?_) (by rfl) ?_ ?_; rotate_left; (· intro w hSw; (try dsimp only at hSw); go_simp; all_goals with_reducible rfl); (try simp only [Act.put, List.setIfInBounds_toArray, List.set_cons_zero, List.set_cons_succ])) | (refine seq_leave (by rfl) ?_; (try simp only [Act.put, List.setIfInBounds_toArray, List.set_cons_zero, List.set_cons_succ])))
      (refine seq_step (by rfl) (fun K hK => ?_); go_simp; (go_at_call 36; (with_reducible refine (mul_any _ _ (A / B) (B) _ (nq.below (HBL.out _ (by assumption))) (nb.below (HBL.out _ (by assumption))) (by omega) (by omega)).mono ?_); rintro e w' ⟨r12, rfl, hr12, hb'⟩; have hS := heldS HMK.out HBL.out hb' (by assumption)); (first | refine hK.out _ _ ?_ (fun hHeld => ?_) | (go_wp2_with fail; refine hK.out _ _ ?_ (fun hHeld => ?_))); (· first | assumption | exact HMK.out _ (Below.refl _ _).drew); clear hK K; (try simp only [Act.put, List.setIfInBounds_toArray, List.set_cons_zero, List.set_cons_succ]))
      (refine seq_step (by rfl) (fun K hK => ?_); go_simp; (go_at_call 15; (with_reducible refine (add_any _ _ (A / B * B) (A % B) _ hr12 (nr.below (HBL.out _ (by assumption))) (by omega) (by omega)).mono ?_); rintro e w' ⟨r13, rfl, hr13, hb'⟩; rw [HDM.out] at hr13; have hS := heldS HMK.out HBL.out hb' (by assumption)); (first | refine hK.out _ _ ?_ (fun hHeld => ?_) | (go_wp2_with fail; refine hK.out _ _ ?_ (fun hHeld => ?_))); (· first | assumption | exact HMK.out _ (Below.refl _ _).drew); clear hK K; (try simp only [Act.put, List.setIfInBounds_toArray, List.set_cons_zero, List.set_cons_succ]))
      (refine seq_step (by rfl) (fun K hK => ?_); go_simp; (go_at_call 33; (with_reducible refine (eq1_any _ _ (A) _ hr13 (na.below (HBL.out _ (by assumption))) (by omega)).mono ?_); rintro e w' ⟨rfl, hb'⟩; have hS := heldS HMK.out HBL.out hb' (by assumption)); (first | refine hK.out _ _ ?_ (fun hHeld => ?_) | (go_wp2_with fail; refine hK.out _ _ ?_ (fun hHeld => ?_))); (· first | assumption | exact HMK.out _ (Below.refl _ _).drew); clear hK K; (try simp only [Act.put, List.setIfInBounds_toArray, List.set_cons_zero, List.set_cons_succ]))
      repeat (first | (refine seq_take (v := ?_) (by rfl) ?_ ?_; rotate_left; (· intro w hSw; (try dsimp only at hSw); go_simp; all_goals with_reducible rfl); (try simp only [Act.put, List.setIfInBounds_toArray, List.set_cons_zero, List.set_cons_succ])) | (refine seq_leave (by rfl) ?_; (try simp only [Act.put, List.setIfInBounds_toArray, List.set_cons_zero, List.set_cons_succ])))
      (refine seq_step (by rfl) (fun K hK => ?_); go_simp; (go_at_call 34; (with_reducible refine (cmp_any _ _ (A % B) B _ (nr.below (HBL.out _ (by assumption))) (nb.below (HBL.out _ (by assumption)))).mono ?_); rintro e w' ⟨rfl, hb'⟩; rw [HCM.out]; have hS := heldS HMK.out HBL.out hb' (by assumption)); (first | refine hK.out _ _ ?_ (fun hHeld => ?_) | (go_wp2_with fail; refine hK.out _ _ ?_ (fun hHeld => ?_))); (· first | assumption | exact HMK.out _ (Below.refl _ _).drew); clear hK K; (try simp only [Act.put, List.setIfInBounds_toArray, List.set_cons_zero, List.set_cons_succ]))
      repeat (first | (refine seq_take (v := ?_) (by rfl) ?_ ?_; rotate_left; (· intro w hSw; (try dsimp only at hSw); go_simp; all_goals with_reducible rfl); (try simp only [Act.put, List.setIfInBounds_toArray, List.set_cons_zero, List.set_cons_succ])) | (refine seq_leave (by rfl) ?_; (try simp only [Act.put, List.setIfInBounds_toArray, List.set_cons_zero, List.set_cons_succ])))
      refine seq_end ?_
      go_wp2
      go_ret
      exact ⟨rfl, hbf.trans (hHeld.2.2.2.2.2.2.mono hbf.size)⟩


set_option maxRecDepth 100000 in
set_option maxHeartbeats 1000000 in
theorem natLaws_early (l m n : List UInt8) (h : 200 < l.length ∨ 200 < m.length ∨ 200 < n.length) (w : World) :
    Calls Tryd.prog 7 #[.string ⟨l.toArray⟩, .string ⟨m.toArray⟩, .string ⟨n.toArray⟩] w fun e w' => e = .returned (.bool true) ∧ Below w.heap.size w w' := by
  by_cases h1 : 200 < l.length
  · clear h
    go_enter Tryd.func7, Tryd.ntmps7
    go_wp2_with (go_at_call 10; refine (alive_any _).mono ?_; rintro e w' ⟨rfl, hb⟩)
    go_ret
    exact ⟨rfl, hb⟩
  · by_cases h2 : 200 < m.length
    · clear h
      go_enter Tryd.func7, Tryd.ntmps7
      go_wp2_with (go_at_call 10; refine (alive_any _).mono ?_; rintro e w' ⟨rfl, hb⟩)
      go_ret
      exact ⟨rfl, hb⟩
    · have h3 : 200 < n.length := by omega
      clear h
      go_enter Tryd.func7, Tryd.ntmps7
      go_wp2_with (go_at_call 10; refine (alive_any _).mono ?_; rintro e w' ⟨rfl, hb⟩)
      go_ret
      exact ⟨rfl, hb⟩

set_option maxRecDepth 100000 in
theorem natLaws_walk (a0 a1 a2 : ByteArray) (w0 : a0.size ≤ maxLen) (w1 : a1.size ≤ maxLen) (w2 : a2.size ≤ maxLen) (w : World) :
    Calls Tryd.prog 7 #[.string a0, .string a1, .string a2] w fun e w' => e = .returned (.bool true) ∧ Below w.heap.size w w' := by
  obtain ⟨l, rfl, _⟩ := bytes_of a0
  obtain ⟨m, rfl, _⟩ := bytes_of a1
  obtain ⟨n, rfl, _⟩ := bytes_of a2
  by_cases h : 200 < l.length ∨ 200 < m.length ∨ 200 < n.length
  · exact natLaws_early l m n h w
  · exact natLaws_main l m n (by omega) (by omega) (by omega) w

end Go.Proofs.YtegneoaoodddoaaDoor

