/-
  NatShifts: the walk.
-/
import Derived.Test.YtegneoaoodddoaaDoorLawF
import Derived.Test.YtegneoaoodddoaaDoorNatN5
namespace Go.Proofs.YtegneoaoodddoaaDoor
open Go.RowKit
set_option linter.unusedVariables false
set_option linter.unusedSimpArgs false
attribute [local go_sem] field_nat

theorem cmp_same (va vb : Value) (a : Nat) (w : World) (ha : NatIs w va a) (hb : NatIs w vb a) :
    Calls Tryd.prog 34 #[va, vb] w fun e w' => e = .returned (.int .i64 0) ∧ Below w.heap.size w w' := by
  have := cmp_any va vb a a w ha hb
  unfold cmpI at this
  rwa [if_neg (Nat.lt_irrefl a), if_neg (Nat.lt_irrefl a)] at this
theorem shift_down (va : Value) (a s : Nat) (w : World) (ha : NatIs w va a) (hla : (limbs a).length ≤ 1000000) (hs : s ≤ 20000) :
    Calls Tryd.prog 30 #[va, .int .i64 (-(s : Int))] w fun e w' => ∃ r, e = .returned r ∧ NatIs w' r (a / 2 ^ s) ∧ Below w.heap.size w w' := by
  rcases Nat.eq_zero_or_pos s with rfl | h0
  · have := shift_any va a 0 w ha hla (by omega)
    simpa using this
  · exact shift_neg va a s w ha hla (by omega) h0
theorem blen_shift {a : Nat} (h : 0 < a) (k : Nat) : blen (a * 2 ^ k) = blen a + k := by
  have h1 := two_blen_le h
  have h2 := lt_two_blen a
  have h3 := blen_pos h
  have h4 := blen_unique (n := a * 2 ^ k) (k := blen a - 1 + k) (by rw [Nat.pow_add]; exact Nat.mul_le_mul_right _ h1) (by
    rw [show blen a - 1 + k + 1 = blen a + k by omega, Nat.pow_add]
    exact Nat.mul_lt_mul_of_pos_right h2 (Nat.two_pow_pos k))
  omega
theorem pow_two (va : Value) (k : Nat) (w : World) (ha : NatIs w va 2) (hla : (limbs 2).length ≤ 100000) (hk : k ≤ 5000) :
    Calls Tryd.prog 27 #[va, .int .i64 (k : Int)] w fun e w' => ∃ r, e = .returned (.tuple #[r, .int .i64 0]) ∧ NatIs w' r (2 ^ k) ∧ Below w.heap.size w w' := by
  have h := pow_any va 2 (k : Int) w ha hla
  have hb : blen (2 ^ k) = k + 1 := blen_unique (Nat.le_refl _) (Nat.pow_lt_pow_right (by decide) (by omega))
  have hc : powC 2 (k : Int) = 0 := by unfold powC; rw [if_neg (by omega), if_neg]; rw [Int.toNat_natCast, hb]; omega
  have hv : powV 2 (k : Int) = 2 ^ k := by unfold powV; rw [hc, if_pos rfl, Int.toNat_natCast]
  unfold PowPost at h
  rwa [hc, hv] at h

set_option maxRecDepth 100000 in
set_option maxHeartbeats 1000000 in
theorem natShifts_early (l : List UInt8) (n : Int) (h : 200 < l.length ∨ n < 0 ∨ 500 < n) (w : World) :
    Calls Tryd.prog 8 #[.string ⟨l.toArray⟩, .int .i64 n] w fun e w' => e = .returned (.bool true) ∧ Below w.heap.size w w' := by
  by_cases h1 : 200 < l.length
  · clear h
    go_enter Tryd.func8, Tryd.ntmps8
    go_wp2_with (go_at_call 10; (with_reducible refine (alive_any _).mono ?_); rintro e w' ⟨rfl, hb⟩)
    go_ret
    exact ⟨rfl, hb⟩
  · by_cases h2 : n < 0
    · clear h
      go_enter Tryd.func8, Tryd.ntmps8
      go_wp2_with (go_at_call 10; (with_reducible refine (alive_any _).mono ?_); rintro e w' ⟨rfl, hb⟩)
      go_ret
      exact ⟨rfl, hb⟩
    · have h3 : 500 < n := by omega
      clear h
      go_enter Tryd.func8, Tryd.ntmps8
      go_wp2_with (go_at_call 10; (with_reducible refine (alive_any _).mono ?_); rintro e w' ⟨rfl, hb⟩)
      go_ret
      exact ⟨rfl, hb⟩

set_option maxRecDepth 100000 in
set_option maxHeartbeats 2000000 in
theorem natShifts_main (l : List UInt8) (k : Nat) (h1 : l.length ≤ 200) (h3 : k ≤ 500) (w : World) :
    Calls Tryd.prog 8 #[.string ⟨l.toArray⟩, .int .i64 (k : Int)] w fun e w' => e = .returned (.bool true) ∧ Below w.heap.size w w' := by
  go_enter Tryd.func8, Tryd.ntmps8
  go_wp2_with fail
  refine (alive_any _).mono ?_
  rintro e w1 ⟨rfl, hb⟩
  have hbf := hb
  clear hb
  go_wp2_with fail
  refine (parse_any l _ (by omega)).mono ?_
  rintro e w2 ⟨rv, rfl, hn, hb⟩
  replace hbf := hbf.trans (hb.mono hbf.size)
  clear hb
  have hlA := pval_limbs (l := l) (by omega)
  obtain ⟨c, hc⟩ : ∃ c, c = pcode l := ⟨_, rfl⟩
  obtain ⟨A, hA⟩ : ∃ A, A = pval l := ⟨_, rfl⟩
  rw [← hA] at hn hlA
  rw [← hc]
  clear hc hA
  obtain ⟨sv, rfl, ⟨ao, al, ac, rfl⟩, hba, hb, na⟩ := box_nat hn
  obtain ⟨w3, hwE⟩ : ∃ w3, w3 = w2.alloc (.cells #[Value.slice ao al ac] 25) := ⟨_, rfl⟩
  rw [← hwE] at hba hb na
  obtain ⟨pa, hpE⟩ : ∃ p, p = w2.heap.size := ⟨_, rfl⟩
  have HW := Lib.hid hwE; clear hwE hn
  go_upto_region 4 with fail
  rw [← HW.out]
  rw [← hpE] at hba ⊢
  clear hpE HW
  replace hbf := hbf.trans (hb.mono hbf.size)
  clear hb
  by_cases hc : c = 0
  case neg =>
    go_wp2
    go_ret
    exact ⟨rfl, hbf⟩
  subst hc
  go_wp2_with fail
  refine (of_any 2 _ (by omega)).mono ?_
  rintro e w4 ⟨rv, rfl, hn, hb⟩
  replace hba := hba.kept hb
  replace na := na.below hb
  replace hbf := hbf.trans (hb.mono hbf.size)
  clear hb
  have hl2 : (limbs 2).length ≤ 100000 := Nat.le_trans (limbs_length_le (k := 1) (by omega)) (by omega)
  go_wp2_with fail
  refine (pow_two _ k _ hn hl2 (by omega)).mono ?_
  rintro e w5 ⟨rv2, rfl, hm, hb⟩
  replace hba := hba.kept hb
  replace na := na.below hb
  replace hbf := hbf.trans (hb.mono hbf.size)
  clear hb
  obtain ⟨M, hM⟩ : ∃ M, M = 2 ^ k := ⟨_, rfl⟩
  have hlM : (limbs M).length ≤ 1000 := by rw [hM]; exact limbs_two (Nat.le_refl _) (by omega)
  rw [← hM] at hm
  have HM := Lib.hid hM; clear hM hn
  obtain ⟨sv, rfl, ⟨mo, ml, mc, rfl⟩, hbm, hb, nm⟩ := box_nat hm
  obtain ⟨w6, hwE⟩ : ∃ w3, w3 = w5.alloc (.cells #[Value.slice mo ml mc] 25) := ⟨_, rfl⟩
  rw [← hwE] at hbm hb nm
  obtain ⟨pm, hpE⟩ : ∃ p, p = w5.heap.size := ⟨_, rfl⟩
  have HW := Lib.hid hwE; clear hwE hm
  go_upto_region 7 with fail
  rw [← HW.out]
  rw [← hpE] at hbm ⊢
  clear hpE HW
  replace hba := hba.kept hb
  replace na := na.below hb
  replace hbf := hbf.trans (hb.mono hbf.size)
  clear hb
  have ea := hba.cell
  go_wp2_with fail
  refine (shift_any _ A k _ na (by omega) (by omega)).mono ?_
  rintro e w7 ⟨rv, rfl, hn, hb⟩
  clear ea
  replace hba := hba.kept hb
  replace na := na.below hb
  replace hbm := hbm.kept hb
  replace nm := nm.below hb
  replace hbf := hbf.trans (hb.mono hbf.size)
  clear hb
  rw [← HM.out] at hn
  have hlU : (limbs (A * M)).length ≤ 1000000 := by
    rw [HM.out]
    have h1 := lt_two_blen A
    have h2 := blen_bound hlA
    exact Nat.le_trans (limbs_two (m := blen A + k) (K := 2000) (by rw [Nat.pow_add]; exact Nat.mul_le_mul_right _ (Nat.le_of_lt h1)) (by omega)) (by omega)
  have hM0 : ¬ M = 0 := by rw [HM.out]; exact Nat.ne_of_gt (Nat.two_pow_pos k)
  have HM0 : Hid (¬ M = 0) := Lib.hid hM0
  have HD : Hid (decide (M ≠ 0) = true) := Lib.hid (decide_eq_true hM0)
  have hbu : 0 < A → blen (A * M) = blen A + k := fun h => by rw [HM.out]; exact blen_shift h k
  have HBU := Lib.hid hbu
  have hquo : A * M / 2 ^ k = A := by rw [← HM.out]; exact Nat.mul_div_cancel _ (by omega)
  have HQ := Lib.hid hquo
  have hq2 : A / 2 ^ k = A / M := by rw [HM.out]
  have HQ2 := Lib.hid hq2
  have hbA := blen_bound hlA
  clear hM0 hbu hquo hq2
  obtain ⟨sv, rfl, ⟨uo, ul, uc, rfl⟩, hbu, hb, nu⟩ := box_nat hn
  obtain ⟨w8, hwE⟩ : ∃ w3, w3 = w7.alloc (.cells #[Value.slice uo ul uc] 25) := ⟨_, rfl⟩
  rw [← hwE] at hbu hb nu
  obtain ⟨pu, hpE⟩ : ∃ p, p = w7.heap.size := ⟨_, rfl⟩
  have HW := Lib.hid hwE; clear hwE hn
  go_upto_region 8 with fail
  rw [← HW.out]
  rw [← hpE] at hbu ⊢
  clear hpE HW
  replace hba := hba.kept hb
  replace na := na.below hb
  replace hbm := hbm.kept hb
  replace nm := nm.below hb
  replace hbf := hbf.trans (hb.mono hbf.size)
  clear hb
  have ea := hba.cell
  have em := hbm.cell
  go_wp2_with fail
  refine (divmod_any _ _ A M _ na nm (by omega) (by omega)).mono ?_
  rintro e w9 ⟨q, s, rfl, hq, hs, hb⟩
  clear ea em
  replace hba := hba.kept hb
  replace na := na.below hb
  replace hbm := hbm.kept hb
  replace nm := nm.below hb
  replace hbu := hbu.kept hb
  replace nu := nu.below hb
  replace hbf := hbf.trans (hb.mono hbf.size)
  clear hb
  rw [HD.out]
  obtain ⟨sv, tv, rfl, rfl, ⟨qo, ql, qc, rfl⟩, ⟨ro, rl, rc, rfl⟩, hbq, hbr, hb, nq, nr⟩ := box_nat2 hq hs
  obtain ⟨w10, hwE⟩ : ∃ w3, w3 = (w9.alloc (.cells #[Value.slice qo ql qc] 25)).alloc (.cells #[Value.slice ro rl rc] 25) := ⟨_, rfl⟩
  rw [← hwE] at hbq hbr hb nq nr
  obtain ⟨pq, hpE⟩ : ∃ p, p = w9.heap.size := ⟨_, rfl⟩
  obtain ⟨pr, hqE⟩ : ∃ p, p = w9.heap.size + 1 := ⟨_, rfl⟩
  have HW := Lib.hid hwE; clear hwE hq hs
  go_upto_region 9 with fail
  rw [← HW.out]
  rw [← hqE] at hbr ⊢
  rw [← hpE] at hbq ⊢
  clear hpE hqE HW
  replace hba := hba.kept hb
  replace na := na.below hb
  replace hbm := hbm.kept hb
  replace nm := nm.below hb
  replace hbu := hbu.kept hb
  replace nu := nu.below hb
  replace hbf := hbf.trans (hb.mono hbf.size)
  clear hb
  have ea := hba.cell
  go_wp2_with fail
  refine (bits_any _ A _ na (by omega)).mono ?_
  rintro e w11 ⟨rfl, hb⟩
  clear ea
  replace hba := hba.kept hb
  replace na := na.below hb
  replace hbm := hbm.kept hb
  replace nm := nm.below hb
  replace hbu := hbu.kept hb
  replace nu := nu.below hb
  replace hbq := hbq.kept hb
  replace nq := nq.below hb
  replace hbr := hbr.kept hb
  replace nr := nr.below hb
  replace hbf := hbf.trans (hb.mono hbf.size)
  clear hb
  obtain ⟨n, hn⟩ : ∃ n, n = blen A := ⟨_, rfl⟩
  rw [← hn] at hbA ⊢
  have HN := Lib.hid hn; clear hn
  by_cases hA0 : A = 0
  case' pos => have hz := decide_eq_true hA0
  case' neg => have hz := decide_eq_false hA0
  case pos =>
    have HZ := Lib.hid hz
    have HA0 : Hid (A = 0) := Lib.hid hA0
    clear hz hA0
    have ea := hba.cell
    go_wp2_with fail
    refine (zero_any _ A _ na).mono ?_
    rintro e w12 ⟨rfl, hb⟩
    clear ea
    replace hba := hba.kept hb
    replace na := na.below hb
    replace hbm := hbm.kept hb
    replace nm := nm.below hb
    replace hbu := hbu.kept hb
    replace nu := nu.below hb
    replace hbq := hbq.kept hb
    replace nq := nq.below hb
    replace hbr := hbr.kept hb
    replace nr := nr.below hb
    replace hbf := hbf.trans (hb.mono hbf.size)
    clear hb
    rw [HZ.out]
    have hneg : IntKind.i64.wrap (-(k : Int)) = -(k : Int) := IntWalk.i64_in _ (by omega)
    go_upto_region 12 with fail
    have ea := hba.cell
    have em := hbm.cell
    have eu := hbu.cell
    have eq := hbq.cell
    have HMK : Hid (∀ w', Below w12.heap.size w12 w' → w'.cell? ⟨pa, 0, none⟩ = some (Value.slice ao al ac) ∧ w'.cell? ⟨pm, 0, none⟩ = some (Value.slice mo ml mc) ∧ w'.cell? ⟨pu, 0, none⟩ = some (Value.slice uo ul uc) ∧ w'.cell? ⟨pq, 0, none⟩ = some (Value.slice qo ql qc) ∧ Below w12.heap.size w12 w') := Lib.hid (fun w' hb => ⟨(hb.cell (p := ⟨pa, 0, none⟩) (World.block_lt_of_cell? w12 ⟨pa, 0, none⟩ ea)).trans ea, (hb.cell (p := ⟨pm, 0, none⟩) (World.block_lt_of_cell? w12 ⟨pm, 0, none⟩ em)).trans em, (hb.cell (p := ⟨pu, 0, none⟩) (World.block_lt_of_cell? w12 ⟨pu, 0, none⟩ eu)).trans eu, (hb.cell (p := ⟨pq, 0, none⟩) (World.block_lt_of_cell? w12 ⟨pq, 0, none⟩ eq)).trans eq, hb⟩)
    have HBL : Hid (∀ w', (w'.cell? ⟨pa, 0, none⟩ = some (Value.slice ao al ac) ∧ w'.cell? ⟨pm, 0, none⟩ = some (Value.slice mo ml mc) ∧ w'.cell? ⟨pu, 0, none⟩ = some (Value.slice uo ul uc) ∧ w'.cell? ⟨pq, 0, none⟩ = some (Value.slice qo ql qc) ∧ Below w12.heap.size w12 w') → Below w12.heap.size w12 w') := Lib.hid (fun w' h => h.2.2.2.2)
    clear ea em eu eq
    go_wp2_with fail
    refine wp_region_seq (S := fun w' => w'.cell? ⟨pa, 0, none⟩ = some (Value.slice ao al ac) ∧ w'.cell? ⟨pm, 0, none⟩ = some (Value.slice mo ml mc) ∧ w'.cell? ⟨pu, 0, none⟩ = some (Value.slice uo ul uc) ∧ w'.cell? ⟨pq, 0, none⟩ = some (Value.slice qo ql qc) ∧ Below w12.heap.size w12 w') [(true, 0), (true, 1), (true, 2), (true, 3), (true, 4), (true, 5), (true, 6), (true, 7), (true, 8), (true, 10), (false, 9), (false, 11), (true, 12), (true, 13), (true, 14), (true, 15), (true, 16), (true, 17), (false, 18), (false, 19), (true, 20), (true, 21), (true, 22), (true, 23), (true, 24), (true, 25), (true, 27), (false, 26), (false, 28), (true, 29), (true, 30), (true, 31)] (by kernel_rfl) (by kernel_rfl) (by kernel_rfl) (by kernel_rfl) (by kernel_rfl) (fun d _ _ _ _ h => by cases d <;> exact h) ?_ (fun hHeld => ?_)
    · first | assumption | exact HMK.out _ (Below.refl _ _).drew
    simp only [pickOps, List.append_eq, List.cons_append, List.nil_append, List.getElem?_toArray, List.getElem?_cons_succ, List.getElem?_cons_zero]
    repeat (first
      | (refine seq_take (v := ?_) (by rfl) ?_ ?_; rotate_left; (· intro w hSw; (try dsimp only at hSw); go_simp; all_goals with_reducible rfl); (try simp only [Act.put, List.setIfInBounds_toArray, List.set_cons_zero, List.set_cons_succ]))
      | (refine seq_leave (by rfl) ?_; (try simp only [Act.put, List.setIfInBounds_toArray, List.set_cons_zero, List.set_cons_succ]))
      | (refine seq_pass (by rfl) (by assumption) ?_; (try simp only [Act.put, List.setIfInBounds_toArray, List.set_cons_zero, List.set_cons_succ]))
      | (refine seq_step (by rfl) (fun K hK => ?_); go_simp; (first
            | (go_at_call_of 30 (Value.agg #[Value.slice uo ul uc]); (with_reducible refine (shift_down _ (A * M) k _ (nu.below (HBL.out _ (by assumption))) hlU (by omega)).mono ?_); rintro e w' ⟨r1, rfl, hn1, hb'⟩; rw [HQ.out] at hn1; have hS := heldS HMK.out HBL.out hb' (by assumption))
            | (go_at_call_of 30 (Value.agg #[Value.slice ao al ac]); (with_reducible refine (shift_down _ A k _ (na.below (HBL.out _ (by assumption))) (by omega) (by omega)).mono ?_); rintro e w' ⟨r3, rfl, hn3, hb'⟩; rw [HQ2.out] at hn3; have hS := heldS HMK.out HBL.out hb' (by assumption))
            | (go_at_call 36; (with_reducible refine (mul_any _ _ A M _ (na.below (HBL.out _ (by assumption))) (nm.below (HBL.out _ (by assumption))) (by omega) (by omega)).mono ?_); rintro e w' ⟨r2, rfl, hn2, hb'⟩; have hS := heldS HMK.out HBL.out hb' (by assumption))
            | (go_at_call 34; (with_reducible refine (cmp_same _ _ A _ (by assumption) (na.below (HBL.out _ (by assumption)))).mono ?_); rintro e w' ⟨rfl, hb'⟩; have hS := heldS HMK.out HBL.out hb' (by assumption))
            | (go_at_call 34; (with_reducible refine (cmp_same _ _ (A * M) _ (nu.below (HBL.out _ (by assumption))) (by assumption)).mono ?_); rintro e w' ⟨rfl, hb'⟩; have hS := heldS HMK.out HBL.out hb' (by assumption))
            | (go_at_call 34; (with_reducible refine (cmp_same _ _ (A / M) _ (by assumption) (nq.below (HBL.out _ (by assumption)))).mono ?_); rintro e w' ⟨rfl, hb'⟩; have hS := heldS HMK.out HBL.out hb' (by assumption))); (first | refine hK.out _ _ ?_ (fun hHeld => ?_) | (go_wp2_with fail; refine hK.out _ _ ?_ (fun hHeld => ?_))); (· first | assumption | exact HMK.out _ (Below.refl _ _).drew); clear hK K; (try simp only [Act.put, List.setIfInBounds_toArray, List.set_cons_zero, List.set_cons_succ])))
    refine seq_end ?_
    go_wp2
    go_ret
    exact ⟨rfl, hbf.trans (hHeld.2.2.2.2.mono hbf.size)⟩
  case neg =>
    have HZ := Lib.hid hz
    have HA0 : Hid (¬ A = 0) := Lib.hid hA0
    clear hz hA0
    have ea := hba.cell
    go_wp2_with fail
    refine (zero_any _ A _ na).mono ?_
    rintro e w12 ⟨rfl, hb⟩
    clear ea
    replace hba := hba.kept hb
    replace na := na.below hb
    replace hbm := hbm.kept hb
    replace nm := nm.below hb
    replace hbu := hbu.kept hb
    replace nu := nu.below hb
    replace hbq := hbq.kept hb
    replace nq := nq.below hb
    replace hbr := hbr.kept hb
    replace nr := nr.below hb
    replace hbf := hbf.trans (hb.mono hbf.size)
    clear hb
    rw [HZ.out]
    have eu := hbu.cell
    go_wp2_with fail
    refine (bits_any _ (A * M) _ nu (by omega)).mono ?_
    rintro e w13 ⟨rfl, hb⟩
    clear eu
    replace hba := hba.kept hb
    replace na := na.below hb
    replace hbm := hbm.kept hb
    replace nm := nm.below hb
    replace hbu := hbu.kept hb
    replace nu := nu.below hb
    replace hbq := hbq.kept hb
    replace nq := nq.below hb
    replace hbr := hbr.kept hb
    replace nr := nr.below hb
    replace hbf := hbf.trans (hb.mono hbf.size)
    clear hb
    rw [HBU.out (by have := HA0.out; omega), ← HN.out]
    have hsum : IntKind.i64.wrap ((n : Int) + (k : Int)) = (n : Int) + (k : Int) := IntWalk.i64_in _ (by omega)
    have hbne : (((n + k : Nat) : Int) != (n : Int) + (k : Int)) = false := by simp
    have hneg : IntKind.i64.wrap (-(k : Int)) = -(k : Int) := IntWalk.i64_in _ (by omega)
    go_upto_region 12 with fail
    have ea := hba.cell
    have em := hbm.cell
    have eu := hbu.cell
    have eq := hbq.cell
    have HMK : Hid (∀ w', Below w13.heap.size w13 w' → w'.cell? ⟨pa, 0, none⟩ = some (Value.slice ao al ac) ∧ w'.cell? ⟨pm, 0, none⟩ = some (Value.slice mo ml mc) ∧ w'.cell? ⟨pu, 0, none⟩ = some (Value.slice uo ul uc) ∧ w'.cell? ⟨pq, 0, none⟩ = some (Value.slice qo ql qc) ∧ Below w13.heap.size w13 w') := Lib.hid (fun w' hb => ⟨(hb.cell (p := ⟨pa, 0, none⟩) (World.block_lt_of_cell? w13 ⟨pa, 0, none⟩ ea)).trans ea, (hb.cell (p := ⟨pm, 0, none⟩) (World.block_lt_of_cell? w13 ⟨pm, 0, none⟩ em)).trans em, (hb.cell (p := ⟨pu, 0, none⟩) (World.block_lt_of_cell? w13 ⟨pu, 0, none⟩ eu)).trans eu, (hb.cell (p := ⟨pq, 0, none⟩) (World.block_lt_of_cell? w13 ⟨pq, 0, none⟩ eq)).trans eq, hb⟩)
    have HBL : Hid (∀ w', (w'.cell? ⟨pa, 0, none⟩ = some (Value.slice ao al ac) ∧ w'.cell? ⟨pm, 0, none⟩ = some (Value.slice mo ml mc) ∧ w'.cell? ⟨pu, 0, none⟩ = some (Value.slice uo ul uc) ∧ w'.cell? ⟨pq, 0, none⟩ = some (Value.slice qo ql qc) ∧ Below w13.heap.size w13 w') → Below w13.heap.size w13 w') := Lib.hid (fun w' h => h.2.2.2.2)
    clear ea em eu eq
    go_wp2_with fail
    refine wp_region_seq (S := fun w' => w'.cell? ⟨pa, 0, none⟩ = some (Value.slice ao al ac) ∧ w'.cell? ⟨pm, 0, none⟩ = some (Value.slice mo ml mc) ∧ w'.cell? ⟨pu, 0, none⟩ = some (Value.slice uo ul uc) ∧ w'.cell? ⟨pq, 0, none⟩ = some (Value.slice qo ql qc) ∧ Below w13.heap.size w13 w') [(true, 0), (true, 1), (true, 2), (true, 3), (true, 4), (true, 5), (true, 6), (true, 7), (true, 8), (true, 10), (false, 9), (false, 11), (true, 12), (true, 13), (true, 14), (true, 15), (true, 16), (true, 17), (false, 18), (false, 19), (true, 20), (true, 21), (true, 22), (true, 23), (true, 24), (true, 25), (true, 27), (false, 26), (false, 28), (true, 29), (true, 30), (true, 31)] (by kernel_rfl) (by kernel_rfl) (by kernel_rfl) (by kernel_rfl) (by kernel_rfl) (fun d _ _ _ _ h => by cases d <;> exact h) ?_ (fun hHeld => ?_)
    · first | assumption | exact HMK.out _ (Below.refl _ _).drew
    simp only [pickOps, List.append_eq, List.cons_append, List.nil_append, List.getElem?_toArray, List.getElem?_cons_succ, List.getElem?_cons_zero]
    repeat (first
      | (refine seq_take (v := ?_) (by rfl) ?_ ?_; rotate_left; (· intro w hSw; (try dsimp only at hSw); go_simp; all_goals with_reducible rfl); (try simp only [Act.put, List.setIfInBounds_toArray, List.set_cons_zero, List.set_cons_succ]))
      | (refine seq_leave (by rfl) ?_; (try simp only [Act.put, List.setIfInBounds_toArray, List.set_cons_zero, List.set_cons_succ]))
      | (refine seq_pass (by rfl) (by assumption) ?_; (try simp only [Act.put, List.setIfInBounds_toArray, List.set_cons_zero, List.set_cons_succ]))
      | (refine seq_step (by rfl) (fun K hK => ?_); go_simp; (first
            | (go_at_call_of 30 (Value.agg #[Value.slice uo ul uc]); (with_reducible refine (shift_down _ (A * M) k _ (nu.below (HBL.out _ (by assumption))) hlU (by omega)).mono ?_); rintro e w' ⟨r1, rfl, hn1, hb'⟩; rw [HQ.out] at hn1; have hS := heldS HMK.out HBL.out hb' (by assumption))
            | (go_at_call_of 30 (Value.agg #[Value.slice ao al ac]); (with_reducible refine (shift_down _ A k _ (na.below (HBL.out _ (by assumption))) (by omega) (by omega)).mono ?_); rintro e w' ⟨r3, rfl, hn3, hb'⟩; rw [HQ2.out] at hn3; have hS := heldS HMK.out HBL.out hb' (by assumption))
            | (go_at_call 36; (with_reducible refine (mul_any _ _ A M _ (na.below (HBL.out _ (by assumption))) (nm.below (HBL.out _ (by assumption))) (by omega) (by omega)).mono ?_); rintro e w' ⟨r2, rfl, hn2, hb'⟩; have hS := heldS HMK.out HBL.out hb' (by assumption))
            | (go_at_call 34; (with_reducible refine (cmp_same _ _ A _ (by assumption) (na.below (HBL.out _ (by assumption)))).mono ?_); rintro e w' ⟨rfl, hb'⟩; have hS := heldS HMK.out HBL.out hb' (by assumption))
            | (go_at_call 34; (with_reducible refine (cmp_same _ _ (A * M) _ (nu.below (HBL.out _ (by assumption))) (by assumption)).mono ?_); rintro e w' ⟨rfl, hb'⟩; have hS := heldS HMK.out HBL.out hb' (by assumption))
            | (go_at_call 34; (with_reducible refine (cmp_same _ _ (A / M) _ (by assumption) (nq.below (HBL.out _ (by assumption)))).mono ?_); rintro e w' ⟨rfl, hb'⟩; have hS := heldS HMK.out HBL.out hb' (by assumption))); (first | refine hK.out _ _ ?_ (fun hHeld => ?_) | (go_wp2_with fail; refine hK.out _ _ ?_ (fun hHeld => ?_))); (· first | assumption | exact HMK.out _ (Below.refl _ _).drew); clear hK K; (try simp only [Act.put, List.setIfInBounds_toArray, List.set_cons_zero, List.set_cons_succ])))
    refine seq_end ?_
    go_wp2
    go_ret
    exact ⟨rfl, hbf.trans (hHeld.2.2.2.2.mono hbf.size)⟩

set_option maxRecDepth 100000 in
theorem natShifts_walk (a0 : ByteArray) (a1 : Int) (w0 : a0.size ≤ maxLen) (w1 : (Lit.int .i64 a1).wf = true) (w : World) :
    Calls Tryd.prog 8 #[.string a0, .int .i64 a1] w fun e w' => e = .returned (.bool true) ∧ Below w.heap.size w w' := by
  obtain ⟨l, rfl, _⟩ := bytes_of a0
  by_cases h : 200 < l.length ∨ a1 < 0 ∨ 500 < a1
  · exact natShifts_early l a1 h w
  · obtain ⟨k, rfl⟩ : ∃ k : Nat, a1 = (k : Int) := ⟨a1.toNat, by omega⟩
    exact natShifts_main l k (by omega) (by omega) w
end Go.Proofs.YtegneoaoodddoaaDoor

