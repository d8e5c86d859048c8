/-
  DecFinite: the walk.
-/
import Derived.Test.YtkghahehkeaikaaDoorLawEA
import Derived.Deep.DeepCutAuto
import Derived.WalkMore
import Derived.Laws.StructEq
import Derived.Laws.Bits64b
namespace Go.Proofs.YtkghahehkeaikaaDoor
open Go.RowKit
set_option linter.unusedVariables false
set_option linter.unusedSimpArgs false
attribute [local go_sem] field_nat

theorem band_i64 (x : Int) (m : Nat) (hm : m < 9223372036854775808) : bits .and .i64 x (m : Int) = (((x % 18446744073709551616).toNat &&& m : Nat) : Int) := by
  obtain ⟨a, ha⟩ := Int.eq_ofNat_of_zero_le (Int.emod_nonneg x (show (18446744073709551616 : Int) ≠ 0 by decide))
  have hlt : a < 18446744073709551616 := by omega
  have e : BitVec.ofInt 64 x = BitVec.ofInt 64 (a : Int) := by
    apply BitVec.eq_of_toInt_eq
    simp only [BitVec.toInt_ofInt, Int.bmod_def]
    omega
  have e1 : bits .and .i64 x (m : Int) = IntKind.i64.wrap (bits .and .u64 (a : Int) (m : Int)) := by
    simp only [bits, IntKind.bits] at *
    rw [e]
    congr 1
    have h9 := (BitVec.ofInt 64 (a : Int) &&& BitVec.ofInt 64 (m : Int)).isLt
    exact (IntWalk.u64_in _ ⟨by omega, by omega⟩).symm
  rw [e1, ha, bits_and_u64_nat a m hlt (by omega)]
  have h9 : a &&& m ≤ m := Nat.and_le_right
  exact IntWalk.i64_in _ ⟨by omega, by omega⟩
theorem band_three (x : Int) : bits .and .i64 x 3 = x % 4 := by
  have h1 : bits .and .i64 x 3 = (((x % 18446744073709551616).toNat &&& (2 ^ 2 - 1) : Nat) : Int) := band_i64 x 3 (by decide)
  rw [h1, Nat.and_two_pow_sub_one_eq_mod, Int.natCast_emod, Int.toNat_of_nonneg (Int.emod_nonneg _ (by decide))]
  omega
theorem npow_ok (va : Value) (a k : Nat) (w : World) (ha : NatIs w va a) (h1 : a ≤ 10) (hk : k ≤ 100) :
    Calls Tryd.prog 6 #[va, .int .i64 (k : Int)] w fun e w' => ∃ r, e = .returned (.tuple #[r, .int .i64 0]) ∧ NatIs w' r (a ^ k) ∧ Below w.heap.size w w' := by
  have h := pow_any va a (k : Int) w ha (Nat.le_trans (limbs_bound (by omega) (Nat.le_refl 1)) (by decide))
  have e : (k : Int).toNat = k := by omega
  have hb : blen (a ^ k) ≤ 10000 := by
    apply blen_le
    generalize hK : 10000 = K
    have h3 : a ^ k ≤ 16 ^ k := Nat.pow_le_pow_left (by omega) _
    have h4 : (16 : Nat) ^ k = 2 ^ (4 * k) := by rw [Nat.pow_mul]
    have h5 : (2 : Nat) ^ (4 * k) < 2 ^ K := Nat.pow_lt_pow_right (by decide) (by omega)
    omega
  have hc : powC a (k : Int) = 0 := by unfold powC; rw [if_neg (by omega), if_neg (by rw [e]; omega)]
  have hv : powV a (k : Int) = a ^ k := by unfold powV; rw [if_pos hc, e]
  unfold PowPost at h
  rwa [hc, hv] at h
theorem divmod_l (va vb : Value) (a b : Nat) (w : World) (ha : NatIs w va a) (hb : NatIs w vb b) (hla : (limbs a).length ≤ 1000000) (hlb : (limbs b).length ≤ 1000000) (h0 : 0 < b) :
    Calls Tryd.prog 10 #[va, vb] w fun e w' => ∃ r s, e = .returned (.tuple #[r, s, .bool true]) ∧ NatIs w' r (a / b) ∧ NatIs w' s (a % b) ∧ Below w.heap.size w w' := by
  have h := divmod_any va vb a b w ha hb hla hlb
  unfold DivPost at h
  rwa [decide_eq_true (by omega), if_neg (by omega)] at h

set_option maxRecDepth 100000 in
set_option maxHeartbeats 1000000 in
theorem decFinite_early (n : Nat) (t v o : Int) (w : World) (h : n = 0 ∨ t < 0 ∨ 60 < t ∨ v < 0 ∨ 60 < v) :
    Calls Tryd.prog 3 #[.int .u64 (n : Int), .int .i64 t, .int .i64 v, .int .i64 o] w fun e w' => e = .returned (.bool true) ∧ Below w.heap.size w w' := by
  by_cases h1 : n = 0
  · clear h
    subst h1
    go_enter Tryd.func3, Tryd.ntmps3
    go_wp2_with (go_at_call 5; refine (alive3_any _).mono ?_; rintro e w' ⟨rfl, hb⟩)
    go_ret
    exact ⟨rfl, hb⟩
  have k1 : ¬ ((n : Nat) : Int) = 0 := by omega
  have k1' : (((n : Nat) : Int) == 0) = false := by simpa using k1
  by_cases h2 : t < 0
  · clear h
    go_enter Tryd.func3, Tryd.ntmps3
    go_wp2_with (go_at_call 5; refine (alive3_any _).mono ?_; rintro e w' ⟨rfl, hb⟩)
    go_ret
    exact ⟨rfl, hb⟩
  by_cases h3 : 60 < t
  · clear h
    go_enter Tryd.func3, Tryd.ntmps3
    go_wp2_with (go_at_call 5; refine (alive3_any _).mono ?_; rintro e w' ⟨rfl, hb⟩)
    go_ret
    exact ⟨rfl, hb⟩
  by_cases h4 : v < 0
  · clear h
    go_enter Tryd.func3, Tryd.ntmps3
    go_wp2_with (go_at_call 5; refine (alive3_any _).mono ?_; rintro e w' ⟨rfl, hb⟩)
    go_ret
    exact ⟨rfl, hb⟩
  by_cases h5 : 60 < v
  · clear h
    go_enter Tryd.func3, Tryd.ntmps3
    go_wp2_with (go_at_call 5; refine (alive3_any _).mono ?_; rintro e w' ⟨rfl, hb⟩)
    go_ret
    exact ⟨rfl, hb⟩
  omega

theorem bound_D {t v o : Nat} (ht : t ≤ 60) (hv : v ≤ 60) (ho : o ≤ 11) : 2 ^ t * 5 ^ v * o < 10 ^ 130 := by
  have h1 : 2 ^ t ≤ 10 ^ 60 := Nat.le_trans (Nat.pow_le_pow_left (by decide) t) (Nat.pow_le_pow_right (by decide) ht)
  have h2 : 5 ^ v ≤ 10 ^ 60 := Nat.le_trans (Nat.pow_le_pow_left (by decide) v) (Nat.pow_le_pow_right (by decide) hv)
  have h3 := Nat.mul_le_mul (Nat.mul_le_mul h1 h2) ho
  exact Nat.lt_of_le_of_lt h3 (by decide)
theorem big_n {n : Nat} (h : n < 18446744073709551616) : n < 10 ^ 130 := Nat.lt_of_lt_of_le h (by decide)
theorem places_le {q : Rat} {t v o : Nat} (h : q.den ∣ 2 ^ t * 5 ^ v * o) (ho : o = 1 ∨ o = 3 ∨ o = 7 ∨ o = 11) : places q ≤ max t v := by
  have h1 := cnt_eq (b := 2) (by decide) q.den (den_pos q)
  have h2 := cnt_eq (b := 5) (by decide) (crest 2 q.den) h1.2.2
  have c2 : ∀ a, Nat.Coprime (2 ^ a) o := fun a => Nat.Coprime.pow_left a (by rcases ho with rfl | rfl | rfl | rfl <;> decide)
  have c5 : ∀ a, Nat.Coprime (5 ^ a) o := fun a => Nat.Coprime.pow_left a (by rcases ho with rfl | rfl | rfl | rfl <;> decide)
  have c25 : ∀ a b : Nat, Nat.Coprime (2 ^ a) (5 ^ b) := fun a b => Nat.Coprime.pow a b (by decide)
  have d1 : 2 ^ cnt 2 q.den ∣ 2 ^ t * 5 ^ v := Nat.Coprime.dvd_of_dvd_mul_right (c2 _) (Nat.dvd_trans ⟨_, h1.1⟩ h)
  have d3 : cnt 2 q.den ≤ t := (Nat.pow_dvd_pow_iff_le_right (by decide)).1 (Nat.Coprime.dvd_of_dvd_mul_right (c25 _ _) d1)
  have e1 : 5 ^ cnt 5 (crest 2 q.den) ∣ 2 ^ t * 5 ^ v := Nat.Coprime.dvd_of_dvd_mul_right (c5 _) (Nat.dvd_trans (Nat.dvd_trans ⟨_, h2.1⟩ ⟨_, h1.1.trans (Nat.mul_comm _ _)⟩) h)
  have e3 : cnt 5 (crest 2 q.den) ≤ v := (Nat.pow_dvd_pow_iff_le_right (by decide)).1 (Nat.Coprime.dvd_of_dvd_mul_left (c25 _ _).symm e1)
  unfold places
  omega
theorem fin_places {s : Bool} {n t v o : Nat} (ho : o = 1 ∨ o = 3 ∨ o = 7 ∨ o = 11) (ht : t ≤ 60) (hv : v ≤ 60) : places (qOf s n (2 ^ t * 5 ^ v * o)) ≤ 1200 := by
  have := places_le (t := t) (v := v) (o := o) (qOf_den_dvd s n (d := 2 ^ t * 5 ^ v * o) (Nat.mul_pos (Nat.mul_pos (Nat.pow_pos (by decide)) (Nat.pow_pos (by decide))) (other_cases ho).1)) ho
  omega

set_option maxRecDepth 100000 in
set_option maxHeartbeats 8000000 in
/-- DecFinite. -/
theorem decFinite_main (n t v : Nat) (o : Int) (w : World) (hn1 : 0 < n) (hn2 : n < 18446744073709551616) (ht : t ≤ 60) (hv : v ≤ 60) :
    Calls Tryd.prog 3 #[.int .u64 (n : Int), .int .i64 (t : Int), .int .i64 (v : Int), .int .i64 o] w fun e w' => e = .returned (.bool true) ∧ Below w.heap.size w w' := by
  have k1 : ¬ ((n : Nat) : Int) = 0 := by omega
  have k1' : (((n : Nat) : Int) == 0) = false := by simpa using k1
  have k2 : ¬ ((t : Nat) : Int) < 0 := by omega
  have k3 : ¬ (60 : Int) < ((t : Nat) : Int) := by omega
  have k4 : ¬ ((v : Nat) : Int) < 0 := by omega
  have k5 : ¬ (60 : Int) < ((v : Nat) : Int) := by omega
  obtain ⟨sg9, hsg⟩ : ∃ s : Bool, (bits .and .u64 ((n : Nat) : Int) 1 == 1) = s := ⟨_, rfl⟩
  have HB3 := Lib.hid (band_three o)
  have hln : (limbs n).length ≤ 2 := lt_64_iff.1 hn2
  have hl2 : (limbs (2 ^ t)).length ≤ 100 := Nat.le_trans (limbs_length_mono (Nat.pow_le_pow_left (by decide) t)) (limbs_ten t (by omega))
  have hl5 : (limbs (5 ^ v)).length ≤ 100 := Nat.le_trans (limbs_length_mono (Nat.pow_le_pow_left (by decide) v)) (limbs_ten v (by omega))
  have hlp : (limbs (2 ^ t * 5 ^ v)).length ≤ 200 := limbs_mul hl2 hl5
  have hbf : Below w.heap.size w w := Below.refl _ _
  go_enter Tryd.func3, Tryd.ntmps3
  go_wp2_with fail
  refine (alive3_any _).mono ?_
  rintro e w1 ⟨rfl, hb⟩
  replace hbf := hbf.trans (hb.mono hbf.size)
  clear hb
  go_wp2_with fail
  refine (of_any 2 _ (by decide)).mono ?_
  rintro e w2 ⟨r9, rfl, hi, hb⟩
  replace hbf := hbf.trans (hb.mono hbf.size)
  clear hb
  obtain ⟨iO, iL, iC, rfl⟩ := hi.form
  go_wp2_with fail
  refine (npow_ok _ 2 t _ hi (by decide) (by omega)).mono ?_
  rintro e w3 ⟨r9, rfl, ha, hb⟩
  replace hi := hi.below hb
  replace hbf := hbf.trans (hb.mono hbf.size)
  clear hb
  obtain ⟨aO, aL, aC, rfl⟩ := ha.form
  obtain ⟨w4, hwE⟩ : ∃ W, W = (w3.alloc (.cells #[.slice aO aL aC] 26)) := ⟨_, rfl⟩
  have hb : Below w3.heap.size w3 w4 := by rw [hwE]; exact ((Below.refl _ w3).alloc (Nat.le_refl _) _)
  obtain ⟨pa, hpa⟩ : ∃ p, p = w3.heap.size := ⟨_, rfl⟩
  have hba : Box w4 pa (Value.slice aO aL aC) := by rw [hwE, hpa]; exact ⟨by go_simp, by go_simp, by simp <;> omega⟩
  have HP : Hid (w.heap.size ≤ pa) := Lib.hid (by have h9 := hbf.size; omega)
  have HW := Lib.hid hwE; clear hwE
  go_upto_region 4 with fail
  rw [← HW.out, ← hpa]
  clear hpa HW
  replace hi := hi.below hb
  replace ha := ha.below hb
  replace hbf := hbf.trans (hb.mono hbf.size)
  clear hb
  go_wp2_with fail
  refine (of_any 5 _ (by decide)).mono ?_
  rintro e w5 ⟨r9, rfl, hj, hb⟩
  replace hba := hba.kept hb
  replace hi := hi.below hb
  replace ha := ha.below hb
  replace hbf := hbf.trans (hb.mono hbf.size)
  clear hb
  obtain ⟨jO, jL, jC, rfl⟩ := hj.form
  go_wp2_with fail
  refine (npow_ok _ 5 v _ hj (by decide) (by omega)).mono ?_
  rintro e w6 ⟨r9, rfl, hd, hb⟩
  replace hba := hba.kept hb
  replace hi := hi.below hb
  replace ha := ha.below hb
  replace hj := hj.below hb
  replace hbf := hbf.trans (hb.mono hbf.size)
  clear hb
  obtain ⟨dO, dL, dC, rfl⟩ := hd.form
  obtain ⟨w7, hwE⟩ : ∃ W, W = (w6.alloc (.cells #[.slice dO dL dC] 26)) := ⟨_, rfl⟩
  have hb : Below w6.heap.size w6 w7 := by rw [hwE]; exact ((Below.refl _ w6).alloc (Nat.le_refl _) _)
  obtain ⟨pd, hpd⟩ : ∃ p, p = w6.heap.size := ⟨_, rfl⟩
  have hbd : Box w7 pd (Value.slice dO dL dC) := by rw [hwE, hpd]; exact ⟨by go_simp, by go_simp, by simp <;> omega⟩
  replace HP : Hid (w.heap.size ≤ pa ∧ pa < pd) := Lib.hid (by have h1 := HP.out; have h9 := hbf.size; have h2a := hba.lt; omega)
  have HW := Lib.hid hwE; clear hwE
  go_upto_region 5 with fail
  rw [← HW.out, ← hpd]
  clear hpd HW
  replace hba := hba.kept hb
  replace hi := hi.below hb
  replace ha := ha.below hb
  replace hj := hj.below hb
  replace hd := hd.below hb
  replace hbf := hbf.trans (hb.mono hbf.size)
  clear hb
  clear hi hj
  go_cut [13] (fun p139 wx => ∃ od : Nat, p139 = .int .u64 (od : Int) ∧ (od = 1 ∨ od = 3 ∨ od = 7 ∨ od = 11) ∧ Box wx pa (.slice aO aL aC) ∧ Box wx pd (.slice dO dL dC) ∧ NatIs wx (.agg #[.slice aO aL aC]) (2 ^ t) ∧ NatIs wx (.agg #[.slice dO dL dC]) (5 ^ v) ∧ Below w.heap.size w wx)
  case first =>
    have h4 : o % 4 = 0 ∨ o % 4 = 1 ∨ o % 4 = 2 ∨ o % 4 = 3 := by omega
    have h3 : bits .and .i64 o 3 = o % 4 := HB3.out
    rcases h4 with h4 | h4 | h4 | h4
    · rw [h4] at h3
      go_wp2_with fail
      go_meet
      case rel => exact ⟨1, rfl, by decide, hba.kept ((Below.refl _ _).alloc (Nat.le_refl _) _), hbd.kept ((Below.refl _ _).alloc (Nat.le_refl _) _), ha.below ((Below.refl _ _).alloc (Nat.le_refl _) _), hd.below ((Below.refl _ _).alloc (Nat.le_refl _) _), hbf.trans (((Below.refl _ _).alloc (Nat.le_refl _) _).mono hbf.size)⟩
    · rw [h4] at h3
      go_wp2_with fail
      go_meet
      case rel => exact ⟨3, rfl, by decide, hba.kept ((Below.refl _ _).alloc (Nat.le_refl _) _), hbd.kept ((Below.refl _ _).alloc (Nat.le_refl _) _), ha.below ((Below.refl _ _).alloc (Nat.le_refl _) _), hd.below ((Below.refl _ _).alloc (Nat.le_refl _) _), hbf.trans (((Below.refl _ _).alloc (Nat.le_refl _) _).mono hbf.size)⟩
    · rw [h4] at h3
      go_wp2_with fail
      go_meet
      case rel => exact ⟨7, rfl, by decide, hba.kept ((Below.refl _ _).alloc (Nat.le_refl _) _), hbd.kept ((Below.refl _ _).alloc (Nat.le_refl _) _), ha.below ((Below.refl _ _).alloc (Nat.le_refl _) _), hd.below ((Below.refl _ _).alloc (Nat.le_refl _) _), hbf.trans (((Below.refl _ _).alloc (Nat.le_refl _) _).mono hbf.size)⟩
    · rw [h4] at h3
      go_wp2_with fail
      go_meet
      case rel => exact ⟨11, rfl, by decide, hba.kept ((Below.refl _ _).alloc (Nat.le_refl _) _), hbd.kept ((Below.refl _ _).alloc (Nat.le_refl _) _), ha.below ((Below.refl _ _).alloc (Nat.le_refl _) _), hd.below ((Below.refl _ _).alloc (Nat.le_refl _) _), hbf.trans (((Below.refl _ _).alloc (Nat.le_refl _) _).mono hbf.size)⟩
  case rest =>
    clear hba hbd ha hd hbf
    obtain ⟨od, rfl, hod, hba, hbd, ha, hd, hbf⟩ := hcut
    obtain ⟨w8, hwE⟩ : ∃ W, W = wc := ⟨_, rfl⟩
    subst hwE
    have HOD := Lib.hid hod
    have hod0 : 0 < od ∧ od ≤ 11 := by omega
    obtain ⟨hod1, hod2⟩ := hod0
    clear hod
    obtain ⟨D9, hD9⟩ : ∃ D, D = 2 ^ t * 5 ^ v * od := ⟨_, rfl⟩
    have hlD : (limbs D9).length ≤ 201 := by rw [hD9]; exact limbs_mul hlp (limbs_bound (by omega) (Nat.le_refl 1))
    have hD0 : 0 < D9 := by rw [hD9]; exact Nat.mul_pos (Nat.mul_pos (Nat.pow_pos (by decide)) (Nat.pow_pos (by decide))) hod1
    have HD9 := Lib.hid hD9
    have hD9l : D9 < 10 ^ 130 := by rw [hD9]; exact bound_D (by omega) (by omega) hod2
    clear hD9
    obtain ⟨R, hR⟩ : ∃ R, R = qOf sg9 n D9 := ⟨_, rfl⟩
    have hRle := qOf_le sg9 n hD0
    rw [← hR] at hRle
    have HR := Lib.hid hR
    clear hR
    have ea := hba.cell
    have ed := hbd.cell
    (try go_wp2_with fail)
    clear ea ed
    refine wp_region_seqF (S := fun w' => Box w' pa (Value.slice aO aL aC) ∧ Box w' pd (Value.slice dO dL dC)) [⟨15, 14, .cells #[.bool false, .slice none 0 0, .slice none 0 0] 33⟩] [(true, 0), (true, 1), (true, 2), (true, 3), (true, 5), (true, 6), (true, 8), (false, 4), (false, 7), (false, 9), (false, 10), (false, 11), (true, 12), (true, 13), (true, 14)] [(false, 16), (true, 17)] (by kernel_rfl) (by kernel_rfl) (by kernel_rfl) (by kernel_rfl) (by kernel_rfl) (by kernel_rfl) (by decide) (by decide) (by kernel_rfl) (by rfl) ?_ (fun w8 o8 h8 => ?_) (fun d _ _ _ _ h => by cases d <;> exact h) ⟨hba.drew, hbd.drew⟩ ?_
    · intro f hf; simp only [List.mem_cons, List.not_mem_nil, or_false] at hf; rcases hf with rfl <;> exact FlOk.alloc rfl rfl rfl (fun f w => by go_simp)
    · obtain ⟨h0, h1⟩ := h8; exact ⟨Box.kept h0 ((Below.refl _ _).alloc (Nat.le_refl _) _), Box.kept h1 ((Below.refl _ _).alloc (Nat.le_refl _) _)⟩
    obtain ⟨B9, hB9⟩ : ∃ B, B = w8.heap.size := ⟨_, rfl⟩
    rw [← hB9]
    simp only [pickOps, List.append_eq, List.cons_append, List.nil_append, List.getElem?_toArray, List.getElem?_cons_succ, List.getElem?_cons_zero]
    have HB9 : Hid (w.heap.size ≤ B9 ∧ pd < B9) := Lib.hid (by have h1 := hbf.size; have h2d := hbd.lt; rw [hB9]; omega)
    clear hB9
    have hb : Below w8.heap.size w8 w8.drew := (Below.refl _ _).drew
    generalize w8.drew = w9 at hb ⊢
    replace hba := hba.kept hb
    replace hbd := hbd.kept hb
    replace ha := ha.below hb
    replace hd := hd.below hb
    replace hbf := hbf.trans (hb.mono hbf.size)
    clear hb
    repeat (refine seqF_take (v := ?_) (fun t => by rfl) ?_ ?_; rotate_left; (· intro a9 h9 w hSw; (try dsimp only at hSw); obtain ⟨x14, rfl⟩ : ∃ x, a9 = Act.put _ (some 14) x := ⟨_, h9.one⟩; clear h9; obtain ⟨⟨ea, _, _⟩, ⟨ed, _, _⟩⟩ := hSw; (try simp only [Act.put, List.setIfInBounds_toArray, List.set_cons_zero, List.set_cons_succ]); go_simp; all_goals with_reducible rfl); (try simp only [Act.put, List.setIfInBounds_toArray, List.set_cons_zero, List.set_cons_succ]))
    refine seqF_step (fun t => by rfl) (fun a9 w10 h9 hb hS9 K hK => ?_)
    obtain ⟨x14, rfl⟩ : ∃ x, a9 = Act.put _ (some 14) x := ⟨_, h9.one⟩
    clear h9 hS9
    (try simp only [Act.put, List.setIfInBounds_toArray, List.set_cons_zero, List.set_cons_succ] at hK); (try simp only [Act.put, List.setIfInBounds_toArray, List.set_cons_zero, List.set_cons_succ])
    replace hba := hba.kept hb
    replace hbd := hbd.kept hb
    replace ha := ha.below hb
    replace hd := hd.below hb
    replace hbf := hbf.trans (hb.mono hbf.size)
    clear hb
    go_simp
    go_at_call 7
    (with_reducible refine (of_any n _ hn2).mono ?_)
    rintro e w11 ⟨r9, rfl, hnn, hb⟩
    obtain ⟨nO, nL, nC, rfl⟩ := hnn.form
    replace hba := hba.kept hb
    replace hbd := hbd.kept hb
    replace ha := ha.below hb
    replace hd := hd.below hb
    replace hbf := hbf.trans (hb.mono hbf.size)
    have hbK := hb; clear hb
    first | refine hK.out _ _ ⟨hba, hbd⟩ hbK ?_ | (go_wp2_with fail; refine hK.out _ _ ⟨hba, hbd⟩ hbK ?_)
    clear hK K hbK
    (try simp only [Act.put, List.setIfInBounds_toArray, List.set_cons_zero, List.set_cons_succ])
    refine seqF_step (fun t => by rfl) (fun a9 w12 h9 hb hS9 K hK => ?_)
    obtain ⟨x14, rfl⟩ : ∃ x, a9 = Act.put _ (some 14) x := ⟨_, h9.one⟩
    clear h9 hS9
    (try simp only [Act.put, List.setIfInBounds_toArray, List.set_cons_zero, List.set_cons_succ] at hK); (try simp only [Act.put, List.setIfInBounds_toArray, List.set_cons_zero, List.set_cons_succ])
    replace hba := hba.kept hb
    replace hbd := hbd.kept hb
    replace ha := ha.below hb
    replace hd := hd.below hb
    replace hnn := hnn.below hb
    replace hbf := hbf.trans (hb.mono hbf.size)
    clear hb
    go_simp
    go_at_call 9
    (with_reducible refine (mul_any _ _ (2 ^ t) (5 ^ v) _ ha hd (by omega) (by omega)).mono ?_)
    rintro e w13 ⟨r9, rfl, hm, hb⟩
    obtain ⟨mO, mL, mC, rfl⟩ := hm.form
    replace hba := hba.kept hb
    replace hbd := hbd.kept hb
    replace ha := ha.below hb
    replace hd := hd.below hb
    replace hnn := hnn.below hb
    replace hbf := hbf.trans (hb.mono hbf.size)
    have hbK := hb; clear hb
    first | refine hK.out _ _ ⟨hba, hbd⟩ hbK ?_ | (go_wp2_with fail; refine hK.out _ _ ⟨hba, hbd⟩ hbK ?_)
    clear hK K hbK
    (try simp only [Act.put, List.setIfInBounds_toArray, List.set_cons_zero, List.set_cons_succ])
    refine seqF_step (fun t => by rfl) (fun a9 w14 h9 hb hS9 K hK => ?_)
    obtain ⟨x14, rfl⟩ : ∃ x, a9 = Act.put _ (some 14) x := ⟨_, h9.one⟩
    clear h9 hS9
    (try simp only [Act.put, List.setIfInBounds_toArray, List.set_cons_zero, List.set_cons_succ] at hK); (try simp only [Act.put, List.setIfInBounds_toArray, List.set_cons_zero, List.set_cons_succ])
    replace hba := hba.kept hb
    replace hbd := hbd.kept hb
    replace ha := ha.below hb
    replace hd := hd.below hb
    replace hnn := hnn.below hb
    replace hm := hm.below hb
    replace hbf := hbf.trans (hb.mono hbf.size)
    clear hb
    go_simp
    go_at_call 7
    (with_reducible refine (of_any od _ (by omega)).mono ?_)
    rintro e w15 ⟨r9, rfl, hoo, hb⟩
    obtain ⟨oO, oL, oC, rfl⟩ := hoo.form
    replace hba := hba.kept hb
    replace hbd := hbd.kept hb
    replace ha := ha.below hb
    replace hd := hd.below hb
    replace hnn := hnn.below hb
    replace hm := hm.below hb
    replace hbf := hbf.trans (hb.mono hbf.size)
    have hbK := hb; clear hb
    first | refine hK.out _ _ ⟨hba, hbd⟩ hbK ?_ | (go_wp2_with fail; refine hK.out _ _ ⟨hba, hbd⟩ hbK ?_)
    clear hK K hbK
    (try simp only [Act.put, List.setIfInBounds_toArray, List.set_cons_zero, List.set_cons_succ])
    refine seqF_step (fun t => by rfl) (fun a9 w16 h9 hb hS9 K hK => ?_)
    obtain ⟨x14, rfl⟩ : ∃ x, a9 = Act.put _ (some 14) x := ⟨_, h9.one⟩
    clear h9 hS9
    (try simp only [Act.put, List.setIfInBounds_toArray, List.set_cons_zero, List.set_cons_succ] at hK); (try simp only [Act.put, List.setIfInBounds_toArray, List.set_cons_zero, List.set_cons_succ])
    replace hba := hba.kept hb
    replace hbd := hbd.kept hb
    replace ha := ha.below hb
    replace hd := hd.below hb
    replace hnn := hnn.below hb
    replace hm := hm.below hb
    replace hoo := hoo.below hb
    replace hbf := hbf.trans (hb.mono hbf.size)
    clear hb
    go_simp
    go_at_call 9
    (with_reducible refine (mul_any _ _ (2 ^ t * 5 ^ v) od _ hm hoo (by omega) (Nat.le_trans (limbs_bound (n := od) (by omega) (Nat.le_refl 1)) (by decide))).mono ?_)
    rintro e w17 ⟨r9, rfl, hk, hb⟩
    obtain ⟨kO, kL, kC, rfl⟩ := hk.form
    replace hba := hba.kept hb
    replace hbd := hbd.kept hb
    replace ha := ha.below hb
    replace hd := hd.below hb
    replace hnn := hnn.below hb
    replace hm := hm.below hb
    replace hoo := hoo.below hb
    replace hbf := hbf.trans (hb.mono hbf.size)
    have hbK := hb; clear hb
    first | refine hK.out _ _ ⟨hba, hbd⟩ hbK ?_ | (go_wp2_with fail; refine hK.out _ _ ⟨hba, hbd⟩ hbK ?_)
    clear hK K hbK
    (try simp only [Act.put, List.setIfInBounds_toArray, List.set_cons_zero, List.set_cons_succ])
    refine seqF_step (fun t => by rfl) (fun a9 w18 h9 hb hS9 K hK => ?_)
    obtain ⟨x14, rfl⟩ : ∃ x, a9 = Act.put _ (some 14) x := ⟨_, h9.one⟩
    clear h9 hS9
    (try simp only [Act.put, List.setIfInBounds_toArray, List.set_cons_zero, List.set_cons_succ] at hK); (try simp only [Act.put, List.setIfInBounds_toArray, List.set_cons_zero, List.set_cons_succ])
    replace hba := hba.kept hb
    replace hbd := hbd.kept hb
    replace ha := ha.below hb
    replace hd := hd.below hb
    replace hnn := hnn.below hb
    replace hm := hm.below hb
    replace hoo := hoo.below hb
    replace hk := hk.below hb
    replace hbf := hbf.trans (hb.mono hbf.size)
    clear hb
    rw [← HD9.out] at hk
    go_simp
    go_at_call 8
    (with_reducible refine (make_ok sg9 _ _ n D9 _ hnn hk (by omega) (by omega) hD0).mono ?_)
    rintro e w19 hq9
    obtain ⟨rB, rxO, rxL, rxC, ryO, ryL, ryC, rfl, hS, hrx, hry, hr, hb⟩ := hq9.out
    have HrS := Lib.hid hS; clear hS
    replace hba := hba.kept hb
    replace hbd := hbd.kept hb
    replace ha := ha.below hb
    replace hd := hd.below hb
    replace hnn := hnn.below hb
    replace hm := hm.below hb
    replace hoo := hoo.below hb
    replace hk := hk.below hb
    replace hbf := hbf.trans (hb.mono hbf.size)
    have hbK := hb; clear hb
    rw [← HR.out] at hr
    first | refine hK.out _ _ ⟨hba, hbd⟩ hbK ?_ | (go_wp2_with fail; refine hK.out _ _ ⟨hba, hbd⟩ hbK ?_)
    clear hK K hbK
    (try simp only [Act.put, List.setIfInBounds_toArray, List.set_cons_zero, List.set_cons_succ])
    repeat (refine seqF_take (v := ?_) (fun t => by rfl) ?_ ?_; rotate_left; (· intro a9 h9 w hSw; (try dsimp only at hSw); obtain ⟨x14, rfl⟩ : ∃ x, a9 = Act.put _ (some 14) x := ⟨_, h9.one⟩; clear h9; obtain ⟨⟨ea, _, _⟩, ⟨ed, _, _⟩⟩ := hSw; (try simp only [Act.put, List.setIfInBounds_toArray, List.set_cons_zero, List.set_cons_succ]); go_simp; all_goals with_reducible rfl); (try simp only [Act.put, List.setIfInBounds_toArray, List.set_cons_zero, List.set_cons_succ]))
    refine seqF_end (fun a9 w20 h9 hb hS9 hAt hNe => ?_)
    obtain ⟨x14, rfl⟩ : ∃ x, a9 = Act.put _ (some 14) x := ⟨_, h9.one⟩
    clear h9 hS9
    (try simp only [Act.put, List.setIfInBounds_toArray, List.set_cons_zero, List.set_cons_succ])
    (try simp only [Act.put, List.setIfInBounds_toArray, List.set_cons_zero, List.set_cons_succ] at hAt hNe)
    replace hba := hba.kept hb
    replace hbd := hbd.kept hb
    replace ha := ha.below hb
    replace hd := hd.below hb
    replace hnn := hnn.below hb
    replace hm := hm.below hb
    replace hoo := hoo.below hb
    replace hk := hk.below hb
    replace hrx := hrx.below hb
    replace hry := hry.below hb
    replace hr := hr.below hb
    replace hbf := hbf.trans (hb.mono hbf.size)
    clear hb
    obtain ⟨pr, hxr, hgr, hhr⟩ := (hAt ⟨15, 14, .cells #[.bool false, .slice none 0 0, .slice none 0 0] 33⟩ (by simp)).slot rfl
    have hbr := box3_heap hhr; clear hhr
    replace hxr : x14 = _ := hxr
    clear hAt hNe
    subst hxr
    replace HP : Hid (w.heap.size ≤ pa ∧ pa < pd ∧ pd < pr) := Lib.hid (by have h1 := HP.out; have h2 := HB9.out; omega)
    clear HB9 hgr
    simp only [pickOps, List.append_eq, List.cons_append, List.nil_append, List.getElem?_toArray, List.getElem?_cons_succ, List.getElem?_cons_zero]
    refine seq_step (by rfl) (fun K hK => ?_)
    have er0 := hbr.c0
    have fr0 := hbr.f0
    have er1 := hbr.c1
    have fr1 := hbr.f1
    have er2 := hbr.c2
    have fr2 := hbr.f2
    go_simp
    clear er0 fr0 er1 fr1 er2 fr2
    obtain ⟨w21, hwE⟩ : ∃ W, W = ((w20.setCell ⟨pr, 0, none⟩ (Value.bool rB)).setCell ⟨pr, 1, none⟩ (Value.slice rxO rxL rxC)).setCell ⟨pr, 2, none⟩ (Value.slice ryO ryL ryC) := ⟨_, rfl⟩
    rw [← hwE]
    replace ha := ha.set3 (u0 := (Value.bool rB)) (u1 := (Value.slice rxO rxL rxC)) (u2 := (Value.slice ryO ryL ryC)) hbr; rw [← hwE] at ha
    replace hd := hd.set3 (u0 := (Value.bool rB)) (u1 := (Value.slice rxO rxL rxC)) (u2 := (Value.slice ryO ryL ryC)) hbr; rw [← hwE] at hd
    replace hnn := hnn.set3 (u0 := (Value.bool rB)) (u1 := (Value.slice rxO rxL rxC)) (u2 := (Value.slice ryO ryL ryC)) hbr; rw [← hwE] at hnn
    replace hm := hm.set3 (u0 := (Value.bool rB)) (u1 := (Value.slice rxO rxL rxC)) (u2 := (Value.slice ryO ryL ryC)) hbr; rw [← hwE] at hm
    replace hoo := hoo.set3 (u0 := (Value.bool rB)) (u1 := (Value.slice rxO rxL rxC)) (u2 := (Value.slice ryO ryL ryC)) hbr; rw [← hwE] at hoo
    replace hk := hk.set3 (u0 := (Value.bool rB)) (u1 := (Value.slice rxO rxL rxC)) (u2 := (Value.slice ryO ryL ryC)) hbr; rw [← hwE] at hk
    replace hrx := hrx.set3 (u0 := (Value.bool rB)) (u1 := (Value.slice rxO rxL rxC)) (u2 := (Value.slice ryO ryL ryC)) hbr; rw [← hwE] at hrx
    replace hry := hry.set3 (u0 := (Value.bool rB)) (u1 := (Value.slice rxO rxL rxC)) (u2 := (Value.slice ryO ryL ryC)) hbr; rw [← hwE] at hry
    replace hr := hr.set3 (u0 := (Value.bool rB)) (u1 := (Value.slice rxO rxL rxC)) (u2 := (Value.slice ryO ryL ryC)) hbr; rw [← hwE] at hr
    replace hba := hba.set3 (u0 := (Value.bool rB)) (u1 := (Value.slice rxO rxL rxC)) (u2 := (Value.slice ryO ryL ryC)) (show pa ≠ pr by have := HP.out; omega); rw [← hwE] at hba
    replace hbd := hbd.set3 (u0 := (Value.bool rB)) (u1 := (Value.slice rxO rxL rxC)) (u2 := (Value.slice ryO ryL ryC)) (show pd ≠ pr by have := HP.out; omega); rw [← hwE] at hbd
    replace hbf := below_set3 (u0 := (Value.bool rB)) (u1 := (Value.slice rxO rxL rxC)) (u2 := (Value.slice ryO ryL ryC)) hbf (show w.heap.size ≤ pr by have := HP.out; omega); rw [← hwE] at hbf
    replace hbr := hbr.set3 (u0 := (Value.bool rB)) (u1 := (Value.slice rxO rxL rxC)) (u2 := (Value.slice ryO ryL ryC)); rw [← hwE] at hbr; clear hwE
    first | refine hK.out _ _ ⟨hba, hbd⟩ (fun _ => ?_) | (go_wp2_with fail; refine hK.out _ _ ⟨hba, hbd⟩ (fun _ => ?_))
    clear hK K
    (try simp only [Act.put, List.setIfInBounds_toArray, List.set_cons_zero, List.set_cons_succ])
    repeat (first | (refine seq_take (v := ?_) (by rfl) ?_ ?_; rotate_left; (· intro w hSw; (try dsimp only at hSw); obtain ⟨⟨ea, _, _⟩, ⟨ed, _, _⟩⟩ := hSw; go_simp; all_goals with_reducible rfl); (try simp only [Act.put, List.setIfInBounds_toArray, List.set_cons_zero, List.set_cons_succ])) | (refine seq_leave (by rfl) ?_; (try simp only [Act.put, List.setIfInBounds_toArray, List.set_cons_zero, List.set_cons_succ])))
    refine seq_end ?_
    have hlo : (limbs od).length ≤ 1000000 := Nat.le_trans (limbs_bound (n := od) (by omega) (Nat.le_refl 1)) (by decide)
    have hok : LOk R := LOk.of (K := 130) (by have h1 := hRle.1; have h2 := big_n hn2; omega) (by have h1 := hRle.2; omega) (by decide) (by decide) (by rw [HR.out, HD9.out]; exact fin_places HOD.out (by omega) (by omega))
    clear hm hk hnn hoo ha hd hrx hry
    go_wp2_with fail
    refine (of_any n _ hn2).mono ?_
    rintro e w22 ⟨r9, rfl, hnb, hb⟩
    replace hba := hba.kept hb
    replace hbd := hbd.kept hb
    replace hbr := hbr.kept hb
    replace hr := hr.below hb
    replace hbf := hbf.trans (hb.mono hbf.size)
    clear hb
    obtain ⟨nbO, nbL, nbC, rfl⟩ := hnb.form
    go_wp2_with fail
    refine (of_any od _ (by omega)).mono ?_
    rintro e w23 ⟨r9, rfl, hob, hb⟩
    replace hba := hba.kept hb
    replace hbd := hbd.kept hb
    replace hbr := hbr.kept hb
    replace hr := hr.below hb
    replace hnb := hnb.below hb
    replace hbf := hbf.trans (hb.mono hbf.size)
    clear hb
    obtain ⟨obO, obL, obC, rfl⟩ := hob.form
    go_wp2_with fail
    refine (divmod_l _ _ n od _ hnb hob (by omega) hlo hod1).mono ?_
    rintro e w24 ⟨r9, s9, rfl, hqb, hsb, hb⟩
    replace hba := hba.kept hb
    replace hbd := hbd.kept hb
    replace hbr := hbr.kept hb
    replace hr := hr.below hb
    replace hnb := hnb.below hb
    replace hob := hob.below hb
    replace hbf := hbf.trans (hb.mono hbf.size)
    clear hb
    obtain ⟨bO, bL, bC, rfl⟩ := hqb.form
    obtain ⟨cO, cL, cC, rfl⟩ := hsb.form
    obtain ⟨w25, hwE⟩ : ∃ W, W = ((w24.alloc (.cells #[.slice bO bL bC] 26)).alloc (.cells #[.slice cO cL cC] 26)) := ⟨_, rfl⟩
    have hb : Below w24.heap.size w24 w25 := by rw [hwE]; exact (((Below.refl _ w24).alloc (Nat.le_refl _) _).alloc (by simp <;> omega) _)
    obtain ⟨pb, hpb⟩ : ∃ p, p = w24.heap.size := ⟨_, rfl⟩
    have hbb : Box w25 pb (Value.slice bO bL bC) := by rw [hwE, hpb]; exact ⟨by go_simp, by go_simp, by simp <;> omega⟩
    obtain ⟨pc, hpc⟩ : ∃ p, p = w24.heap.size + 1 := ⟨_, rfl⟩
    have hbc : Box w25 pc (Value.slice cO cL cC) := by rw [hwE, hpc]; exact ⟨by go_simp, by go_simp, by simp <;> omega⟩
    replace HP : Hid (w.heap.size ≤ pa ∧ pa < pd ∧ pd < pr ∧ pr < pb ∧ pb < pc) := Lib.hid (by have h1 := HP.out; have h9 := hbf.size; have h2r := hbr.lt; omega)
    have HW := Lib.hid hwE; clear hwE
    go_upto_region 10 with fail
    rw [← HW.out, ← hpc, ← hpb]
    clear hpb hpc HW
    replace hba := hba.kept hb
    replace hbd := hbd.kept hb
    replace hbr := hbr.kept hb
    replace hr := hr.below hb
    replace hnb := hnb.below hb
    replace hob := hob.below hb
    replace hqb := hqb.below hb
    replace hsb := hsb.below hb
    replace hbf := hbf.trans (hb.mono hbf.size)
    clear hb
    clear hnb hob hqb
    go_wp2_with fail
    refine (of_any n _ hn2).mono ?_
    rintro e w26 ⟨r9, rfl, hne9, hb⟩
    replace hba := hba.kept hb
    replace hbd := hbd.kept hb
    replace hbr := hbr.kept hb
    replace hbb := hbb.kept hb
    replace hbc := hbc.kept hb
    replace hr := hr.below hb
    replace hsb := hsb.below hb
    replace hbf := hbf.trans (hb.mono hbf.size)
    clear hb
    obtain ⟨ne9O, ne9L, ne9C, rfl⟩ := hne9.form
    go_wp2_with fail
    refine (of_any od _ (by omega)).mono ?_
    rintro e w27 ⟨r9, rfl, hoe9, hb⟩
    replace hba := hba.kept hb
    replace hbd := hbd.kept hb
    replace hbr := hbr.kept hb
    replace hbb := hbb.kept hb
    replace hbc := hbc.kept hb
    replace hr := hr.below hb
    replace hsb := hsb.below hb
    replace hne9 := hne9.below hb
    replace hbf := hbf.trans (hb.mono hbf.size)
    clear hb
    obtain ⟨oe9O, oe9L, oe9C, rfl⟩ := hoe9.form
    go_wp2_with fail
    refine (divmod_l _ _ n od _ hne9 hoe9 (by omega) hlo hod1).mono ?_
    rintro e w28 ⟨r9, s9, rfl, hqe9, hse9, hb⟩
    replace hba := hba.kept hb
    replace hbd := hbd.kept hb
    replace hbr := hbr.kept hb
    replace hbb := hbb.kept hb
    replace hbc := hbc.kept hb
    replace hr := hr.below hb
    replace hsb := hsb.below hb
    replace hne9 := hne9.below hb
    replace hoe9 := hoe9.below hb
    replace hbf := hbf.trans (hb.mono hbf.size)
    clear hb
    obtain ⟨e9O, e9L, e9C, rfl⟩ := hqe9.form
    obtain ⟨gO, gL, gC, rfl⟩ := hse9.form
    obtain ⟨w29, hwE⟩ : ∃ W, W = ((w28.alloc (.cells #[.slice e9O e9L e9C] 26)).alloc (.cells #[.slice gO gL gC] 26)) := ⟨_, rfl⟩
    have hb : Below w28.heap.size w28 w29 := by rw [hwE]; exact (((Below.refl _ w28).alloc (Nat.le_refl _) _).alloc (by simp <;> omega) _)
    obtain ⟨pe9, hpe9⟩ : ∃ p, p = w28.heap.size := ⟨_, rfl⟩
    have hbe9 : Box w29 pe9 (Value.slice e9O e9L e9C) := by rw [hwE, hpe9]; exact ⟨by go_simp, by go_simp, by simp <;> omega⟩
    obtain ⟨pg, hpg⟩ : ∃ p, p = w28.heap.size + 1 := ⟨_, rfl⟩
    have hbg : Box w29 pg (Value.slice gO gL gC) := by rw [hwE, hpg]; exact ⟨by go_simp, by go_simp, by simp <;> omega⟩
    replace HP : Hid (w.heap.size ≤ pa ∧ pa < pd ∧ pd < pr ∧ pr < pb ∧ pb < pc ∧ pc < pe9 ∧ pe9 < pg) := Lib.hid (by have h1 := HP.out; have h9 := hbf.size; have h2c := hbc.lt; omega)
    have HW := Lib.hid hwE; clear hwE
    go_upto_region 11 with fail
    rw [← HW.out, ← hpg, ← hpe9]
    clear hpe9 hpg HW
    replace hba := hba.kept hb
    replace hbd := hbd.kept hb
    replace hbr := hbr.kept hb
    replace hbb := hbb.kept hb
    replace hbc := hbc.kept hb
    replace hr := hr.below hb
    replace hsb := hsb.below hb
    replace hne9 := hne9.below hb
    replace hoe9 := hoe9.below hb
    replace hqe9 := hqe9.below hb
    replace hse9 := hse9.below hb
    replace hbf := hbf.trans (hb.mono hbf.size)
    clear hb
    clear hne9 hoe9 hqe9
    by_cases ho1 : od = 1
    case pos =>
      have hw : n % od = 0 := by rw [ho1]; exact Nat.mod_one n
      have hdv := whole_den sg9 (n := n) (t := t) (f := v) HOD.out hw
      rw [← HD9.out, ← HR.out] at hdv
      have HF : Hid (true = fin R) := Lib.hid (fin_dvd2 hdv).symm
      have HPM : Hid (places R ≤ max t v) := Lib.hid (places_dvd hdv)
      clear hdv hw
      subst ho1
      obtain ⟨p, hp⟩ : ∃ p, p = if true = true then places R else 0 := ⟨_, rfl⟩
      obtain ⟨T, hT⟩ : ∃ T, T = if true = true then litText R else [] := ⟨_, rfl⟩
      have hp2 : p = places R := by rw [hp]; rfl
      have hpm : ((p : Nat) : Int) ≤ max ((t : Nat) : Int) ((v : Nat) : Int) := by have h1 := HPM.out; rw [← hp2] at h1; omega
      have hT0 : 0 < T.length := by rw [show T = litText R by rw [hT]; rfl]; exact litText_ne R
      have hT2 : (0 : Int) < ((T.length : Nat) : Int) := by omega
      clear hp2
      have HP9 := Lib.hid hp
      have HT9 := Lib.hid hT
      clear hp hT
      have er0 := hbr.c0
      have er1 := hbr.c1
      have er2 := hbr.c2
      go_wp2_with fail
      refine (places_b _ R p true _ hr hok.1.2 HF HP9).mono ?_
      rintro e w30 ⟨rfl, hb⟩
      clear er0 er1 er2
      replace hba := hba.kept hb
      replace hbd := hbd.kept hb
      replace hbr := hbr.kept hb
      replace hbb := hbb.kept hb
      replace hbc := hbc.kept hb
      replace hbe9 := hbe9.kept hb
      replace hbg := hbg.kept hb
      replace hr := hr.below hb
      replace hsb := hsb.below hb
      replace hse9 := hse9.below hb
      replace hbf := hbf.trans (hb.mono hbf.size)
      clear hb
      have er0 := hbr.c0
      have er1 := hbr.c1
      have er2 := hbr.c2
      go_wp2_with fail
      refine (ltext_c _ R T true 0 _ hr hok HF HT9 (Lib.hid rfl)).mono ?_
      rintro e w31 ⟨rfl, hb⟩
      clear er0 er1 er2
      replace hba := hba.kept hb
      replace hbd := hbd.kept hb
      replace hbr := hbr.kept hb
      replace hbb := hbb.kept hb
      replace hbc := hbc.kept hb
      replace hbe9 := hbe9.kept hb
      replace hbg := hbg.kept hb
      replace hr := hr.below hb
      replace hsb := hsb.below hb
      replace hse9 := hse9.below hb
      replace hbf := hbf.trans (hb.mono hbf.size)
      clear hb
      have er0 := hbr.c0
      have er1 := hbr.c1
      have er2 := hbr.c2
      go_wp2_with fail
      refine (finite_b _ R true _ hr hok.1.2 HF).mono ?_
      rintro e w32 ⟨rfl, hb⟩
      clear er0 er1 er2
      replace hba := hba.kept hb
      replace hbd := hbd.kept hb
      replace hbr := hbr.kept hb
      replace hbb := hbb.kept hb
      replace hbc := hbc.kept hb
      replace hbe9 := hbe9.kept hb
      replace hbg := hbg.kept hb
      replace hr := hr.below hb
      replace hsb := hsb.below hb
      replace hse9 := hse9.below hb
      replace hbf := hbf.trans (hb.mono hbf.size)
      clear hb
      go_wp2_with fail
      go_ret
      exact ⟨rfl, hbf⟩
    case neg =>
      have k6 : (((od : Nat) : Int) == 1) = false := by rw [beq_eq_false_iff_ne]; omega
      by_cases hw : n % od = 0
      case pos =>
        have hdv := whole_den sg9 (n := n) (t := t) (f := v) HOD.out hw
        rw [← HD9.out, ← HR.out] at hdv
        have HF : Hid (true = fin R) := Lib.hid (fin_dvd2 hdv).symm
        have HPM : Hid (places R ≤ max t v) := Lib.hid (places_dvd hdv)
        clear hdv
        have eg := hbg.cell
        have er0 := hbr.c0
        have er1 := hbr.c1
        have er2 := hbr.c2
        go_wp2_with fail
        refine (zero_is _ _ _ hse9 hw).mono ?_
        rintro e w30 ⟨rfl, hb⟩
        clear eg er0 er1 er2
        replace hba := hba.kept hb
        replace hbd := hbd.kept hb
        replace hbr := hbr.kept hb
        replace hbb := hbb.kept hb
        replace hbc := hbc.kept hb
        replace hbe9 := hbe9.kept hb
        replace hbg := hbg.kept hb
        replace hr := hr.below hb
        replace hsb := hsb.below hb
        replace hse9 := hse9.below hb
        replace hbf := hbf.trans (hb.mono hbf.size)
        clear hb
        obtain ⟨p, hp⟩ : ∃ p, p = if true = true then places R else 0 := ⟨_, rfl⟩
        obtain ⟨T, hT⟩ : ∃ T, T = if true = true then litText R else [] := ⟨_, rfl⟩
        have hp2 : p = places R := by rw [hp]; rfl
        have hpm : ((p : Nat) : Int) ≤ max ((t : Nat) : Int) ((v : Nat) : Int) := by have h1 := HPM.out; rw [← hp2] at h1; omega
        have hT0 : 0 < T.length := by rw [show T = litText R by rw [hT]; rfl]; exact litText_ne R
        have hT2 : (0 : Int) < ((T.length : Nat) : Int) := by omega
        clear hp2
        have HP9 := Lib.hid hp
        have HT9 := Lib.hid hT
        clear hp hT
        have er0 := hbr.c0
        have er1 := hbr.c1
        have er2 := hbr.c2
        go_wp2_with fail
        refine (places_b _ R p true _ hr hok.1.2 HF HP9).mono ?_
        rintro e w31 ⟨rfl, hb⟩
        clear er0 er1 er2
        replace hba := hba.kept hb
        replace hbd := hbd.kept hb
        replace hbr := hbr.kept hb
        replace hbb := hbb.kept hb
        replace hbc := hbc.kept hb
        replace hbe9 := hbe9.kept hb
        replace hbg := hbg.kept hb
        replace hr := hr.below hb
        replace hsb := hsb.below hb
        replace hse9 := hse9.below hb
        replace hbf := hbf.trans (hb.mono hbf.size)
        clear hb
        have er0 := hbr.c0
        have er1 := hbr.c1
        have er2 := hbr.c2
        go_wp2_with fail
        refine (ltext_c _ R T true 0 _ hr hok HF HT9 (Lib.hid rfl)).mono ?_
        rintro e w32 ⟨rfl, hb⟩
        clear er0 er1 er2
        replace hba := hba.kept hb
        replace hbd := hbd.kept hb
        replace hbr := hbr.kept hb
        replace hbb := hbb.kept hb
        replace hbc := hbc.kept hb
        replace hbe9 := hbe9.kept hb
        replace hbg := hbg.kept hb
        replace hr := hr.below hb
        replace hsb := hsb.below hb
        replace hse9 := hse9.below hb
        replace hbf := hbf.trans (hb.mono hbf.size)
        clear hb
        have er0 := hbr.c0
        have er1 := hbr.c1
        have er2 := hbr.c2
        go_wp2_with fail
        refine (finite_b _ R true _ hr hok.1.2 HF).mono ?_
        rintro e w33 ⟨rfl, hb⟩
        clear er0 er1 er2
        replace hba := hba.kept hb
        replace hbd := hbd.kept hb
        replace hbr := hbr.kept hb
        replace hbb := hbb.kept hb
        replace hbc := hbc.kept hb
        replace hbe9 := hbe9.kept hb
        replace hbg := hbg.kept hb
        replace hr := hr.below hb
        replace hsb := hsb.below hb
        replace hse9 := hse9.below hb
        replace hbf := hbf.trans (hb.mono hbf.size)
        clear hb
        go_wp2_with fail
        go_ret
        exact ⟨rfl, hbf⟩
      case neg =>
        have hfn := other_not sg9 (t := t) (f := v) HOD.out ho1 hw
        rw [← HD9.out, ← HR.out] at hfn
        have HF : Hid (false = fin R) := Lib.hid hfn.symm
        clear hfn
        have eg := hbg.cell
        have er0 := hbr.c0
        have er1 := hbr.c1
        have er2 := hbr.c2
        go_wp2_with fail
        refine (zero_no _ _ _ hse9 hw).mono ?_
        rintro e w30 ⟨rfl, hb⟩
        clear eg er0 er1 er2
        replace hba := hba.kept hb
        replace hbd := hbd.kept hb
        replace hbr := hbr.kept hb
        replace hbb := hbb.kept hb
        replace hbc := hbc.kept hb
        replace hbe9 := hbe9.kept hb
        replace hbg := hbg.kept hb
        replace hr := hr.below hb
        replace hsb := hsb.below hb
        replace hse9 := hse9.below hb
        replace hbf := hbf.trans (hb.mono hbf.size)
        clear hb
        obtain ⟨p, hp⟩ : ∃ p, p = if false = true then places R else 0 := ⟨_, rfl⟩
        obtain ⟨T, hT⟩ : ∃ T, T = if false = true then litText R else [] := ⟨_, rfl⟩
        have hp2 : p = 0 := by rw [hp]; rfl
        have hT2 : T = [] := by rw [hT]; rfl
        subst hp2; subst hT2
        have HP9 := Lib.hid hp
        have HT9 := Lib.hid hT
        clear hp hT
        have er0 := hbr.c0
        have er1 := hbr.c1
        have er2 := hbr.c2
        go_wp2_with fail
        refine (places_b _ R 0 false _ hr hok.1.2 HF HP9).mono ?_
        rintro e w31 ⟨rfl, hb⟩
        clear er0 er1 er2
        replace hba := hba.kept hb
        replace hbd := hbd.kept hb
        replace hbr := hbr.kept hb
        replace hbb := hbb.kept hb
        replace hbc := hbc.kept hb
        replace hbe9 := hbe9.kept hb
        replace hbg := hbg.kept hb
        replace hr := hr.below hb
        replace hsb := hsb.below hb
        replace hse9 := hse9.below hb
        replace hbf := hbf.trans (hb.mono hbf.size)
        clear hb
        have er0 := hbr.c0
        have er1 := hbr.c1
        have er2 := hbr.c2
        go_wp2_with fail
        refine (ltext_c _ R [] false 14 _ hr hok HF HT9 (Lib.hid rfl)).mono ?_
        rintro e w32 ⟨rfl, hb⟩
        clear er0 er1 er2
        replace hba := hba.kept hb
        replace hbd := hbd.kept hb
        replace hbr := hbr.kept hb
        replace hbb := hbb.kept hb
        replace hbc := hbc.kept hb
        replace hbe9 := hbe9.kept hb
        replace hbg := hbg.kept hb
        replace hr := hr.below hb
        replace hsb := hsb.below hb
        replace hse9 := hse9.below hb
        replace hbf := hbf.trans (hb.mono hbf.size)
        clear hb
        have er0 := hbr.c0
        have er1 := hbr.c1
        have er2 := hbr.c2
        go_wp2_with fail
        refine (finite_b _ R false _ hr hok.1.2 HF).mono ?_
        rintro e w33 ⟨rfl, hb⟩
        clear er0 er1 er2
        replace hba := hba.kept hb
        replace hbd := hbd.kept hb
        replace hbr := hbr.kept hb
        replace hbb := hbb.kept hb
        replace hbc := hbc.kept hb
        replace hbe9 := hbe9.kept hb
        replace hbg := hbg.kept hb
        replace hr := hr.below hb
        replace hsb := hsb.below hb
        replace hse9 := hse9.below hb
        replace hbf := hbf.trans (hb.mono hbf.size)
        clear hb
        go_wp2_with fail
        go_ret
        exact ⟨rfl, hbf⟩

theorem wf_u64 {a : Int} (h : (Lit.int .u64 a).wf = true) : 0 ≤ a ∧ a < 18446744073709551616 := by
  simp [Lit.wf, IntKind.min, IntKind.max, IntKind.signed, IntKind.bits] at h; omega
theorem decFinite_walk (a0 a1 a2 a3 : Int) (w0 : (Lit.int .u64 a0).wf = true) (w1 : (Lit.int .i64 a1).wf = true) (w2 : (Lit.int .i64 a2).wf = true) (w3 : (Lit.int .i64 a3).wf = true) (w : World) :
    Calls Tryd.prog 3 #[.int .u64 a0, .int .i64 a1, .int .i64 a2, .int .i64 a3] w fun e w' => e = .returned (.bool true) ∧ Below w.heap.size w w' := by
  have h0 := wf_u64 w0
  by_cases h : a0.toNat = 0 ∨ a1 < 0 ∨ 60 < a1 ∨ a2 < 0 ∨ 60 < a2
  · have := decFinite_early a0.toNat a1 a2 a3 w h
    rwa [Int.toNat_of_nonneg h0.1] at this
  · have := decFinite_main a0.toNat a1.toNat a2.toNat a3 w (by omega) (by omega) (by omega) (by omega)
    rwa [Int.toNat_of_nonneg h0.1, Int.toNat_of_nonneg (by omega), Int.toNat_of_nonneg (by omega)] at this

end Go.Proofs.YtkghahehkeaikaaDoor
