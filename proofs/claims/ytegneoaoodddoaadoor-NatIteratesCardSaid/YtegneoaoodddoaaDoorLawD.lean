/-
  NatDigits: the walk.
-/
import Derived.Test.YtegneoaoodddoaaDoorNatN4
import Derived.Test.YtegneoaoodddoaaDoorNatN2
import Derived.Test.YtegneoaoodddoaaDoorSeqA
import Derived.Deep.LoopGhost
namespace Go.Proofs.YtegneoaoodddoaaDoor
open Go.RowKit
set_option linter.unusedVariables false
set_option linter.unusedSimpArgs false
attribute [local go_sem] field_nat

theorem bytes_of (b : ByteArray) : ∃ l : List UInt8, b = ⟨l.toArray⟩ ∧ b.size = l.length := by
  obtain ⟨⟨l⟩⟩ := b
  exact ⟨l, rfl, by simp [ByteArray.size]⟩

set_option maxRecDepth 100000 in
set_option maxHeartbeats 1000000 in
theorem natDigits_early (l : List UInt8) (n : Int) (h : 300 < l.length ∨ n < 0 ∨ 1300 < n) (w : World) :
    Calls Tryd.prog 3 #[.string ⟨l.toArray⟩, .int .i64 n] w fun e w' => e = .returned (.bool true) ∧ Below w.heap.size w w' := by
  by_cases h1 : 300 < l.length
  · clear h
    go_enter Tryd.func3, Tryd.ntmps3
    go_wp2_with (go_at_call 10; refine (alive_any _).mono ?_; rintro e w' ⟨rfl, hb⟩)
    go_ret
    exact ⟨rfl, hb⟩
  · by_cases h2 : n < 0
    · clear h
      go_enter Tryd.func3, Tryd.ntmps3
      go_wp2_with (go_at_call 10; refine (alive_any _).mono ?_; rintro e w' ⟨rfl, hb⟩)
      go_ret
      exact ⟨rfl, hb⟩
    · have h3 : 1300 < n := by omega
      clear h
      go_enter Tryd.func3, Tryd.ntmps3
      go_wp2_with (go_at_call 10; refine (alive_any _).mono ?_; rintro e w' ⟨rfl, hb⟩)
      go_ret
      exact ⟨rfl, hb⟩

theorem str_dec_zero : str (dec 0) = [48] := by decide

set_option maxRecDepth 100000 in
set_option maxHeartbeats 1000000 in
theorem natDigits_bad (l : List UInt8) (n : Int) (h1 : l.length ≤ 300) (h2 : 0 ≤ n) (h3 : n ≤ 1300) (hok : numOk l = false) (w : World) :
    Calls Tryd.prog 3 #[.string ⟨l.toArray⟩, .int .i64 n] w fun e w' => e = .returned (.bool true) ∧ Below w.heap.size w w' := by
  have HOK := Lib.hid hok; clear hok
  go_enter Tryd.func3, Tryd.ntmps3
  go_wp2_with fail
  refine (alive_any _).mono ?_
  rintro e w1 ⟨rfl, hb1⟩
  go_wp2_with fail
  refine (parse_any l w1 (by omega)).mono ?_
  rintro e w2 ⟨r, rfl, hn2, hb2⟩
  have hc : pcode l = 3 := by unfold pcode; rw [HOK.out]; rfl
  have hv : pval l = 0 := by unfold pval; rw [HOK.out]; rfl
  rw [hv] at hn2
  rw [hc]
  clear hc hv
  obtain ⟨ao, ca, rfl, _, _, _, _⟩ := hn2.open
  obtain ⟨w3, hw3⟩ : ∃ w3, w3 = w2.alloc (.cells #[Value.slice ao (limbs 0).length ca] 25) := ⟨_, rfl⟩
  have hbx : Box w3 w2.heap.size (Value.slice ao (limbs 0).length ca) := by rw [hw3]; exact ⟨by go_simp, by go_simp, by simp⟩
  have hb3 : Below w2.heap.size w2 w3 := by rw [hw3]; exact (Below.refl _ w2).alloc (Nat.le_refl _) _
  have hn3 := hn2.below hb3
  have hbf := (hb1.trans (hb2.mono hb1.size)).trans (hb3.mono (hb1.trans (hb2.mono hb1.size)).size)
  have HW := Lib.hid hw3; clear hw3
  have e3 := hbx.cell
  have HT := Lib.hid str_dec_zero
  go_upto_region 5 with fail
  rw [← HW.out]
  go_wp2_with fail
  refine (zero_any _ _ _ hn3).mono ?_
  rintro e w4 ⟨rfl, hb4⟩
  have hbx4 := hbx.kept hb4
  have e4 := hbx4.cell
  clear e3
  go_wp2_with fail
  refine (text_any _ 0 _ (hn3.below hb4) (by rw [limbs_zero]; simp)).mono ?_
  rintro e w5 ⟨rfl, hb5⟩
  rw [HT.out]
  go_wp2
  go_ret
  exact ⟨rfl, (hbf.trans (hb4.mono hbf.size)).trans (hb5.mono (hbf.trans (hb4.mono hbf.size)).size)⟩

theorem pcode_nought {l : List UInt8} (h : numOk l = true) : pcode (48 :: l) = 3 := by
  have h2 : numOk (48 :: l) = false := by
    cases l with
    | nil => simp [numOk] at h
    | cons c l => simp [numOk]
  unfold pcode; rw [h2]; rfl
theorem pcode_minus (l : List UInt8) : pcode (45 :: l) = 3 := by
  have h2 : numOk (45 :: l) = false := by simp [numOk, isDig]
  unfold pcode; rw [h2]; rfl
theorem cons_bytes (c : UInt8) (l : List UInt8) : (⟨#[c]⟩ ++ ⟨l.toArray⟩ : ByteArray) = ⟨(c :: l).toArray⟩ := by
  apply ByteArray.ext
  simp

theorem set_nine {i g : Nat} (h : 0 < g) : (List.replicate i 57 ++ List.replicate g 0).set i 57 = List.replicate (i + 1) 57 ++ List.replicate (g - 1) 0 := by
  obtain ⟨m, rfl⟩ : ∃ m, g = m + 1 := ⟨g - 1, by omega⟩
  rw [List.set_append_right _ _ (by simp)]
  simp only [List.length_replicate, Nat.sub_self, List.replicate_succ, List.set_cons_zero, Nat.add_sub_cancel]
  rw [show (57 : Nat) :: List.replicate i 57 = List.replicate i 57 ++ [57] by rw [← List.replicate_succ, List.replicate_succ']]
  simp

theorem str_rep (k c : Nat) : str (List.replicate k c) = List.replicate k (UInt8.ofNat c) := by simp [str]
theorem numOk_nines {k : Nat} (h : 0 < k) : numOk (List.replicate k 57) = true := by
  obtain ⟨m, rfl⟩ : ∃ m, k = m + 1 := ⟨k - 1, by omega⟩
  simp [numOk, isDig, List.replicate_succ]
theorem numOk_ten (k : Nat) : numOk (49 :: List.replicate k 48) = true := by
  simp [numOk, isDig]
theorem dnum_nines (k : Nat) : dnum (List.replicate k 57) + 1 = dnum (49 :: List.replicate k 48) := by
  induction k with
  | zero => rfl
  | succ k ih =>
    rw [List.replicate_succ', List.replicate_succ', dnum_snoc, ← List.cons_append, dnum_snoc, ← ih]
    have e1 : (57 : UInt8).toNat = 57 := rfl
    have e2 : (48 : UInt8).toNat = 48 := rfl
    rw [e1, e2]; omega
theorem dec_length {l : List UInt8} (h : numOk l = true) : (dec (dnum l)).length = l.length := by
  have := congrArg List.length (dec_dnum l h)
  simpa using this
/-- What is made of so many nines. -/
theorem nines_digits {k : Nat} (h : 0 < k) : (dec (dnum (List.replicate k 57))).length = k ∧ (dec (dnum (List.replicate k 57) + 1)).length = k + 1 := by
  refine ⟨by rw [dec_length (numOk_nines h)]; simp, ?_⟩
  rw [dnum_nines, dec_length (numOk_ten k)]
  simp
theorem foldl_lt (l : List UInt8) (hd : l.all isDig = true) : ∀ a, l.foldl (fun a c => a * 10 + (c.toNat - 48)) a < (a + 1) * 10 ^ l.length := by
  induction l with
  | nil => intro a; simp
  | cons c l ih =>
    intro a
    simp only [List.all_cons, Bool.and_eq_true, isDig, decide_eq_true_eq] at hd
    rw [List.foldl_cons, List.length_cons, Nat.pow_succ]
    refine Nat.lt_of_lt_of_le (ih (by simpa [isDig] using hd.2) _) ?_
    rw [Nat.mul_comm (10 ^ l.length) 10, ← Nat.mul_assoc]
    exact Nat.mul_le_mul_right _ (by omega)
theorem limbs_dnum {l : List UInt8} {m : Nat} (hd : l.all isDig = true) (h : l.length ≤ m) : (limbs (dnum l)).length ≤ m := by
  refine limbs_length_le ?_
  have h1 : dnum l < 10 ^ l.length := by
    have := foldl_lt l hd 0
    simpa [dnum] using this
  exact Nat.lt_of_lt_of_le h1 (Nat.le_trans (Nat.pow_le_pow_left (by omega) _) (Nat.pow_le_pow_right (by omega) h))

/-- A number parsed goes into a box of its own. -/
theorem box_nat {w2 : World} {n : Nat} {r : Value} (hn : NatIs w2 r n) : ∃ sv, r = .agg #[sv] ∧ (∃ ao len cap, sv = .slice ao len cap) ∧ Box (w2.alloc (.cells #[sv] 25)) w2.heap.size sv ∧ Below w2.heap.size w2 (w2.alloc (.cells #[sv] 25)) ∧ NatIs (w2.alloc (.cells #[sv] 25)) r n := by
  obtain ⟨ao, ca, rfl, _, _, _, _⟩ := hn.open
  have hb : Below w2.heap.size w2 (w2.alloc (.cells #[.slice ao (limbs n).length ca] 25)) := (Below.refl _ w2).alloc (Nat.le_refl _) _
  exact ⟨_, rfl, ⟨_, _, _, rfl⟩, ⟨by go_simp, by go_simp, by simp⟩, hb, hn.below hb⟩

set_option maxRecDepth 100000 in
set_option maxHeartbeats 1000000 in
theorem natDigits_good (l : List UInt8) (k : Nat) (h1 : l.length ≤ 300) (h3 : k ≤ 1300) (hok : numOk l = true) (w : World) :
    Calls Tryd.prog 3 #[.string ⟨l.toArray⟩, .int .i64 (k : Int)] w fun e w' => e = .returned (.bool true) ∧ Below w.heap.size w w' := by
  have HOK := Lib.hid hok; clear hok
  go_enter Tryd.func3, Tryd.ntmps3
  go_wp2_with fail
  refine (alive_any _).mono ?_
  rintro e w1 ⟨rfl, hb1⟩
  go_wp2_with fail
  refine (parse_any l w1 (by omega)).mono ?_
  rintro e w2 ⟨r, rfl, hn2, hb2⟩
  have hc : pcode l = 0 := by unfold pcode; rw [HOK.out, if_pos rfl, if_neg (by omega)]
  have hv : pval l = dnum l := by unfold pval; rw [HOK.out, if_pos rfl, if_neg (by omega)]
  rw [hv] at hn2
  rw [hc]
  clear hc hv
  obtain ⟨A, hA⟩ : ∃ A, A = dnum l := ⟨_, rfl⟩
  rw [← hA] at hn2
  have HA := Lib.hid hA; clear hA
  obtain ⟨sv, rfl, ⟨ao, len, ca, rfl⟩, hbx, hb3, hn3⟩ := box_nat hn2
  obtain ⟨w3, hw3⟩ : ∃ w3, w3 = w2.alloc (.cells #[Value.slice ao len ca] 25) := ⟨_, rfl⟩
  rw [← hw3] at hbx hb3 hn3
  have hbf := (hb1.trans (hb2.mono hb1.size)).trans (hb3.mono (hb1.trans (hb2.mono hb1.size)).size)
  have HW := Lib.hid hw3; clear hw3
  go_upto_region 6 with fail
  rw [← HW.out]
  go_wp2_with fail
  rw [cons_bytes]
  refine (parse_any (48 :: l) w3 (by simp; omega)).mono ?_
  rintro e w4 ⟨r, rfl, hn4, hb4⟩
  rw [pcode_nought HOK.out]
  obtain ⟨sv, rfl, ⟨ao4, len4, ca4, rfl⟩, -, hb5, -⟩ := box_nat hn4
  obtain ⟨w5, hw5⟩ : ∃ w5, w5 = w4.alloc (.cells #[Value.slice ao4 len4 ca4] 25) := ⟨_, rfl⟩
  rw [← hw5] at hb5
  have hbx5 := (hbx.kept hb4).kept hb5
  have hb35 := hb4.trans (hb5.mono hb4.size)
  have hbf5 := hbf.trans (hb35.mono hbf.size)
  have HW5 := Lib.hid hw5; clear hw5 hn4 hb4 hb5
  go_upto_region 7 with fail
  rw [← HW5.out]
  go_wp2_with fail
  rw [cons_bytes]
  refine (parse_any (45 :: l) w5 (by simp; omega)).mono ?_
  rintro e w6 ⟨r, rfl, hn6, hb6⟩
  rw [pcode_minus l]
  obtain ⟨sv, rfl, ⟨ao6, len6, ca6, rfl⟩, -, hb7, -⟩ := box_nat hn6
  obtain ⟨w7, hw7⟩ : ∃ w7, w7 = w6.alloc (.cells #[Value.slice ao6 len6 ca6] 25) := ⟨_, rfl⟩
  rw [← hw7] at hb7
  have hbx7 := (hbx5.kept hb6).kept hb7
  have hb57 := hb6.trans (hb7.mono hb6.size)
  have hb37 := hb35.trans (hb57.mono hb35.size)
  have hbf7 := hbf.trans (hb37.mono hbf.size)
  have HW7 := Lib.hid hw7; clear hw7 hn6 hb6 hb7
  go_upto_region 8 with fail
  rw [← HW7.out]
  go_wp2_with (at_make; refine makeN E8 (n := k) rfl rfl rfl rfl (by omega) (by unfold maxLen; omega) ?_; intro w8 ho8 hb8)
  have hm8 := ho8.mut
  go_loopg [12] k (fun gg iv wr => ∃ i, i + gg = k ∧ iv = .int .i64 (i : Int) ∧ Mut .u8 wr w7.heap.size 0 (List.replicate i 57 ++ List.replicate gg 0) ∧ Below w7.heap.size w7 wr)
  case atStart => exact ⟨0, by omega, rfl, hm8, hb8⟩
  case round =>
    obtain ⟨i, hi, rfl, hm, hbr⟩ := hrel
    by_cases hik : i < k
    · have c1 := hm.cell i (by simp; omega)
      have f1 := hm.free i (by simp; omega)
      rw [Nat.zero_add] at c1 f1
      have HM := Lib.hid hm; clear hm
      go_wp2
      go_roundg (gk - 1)
      case measure => omega
      case rel =>
        refine ⟨i + 1, by omega, by go_num, ?_, hbr.setCell (p := ⟨w7.heap.size, i, none⟩) (Nat.le_refl _) _⟩
        have h4 := HM.out.set i 57 (by simp; omega)
        rw [set_nine (by omega), Nat.zero_add] at h4
        exact h4
    · obtain rfl : gk = 0 := by omega
      obtain rfl : i = k := by omega
      simp only [List.replicate_zero, List.append_nil] at hm
      have hcv := conv_string (P := Tryd.prog) Tryd.underlying30 Tryd.underlying5 Tryd.underlying9 hm.cells i
      rw [List.length_replicate] at hcv
      have hbxr := hbx7.kept hbr
      have hnr := hn3.below (hb37.trans (hbr.mono hb37.size))
      have hbfr := hbf7.trans (hbr.mono hbf7.size)
      clear hm hm8 ho8 hb8
      go_wp2_with fail
      refine (parse_any _ _ (by simp [str]; omega)).mono ?_
      rintro e w9 ⟨r, rfl, hn9, hb9⟩
      rw [str_rep] at hn9 ⊢
      obtain ⟨c, hc⟩ : ∃ c, c = pcode (List.replicate i (UInt8.ofNat 57)) := ⟨_, rfl⟩
      obtain ⟨B, hB⟩ : ∃ B, B = pval (List.replicate i (UInt8.ofNat 57)) := ⟨_, rfl⟩
      rw [← hB] at hn9
      rw [← hc]
      have HC := Lib.hid hc; clear hc
      have HB := Lib.hid hB; clear hB
      obtain ⟨sv, rfl, ⟨ao9, len9, ca9, rfl⟩, hbx10, hb10, hn10⟩ := box_nat hn9
      obtain ⟨w10, hw10⟩ : ∃ w10, w10 = w9.alloc (.cells #[Value.slice ao9 len9 ca9] 25) := ⟨_, rfl⟩
      rw [← hw10] at hb10 hbx10 hn10
      have hbx11 := (hbxr.kept hb9).kept hb10
      have hb910 := hb9.trans (hb10.mono hb9.size)
      have hbf10 := hbfr.trans (hb910.mono hbfr.size)
      have hnA := hnr.below hb910
      have HW10 := Lib.hid hw10; clear hw10 hn9 hb9 hb10 hcv
      go_upto_region 14 with fail
      rw [← HW10.out]
      have e1 := hbx11.cell
      have e2 := hbx10.cell
      have HT : Hid (str (dec A) = l) := Lib.hid (by rw [HA.out]; exact str_dec HOK.out)
      have HD : Hid ((dec A).length = l.length) := Lib.hid (by rw [HA.out]; exact dec_length HOK.out)
      have hlA : (limbs A).length ≤ 100000 := by
        rw [HA.out]
        refine limbs_dnum ?_ (by omega)
        have := HOK.out
        simp only [numOk, Bool.and_eq_true] at this
        exact this.1
      by_cases hk0 : i = 0
      · have hc3 : c = 3 := by rw [HC.out, hk0]; rfl
        subst hk0
        subst hc3
        go_wp2_with fail
        refine wp_region_seq (S := fun w' => w'.cell? ⟨w2.heap.size, 0, none⟩ = some (Value.slice ao len ca) ∧ w'.cell? ⟨w9.heap.size, 0, none⟩ = some (Value.slice ao9 len9 ca9) ∧ Below w10.heap.size w10 w') [(true, 0), (true, 2), (false, 1), (true, 3), (true, 4), (true, 5), (true, 7), (true, 8), (false, 6), (true, 9), (true, 10), (true, 11), (true, 12), (true, 13), (true, 14), (true, 15), (true, 16), (true, 17), (true, 18), (true, 19), (true, 20), (true, 21), (true, 22), (true, 23), (true, 24), (true, 25), (true, 26), (true, 27), (true, 28), (true, 30), (false, 29), (true, 31), (true, 32), (true, 33), (true, 37), (true, 38), (false, 34), (false, 35), (false, 36), (true, 39), (true, 40), (true, 41), (true, 42), (true, 43)] (by kernel_rfl) (by kernel_rfl) (by kernel_rfl) (by kernel_rfl) (by kernel_rfl) (fun d _ _ _ _ h => by cases d <;> exact h) ?_ (fun hHeld => ?_)
        · first | assumption | exact ⟨e1, e2, (Below.refl _ _).drew⟩
        simp only [pickOps, List.getElem?_toArray, List.getElem?_cons_succ, List.getElem?_cons_zero]
        repeat (first
          | (refine seq_take (v := ?_) (by rfl) ?_ ?_; rotate_left; (· intro w hSw; (try dsimp only at hSw); go_simp; all_goals with_reducible rfl); (try simp only [Act.put, List.setIfInBounds_toArray, List.set_cons_zero, List.set_cons_succ]))
          | (refine seq_leave (by rfl) ?_; (try simp only [Act.put, List.setIfInBounds_toArray, List.set_cons_zero, List.set_cons_succ]))
          | (refine seq_pass (by rfl) (by assumption) ?_; (try simp only [Act.put, List.setIfInBounds_toArray, List.set_cons_zero, List.set_cons_succ]))
          | (refine seq_step (by rfl) (fun K hK => ?_); go_simp; (first
              | (go_at_call 13; refine (text_any _ A _ (held2_nat hnA (by assumption)) hlA).mono ?_; rintro e w' ⟨rfl, hb'⟩; rw [HT.out]; have hS := held2 hb' (by assumption))
              | (go_at_call_of 14 (Value.agg #[Value.slice ao len ca]); refine (digits_any _ A _ (held2_nat hnA (by assumption)) hlA).mono ?_; rintro e w' ⟨rfl, hb'⟩; rw [HD.out]; have hS := held2 hb' (by assumption))
              | (go_at_call_of 14 (Value.agg #[Value.slice ao9 len9 ca9]); refine (digits_any _ B _ (held2_nat hn10 (by assumption)) hlB).mono ?_; rintro e w' ⟨rfl, hb'⟩; rw [HD1.out]; have hS := held2 hb' (by assumption))
              | (go_at_call 16; refine (of_any 1 _ (by omega)).mono ?_; rintro e w' ⟨r1, rfl, hn1, hb'⟩; have hS := held2 hb' (by assumption))
              | (go_at_call 15; refine (add_any _ _ B 1 _ (held2_nat hn10 (by assumption)) (by assumption) (by omega) (limbs_small (by omega))).mono ?_; rintro e w' ⟨rs, rfl, hns, hb'⟩; have hS := held2 hb' (by assumption))
              | (go_at_call 14; refine (digits_any _ (B + 1) _ (by assumption) hlB1).mono ?_; rintro e w' ⟨rfl, hb'⟩; rw [HD2.out]; have hS := held2 hb' (by assumption))); (first | refine hK.out _ _ ?_ (fun hHeld => ?_) | (go_wp2_with fail; refine hK.out _ _ ?_ (fun hHeld => ?_))); (· first | assumption | exact ⟨e1, e2, (Below.refl _ _).drew⟩); clear hK K; (try simp only [Act.put, List.setIfInBounds_toArray, List.set_cons_zero, List.set_cons_succ])))
        refine seq_end ?_
        go_wp2
        go_ret
        exact ⟨rfl, hbf10.trans (hHeld.2.2.mono hbf10.size)⟩
      · by_cases hk1 : 1200 < i
        · have hc2 : c = 2 := by
            rw [HC.out]; unfold pcode
            have := numOk_nines (k := i) (by omega)
            rw [show UInt8.ofNat 57 = 57 from rfl, this, if_pos rfl, if_pos (by simpa using hk1)]
          subst hc2
          go_wp2_with fail
          refine wp_region_seq (S := fun w' => w'.cell? ⟨w2.heap.size, 0, none⟩ = some (Value.slice ao len ca) ∧ w'.cell? ⟨w9.heap.size, 0, none⟩ = some (Value.slice ao9 len9 ca9) ∧ Below w10.heap.size w10 w') [(true, 0), (true, 2), (false, 1), (true, 3), (true, 4), (true, 5), (true, 7), (true, 8), (false, 6), (true, 9), (true, 10), (true, 11), (true, 12), (true, 13), (true, 14), (true, 15), (true, 16), (true, 17), (true, 18), (true, 19), (true, 20), (true, 21), (true, 22), (true, 23), (true, 24), (true, 25), (true, 26), (true, 27), (true, 28), (true, 30), (false, 29), (true, 31), (true, 32), (true, 33), (true, 37), (true, 38), (false, 34), (false, 35), (false, 36), (true, 39), (true, 40), (true, 41), (true, 42), (true, 43)] (by kernel_rfl) (by kernel_rfl) (by kernel_rfl) (by kernel_rfl) (by kernel_rfl) (fun d _ _ _ _ h => by cases d <;> exact h) ?_ (fun hHeld => ?_)
          · first | assumption | exact ⟨e1, e2, (Below.refl _ _).drew⟩
          simp only [pickOps, List.getElem?_toArray, List.getElem?_cons_succ, List.getElem?_cons_zero]
          repeat (first
            | (refine seq_take (v := ?_) (by rfl) ?_ ?_; rotate_left; (· intro w hSw; (try dsimp only at hSw); go_simp; all_goals with_reducible rfl); (try simp only [Act.put, List.setIfInBounds_toArray, List.set_cons_zero, List.set_cons_succ]))
            | (refine seq_leave (by rfl) ?_; (try simp only [Act.put, List.setIfInBounds_toArray, List.set_cons_zero, List.set_cons_succ]))
            | (refine seq_pass (by rfl) (by assumption) ?_; (try simp only [Act.put, List.setIfInBounds_toArray, List.set_cons_zero, List.set_cons_succ]))
            | (refine seq_step (by rfl) (fun K hK => ?_); go_simp; (first
                | (go_at_call 13; refine (text_any _ A _ (held2_nat hnA (by assumption)) hlA).mono ?_; rintro e w' ⟨rfl, hb'⟩; rw [HT.out]; have hS := held2 hb' (by assumption))
                | (go_at_call_of 14 (Value.agg #[Value.slice ao len ca]); refine (digits_any _ A _ (held2_nat hnA (by assumption)) hlA).mono ?_; rintro e w' ⟨rfl, hb'⟩; rw [HD.out]; have hS := held2 hb' (by assumption))
                | (go_at_call_of 14 (Value.agg #[Value.slice ao9 len9 ca9]); refine (digits_any _ B _ (held2_nat hn10 (by assumption)) hlB).mono ?_; rintro e w' ⟨rfl, hb'⟩; rw [HD1.out]; have hS := held2 hb' (by assumption))
                | (go_at_call 16; refine (of_any 1 _ (by omega)).mono ?_; rintro e w' ⟨r1, rfl, hn1, hb'⟩; have hS := held2 hb' (by assumption))
                | (go_at_call 15; refine (add_any _ _ B 1 _ (held2_nat hn10 (by assumption)) (by assumption) (by omega) (limbs_small (by omega))).mono ?_; rintro e w' ⟨rs, rfl, hns, hb'⟩; have hS := held2 hb' (by assumption))
                | (go_at_call 14; refine (digits_any _ (B + 1) _ (by assumption) hlB1).mono ?_; rintro e w' ⟨rfl, hb'⟩; rw [HD2.out]; have hS := held2 hb' (by assumption))); (first | refine hK.out _ _ ?_ (fun hHeld => ?_) | (go_wp2_with fail; refine hK.out _ _ ?_ (fun hHeld => ?_))); (· first | assumption | exact ⟨e1, e2, (Below.refl _ _).drew⟩); clear hK K; (try simp only [Act.put, List.setIfInBounds_toArray, List.set_cons_zero, List.set_cons_succ])))
          refine seq_end ?_
          go_wp2
          go_ret
          exact ⟨rfl, hbf10.trans (hHeld.2.2.mono hbf10.size)⟩
        · have hc0 : c = 0 := by
            rw [HC.out]; unfold pcode
            have := numOk_nines (k := i) (by omega)
            rw [show UInt8.ofNat 57 = 57 from rfl, this, if_pos rfl, if_neg (by simpa using hk1)]
          subst hc0
          have hB2 : B = dnum (List.replicate i 57) := by
            rw [HB.out]; unfold pval
            have := numOk_nines (k := i) (by omega)
            rw [show UInt8.ofNat 57 = 57 from rfl, this, if_pos rfl, if_neg (by simpa using hk1)]
          have hlB : (limbs B).length ≤ 100000 := by
            rw [hB2]
            refine limbs_dnum ?_ (by simp; omega)
            have := numOk_nines (k := i) (by omega)
            simp only [numOk, Bool.and_eq_true] at this
            exact this.1
          have hlB1 : (limbs (B + 1)).length ≤ 100000 := by
            rw [hB2, dnum_nines]
            refine limbs_dnum ?_ (by simp; omega)
            have := numOk_ten i
            simp only [numOk, Bool.and_eq_true] at this
            exact this.1
          obtain ⟨hd1, hd2⟩ := nines_digits (k := i) (by omega)
          rw [← hB2] at hd1 hd2
          have HD1 := Lib.hid hd1
          have HD2 := Lib.hid hd2
          clear hd1 hd2 hB2
          have hwr : IntKind.i64.wrap ((i : Int) + 1) = (i : Int) + 1 := IntWalk.i64_in _ (by omega)
          go_wp2_with fail
          refine wp_region_seq (S := fun w' => w'.cell? ⟨w2.heap.size, 0, none⟩ = some (Value.slice ao len ca) ∧ w'.cell? ⟨w9.heap.size, 0, none⟩ = some (Value.slice ao9 len9 ca9) ∧ Below w10.heap.size w10 w') [(true, 0), (true, 2), (false, 1), (true, 3), (true, 4), (true, 5), (true, 7), (true, 8), (false, 6), (true, 9), (true, 10), (true, 11), (true, 12), (true, 13), (true, 14), (true, 15), (true, 16), (true, 17), (true, 18), (true, 19), (true, 20), (true, 21), (true, 22), (true, 23), (true, 24), (true, 25), (true, 26), (true, 27), (true, 28), (true, 30), (false, 29), (true, 31), (true, 32), (true, 33), (true, 37), (true, 38), (false, 34), (false, 35), (false, 36), (true, 39), (true, 40), (true, 41), (true, 42), (true, 43)] (by kernel_rfl) (by kernel_rfl) (by kernel_rfl) (by kernel_rfl) (by kernel_rfl) (fun d _ _ _ _ h => by cases d <;> exact h) ?_ (fun hHeld => ?_)
          · first | assumption | exact ⟨e1, e2, (Below.refl _ _).drew⟩
          simp only [pickOps, List.getElem?_toArray, List.getElem?_cons_succ, List.getElem?_cons_zero]
          repeat (first
            | (refine seq_take (v := ?_) (by rfl) ?_ ?_; rotate_left; (· intro w hSw; (try dsimp only at hSw); go_simp; all_goals with_reducible rfl); (try simp only [Act.put, List.setIfInBounds_toArray, List.set_cons_zero, List.set_cons_succ]))
            | (refine seq_leave (by rfl) ?_; (try simp only [Act.put, List.setIfInBounds_toArray, List.set_cons_zero, List.set_cons_succ]))
            | (refine seq_pass (by rfl) (by assumption) ?_; (try simp only [Act.put, List.setIfInBounds_toArray, List.set_cons_zero, List.set_cons_succ]))
            | (refine seq_step (by rfl) (fun K hK => ?_); go_simp; (first
                | (go_at_call 13; refine (text_any _ A _ (held2_nat hnA (by assumption)) hlA).mono ?_; rintro e w' ⟨rfl, hb'⟩; rw [HT.out]; have hS := held2 hb' (by assumption))
                | (go_at_call_of 14 (Value.agg #[Value.slice ao len ca]); refine (digits_any _ A _ (held2_nat hnA (by assumption)) hlA).mono ?_; rintro e w' ⟨rfl, hb'⟩; rw [HD.out]; have hS := held2 hb' (by assumption))
                | (go_at_call_of 14 (Value.agg #[Value.slice ao9 len9 ca9]); refine (digits_any _ B _ (held2_nat hn10 (by assumption)) hlB).mono ?_; rintro e w' ⟨rfl, hb'⟩; rw [HD1.out]; have hS := held2 hb' (by assumption))
                | (go_at_call 16; refine (of_any 1 _ (by omega)).mono ?_; rintro e w' ⟨r1, rfl, hn1, hb'⟩; have hS := held2 hb' (by assumption))
                | (go_at_call 15; refine (add_any _ _ B 1 _ (held2_nat hn10 (by assumption)) (by assumption) (by omega) (limbs_small (by omega))).mono ?_; rintro e w' ⟨rs, rfl, hns, hb'⟩; have hS := held2 hb' (by assumption))
                | (go_at_call 14; refine (digits_any _ (B + 1) _ (by assumption) hlB1).mono ?_; rintro e w' ⟨rfl, hb'⟩; rw [HD2.out]; have hS := held2 hb' (by assumption))); (first | refine hK.out _ _ ?_ (fun hHeld => ?_) | (go_wp2_with fail; refine hK.out _ _ ?_ (fun hHeld => ?_))); (· first | assumption | exact ⟨e1, e2, (Below.refl _ _).drew⟩); clear hK K; (try simp only [Act.put, List.setIfInBounds_toArray, List.set_cons_zero, List.set_cons_succ])))
          refine seq_end ?_
          go_wp2
          go_ret
          exact ⟨rfl, hbf10.trans (hHeld.2.2.mono hbf10.size)⟩

set_option maxRecDepth 100000 in
theorem natDigits_walk (a0 : ByteArray) (a1 : Int) (w0 : a0.size ≤ maxLen) (w1 : (Lit.int .i64 a1).wf = true) (w : World) :
    Calls Tryd.prog 3 #[.string a0, .int .i64 a1] w fun e w' => e = .returned (.bool true) ∧ Below w.heap.size w w' := by
  obtain ⟨l, rfl, _⟩ := bytes_of a0
  by_cases h : 300 < l.length ∨ a1 < 0 ∨ 1300 < a1
  · exact natDigits_early l a1 h w
  · obtain ⟨k, rfl⟩ : ∃ k : Nat, a1 = (k : Int) := ⟨a1.toNat, by omega⟩
    cases hok : numOk l with
    | false => exact natDigits_bad l k (by omega) (by omega) (by omega) hok w
    | true => exact natDigits_good l k (by omega) (by omega) hok w
end Go.Proofs.YtegneoaoodddoaaDoor
