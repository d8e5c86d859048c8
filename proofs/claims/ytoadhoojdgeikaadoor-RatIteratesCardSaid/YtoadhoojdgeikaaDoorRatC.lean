import Derived.Test.YtoadhoojdgeikaaDoorRatB
import Derived.Test.YtoadhoojdgeikaaDoorMathS
import Derived.Test.YtoadhoojdgeikaaDoorSeqT
namespace Go.Proofs.YtoadhoojdgeikaaDoor
open Go.RowKit
set_option linter.unusedVariables false
set_option linter.unusedSimpArgs false
attribute [local go_sem] field_nat
theorem floor_keep {a : Rat} {s : Bool} (hs : Hid (s = decide (a < 0))) (h : (s && !decide (a.num.natAbs % a.den = 0)) = false) : qOf s (a.num.natAbs / a.den) 1 = (a.floor : Rat) := by
  have h1 := qfloor_is a
  rw [← hs.out, if_neg (by rw [h]; simp)] at h1
  exact h1
theorem floor_up {a : Rat} (hs : Hid (true = decide (a < 0))) (h : ¬ a.num.natAbs % a.den = 0) : qOf true (a.num.natAbs / a.den + 1) 1 = (a.floor : Rat) := by
  have h1 := qfloor_is a
  rw [← hs.out, if_pos (by simp [h])] at h1
  exact h1
theorem of_neg (v : Int) (h : v < 0) : qOf true v.natAbs 1 = (v : Rat) := by
  rw [qOf_one]; congr 1; simp [sg]; omega
theorem of_pos (v : Int) (h : 0 ≤ v) : qOf false v.natAbs 1 = (v : Rat) := by
  rw [qOf_one]; congr 1; simp [sg]; omega
theorem of_one (w : World) : Calls Tryd.prog 19 #[.int .u64 1] w fun e w' => ∃ r, e = .returned r ∧ NatIs w' r 1 ∧ Below w.heap.size w w' := of_any 1 w (by decide)
theorem of_two (w : World) : Calls Tryd.prog 19 #[.int .u64 2] w fun e w' => ∃ r, e = .returned r ∧ NatIs w' r 2 ∧ Below w.heap.size w w' := of_any 2 w (by decide)
theorem bytes_append (l m : List UInt8) : (⟨l.toArray⟩ ++ ⟨m.toArray⟩ : ByteArray) = ⟨(l ++ m).toArray⟩ := by
  apply ByteArray.ext
  simp
set_option maxRecDepth 100000 in
set_option maxHeartbeats 1000000 in
/-- Of. -/
theorem of_q (v : Int) (w : World) (hv1 : -9223372036854775808 ≤ v) (hv2 : v ≤ 9223372036854775807) :
    Calls Tryd.prog 22 #[.int .i64 v] w (QPost w (v : Rat)) := by
  obtain ⟨w0, hw0⟩ : ∃ w0, w0 = (w.alloc (.cells #[.bool false, .slice none 0 0, .slice none 0 0] 35)) := ⟨_, rfl⟩
  have hbf : Below w.heap.size w w0 := by rw [hw0]; exact ((Below.refl _ w).alloc (Nat.le_refl _) _)
  obtain ⟨pr, hpr⟩ : ∃ p, p = w.heap.size := ⟨_, rfl⟩
  have hbr : Box3 w0 pr (Value.bool false) (Value.slice none 0 0) (Value.slice none 0 0) := by rw [hw0, hpr]; exact ⟨by go_simp, by go_simp, by go_simp, by go_simp, by go_simp, by go_simp⟩
  have HP : Hid (w.heap.size ≤ pr) := Lib.hid (by omega)
  have HW := Lib.hid hw0; clear hw0
  go_enter Tryd.func22, Tryd.ntmps22
  go_upto_region 1 with fail
  rw [← HW.out, ← hpr]
  clear hpr HW
  have hl1 : (limbs 1).length ≤ 1000000 := limbs_bound (by decide) (by omega)
  have hl2 : (limbs v.natAbs).length ≤ 1000000 := Nat.le_trans (limbs_length_le (k := 2) (by omega)) (by omega)
  by_cases h0 : v < 0
  case pos =>
    have hE : IntKind.u64.wrap (-IntKind.u64.wrap v) = ((v.natAbs : Nat) : Int) := by simp only [IntKind.wrap, IntKind.bits, IntKind.signed, Bool.false_and, Bool.false_eq_true, if_false]; omega
    go_wp2_with fail
    refine (of_any v.natAbs _ (by omega)).mono ?_
    rintro e w1 ⟨r9, rfl, hn, hb⟩
    replace hbr := hbr.kept hb
    replace hbf := hbf.trans (hb.mono hbf.size)
    clear hb
    obtain ⟨nO, nL, nC, rfl⟩ := hn.form
    go_wp2_with fail
    refine (of_one _).mono ?_
    rintro e w2 ⟨r9, rfl, ho, hb⟩
    replace hbr := hbr.kept hb
    replace hn := hn.below hb
    replace hbf := hbf.trans (hb.mono hbf.size)
    clear hb
    obtain ⟨oO, oL, oC, rfl⟩ := ho.form
    go_wp2_with fail
    refine (lowest_any _ _ _ _ _ _ hn ho hl2 hl1 (by decide)).mono ?_
    rintro e w3 hq9
    obtain ⟨qB, qxO, qxL, qxC, qyO, qyL, qyC, rfl, hS, hqx, hqy, hq, hb⟩ := hq9.out
    have HqS := Lib.hid hS; clear hS
    replace hbr := hbr.kept hb
    replace hn := hn.below hb
    replace ho := ho.below hb
    replace hbf := hbf.trans (hb.mono hbf.size)
    clear hb
    rw [of_neg v h0] at hq
    have er0 := hbr.c0
    have fr0 := hbr.f0
    have er1 := hbr.c1
    have fr1 := hbr.f1
    have er2 := hbr.c2
    have fr2 := hbr.f2
    go_wp2_with fail
    exact end_q rfl rfl rfl hbr (show w.heap.size ≤ pr by have := HP.out; omega) hq hbf
  have hE : IntKind.u64.wrap v = ((v.natAbs : Nat) : Int) := by simp only [IntKind.wrap, IntKind.bits, IntKind.signed, Bool.false_and, Bool.false_eq_true, if_false]; omega
  go_wp2_with fail
  refine (of_any v.natAbs _ (by omega)).mono ?_
  rintro e w1 ⟨r9, rfl, hn, hb⟩
  replace hbr := hbr.kept hb
  replace hbf := hbf.trans (hb.mono hbf.size)
  clear hb
  obtain ⟨nO, nL, nC, rfl⟩ := hn.form
  go_wp2_with fail
  refine (of_one _).mono ?_
  rintro e w2 ⟨r9, rfl, ho, hb⟩
  replace hbr := hbr.kept hb
  replace hn := hn.below hb
  replace hbf := hbf.trans (hb.mono hbf.size)
  clear hb
  obtain ⟨oO, oL, oC, rfl⟩ := ho.form
  go_wp2_with fail
  refine (lowest_any _ _ _ _ _ _ hn ho hl2 hl1 (by decide)).mono ?_
  rintro e w3 hq9
  obtain ⟨qB, qxO, qxL, qxC, qyO, qyL, qyC, rfl, hS, hqx, hqy, hq, hb⟩ := hq9.out
  have HqS := Lib.hid hS; clear hS
  replace hbr := hbr.kept hb
  replace hn := hn.below hb
  replace ho := ho.below hb
  replace hbf := hbf.trans (hb.mono hbf.size)
  clear hb
  rw [of_pos v (by omega)] at hq
  have er0 := hbr.c0
  have fr0 := hbr.f0
  have er1 := hbr.c1
  have fr1 := hbr.f1
  have er2 := hbr.c2
  have fr2 := hbr.f2
  go_wp2_with fail
  exact end_q rfl rfl rfl hbr (show w.heap.size ≤ pr by have := HP.out; omega) hq hbf
set_option maxRecDepth 100000 in
set_option maxHeartbeats 1000000 in
/-- Round. -/
theorem round_any (va : Value) (a : Rat) (i : Nat) (w : World) (ha : QIs w va a) (hla : QB a i) (hi : i ≤ 90000) :
    Calls Tryd.prog 21 #[va] w (QPost w (qround a)) := by
  obtain ⟨aB, axO, axL, axC, ayO, ayL, ayC, rfl, hS, hax, hay⟩ := ha.form
  have HaS := Lib.hid hS; clear hS
  obtain ⟨w0, hw0⟩ : ∃ w0, w0 = ((w.alloc (.cells #[.bool aB, .slice axO axL axC, .slice ayO ayL ayC] 35)).alloc (.cells #[.bool false, .slice none 0 0, .slice none 0 0] 35)) := ⟨_, rfl⟩
  have hbf : Below w.heap.size w w0 := by rw [hw0]; exact (((Below.refl _ w).alloc (Nat.le_refl _) _).alloc (by simp <;> omega) _)
  obtain ⟨pa, hpa⟩ : ∃ p, p = w.heap.size := ⟨_, rfl⟩
  have hba : Box3 w0 pa (Value.bool aB) (Value.slice axO axL axC) (Value.slice ayO ayL ayC) := by rw [hw0, hpa]; exact ⟨by go_simp, by go_simp, by go_simp, by go_simp, by go_simp, by go_simp⟩
  obtain ⟨pr, hpr⟩ : ∃ p, p = w.heap.size + 1 := ⟨_, rfl⟩
  have hbr : Box3 w0 pr (Value.bool false) (Value.slice none 0 0) (Value.slice none 0 0) := by rw [hw0, hpr]; exact ⟨by go_simp, by go_simp, by go_simp, by go_simp, by go_simp, by go_simp⟩
  have HP : Hid (w.heap.size ≤ pa ∧ pa < pr) := Lib.hid (by omega)
  replace ha := ha.below hbf
  replace hax := hax.below hbf
  replace hay := hay.below hbf
  have HW := Lib.hid hw0; clear hw0
  go_enter Tryd.func21, Tryd.ntmps21
  go_upto_region 1 with fail
  rw [← HW.out, ← hpr, ← hpa]
  clear hpa hpr HW
  have hla1 := hla.1
  have hla2 := hla.2
  have HD : Hid (¬ a.den * 2 = 0) := Lib.hid (by have := a.den_pos; omega)
  have hl1 : (limbs 1).length ≤ 1000000 := limbs_bound (by decide) (by omega)
  have hl2 : (limbs 2).length ≤ 1 := limbs_bound (by decide) (by omega)
  have hln : (limbs (a.num.natAbs * 2)).length ≤ i + 1 := limbs_mul hla1 hl2
  have hld : (limbs (a.den * 2)).length ≤ i + 1 := limbs_mul hla2 hl2
  have hls : (limbs (a.num.natAbs * 2 + a.den)).length ≤ i + 2 := limbs_add hln (by omega)
  have hlz : (limbs ((a.num.natAbs * 2 + a.den) / (a.den * 2))).length ≤ 1000000 := Nat.le_trans (limbs_length_mono (Nat.div_le_self _ _)) (by omega)
  go_wp2_with fail
  refine (of_two _).mono ?_
  rintro e w1 ⟨r9, rfl, ht, hb⟩
  replace hba := hba.kept hb
  replace hbr := hbr.kept hb
  replace ha := ha.below hb
  replace hax := hax.below hb
  replace hay := hay.below hb
  replace hbf := hbf.trans (hb.mono hbf.size)
  clear hb
  obtain ⟨tO, tL, tC, rfl⟩ := ht.form
  obtain ⟨w2, hwE⟩ : ∃ W, W = (w1.alloc (.cells #[.slice tO tL tC] 33)) := ⟨_, rfl⟩
  have hb : Below w1.heap.size w1 w2 := by rw [hwE]; exact ((Below.refl _ w1).alloc (Nat.le_refl _) _)
  obtain ⟨pt, hpt⟩ : ∃ p, p = w1.heap.size := ⟨_, rfl⟩
  have hbt : Box w2 pt (Value.slice tO tL tC) := by rw [hwE, hpt]; exact ⟨by go_simp, by go_simp, by simp <;> omega⟩
  replace HP : Hid (w.heap.size ≤ pa ∧ pa < pr ∧ pr < pt) := Lib.hid (by have h1 := HP.out; have h9 := hbf.size; have h2r := hbr.lt; omega)
  have HW := Lib.hid hwE; clear hwE
  go_upto_region 2 with fail
  rw [← HW.out, ← hpt]
  clear hpt HW
  replace hba := hba.kept hb
  replace hbr := hbr.kept hb
  replace ha := ha.below hb
  replace hax := hax.below hb
  replace hay := hay.below hb
  replace ht := ht.below hb
  replace hbf := hbf.trans (hb.mono hbf.size)
  clear hb
  have ea0 := hba.c0
  have ea1 := hba.c1
  have ea2 := hba.c2
  have et := hbt.cell
  skip
  clear ea0 ea1 ea2 et
  refine wp_region_seqF (S := fun w' => Box3 w' pa (Value.bool aB) (Value.slice axO axL axC) (Value.slice ayO ayL ayC) ∧ Box w' pt (Value.slice tO tL tC)) [⟨16, 4, .cells #[.slice none 0 0] 33⟩, ⟨17, 5, .cells #[.slice none 0 0] 33⟩] [(true, 0), (true, 1), (true, 2), (true, 4), (true, 7), (true, 9), (false, 3), (false, 5), (false, 6), (false, 8), (false, 10), (false, 11), (true, 12), (true, 13), (true, 14), (true, 15)] [(false, 18), (false, 19), (true, 20)] (by kernel_rfl) (by kernel_rfl) (by kernel_rfl) (by kernel_rfl) (by kernel_rfl) (by kernel_rfl) (by decide) (by decide) (by kernel_rfl) (by rfl) ?_ (fun w8 o8 h8 => ?_) (fun d _ _ _ _ h => by cases d <;> exact h) ⟨hba.drew, hbt.drew⟩ ?_
  · intro f hf; simp only [List.mem_cons, List.not_mem_nil, or_false] at hf; rcases hf with rfl | rfl <;> exact FlOk.alloc rfl rfl rfl (fun f w => by go_simp)
  · obtain ⟨h0, h1⟩ := h8; exact ⟨Box3.kept h0 ((Below.refl _ _).alloc (Nat.le_refl _) _), Box.kept h1 ((Below.refl _ _).alloc (Nat.le_refl _) _)⟩
  obtain ⟨B9, hB9⟩ : ∃ B, B = w2.heap.size := ⟨_, rfl⟩
  rw [← hB9]
  simp only [pickOps, List.append_eq, List.cons_append, List.nil_append, List.getElem?_toArray, List.getElem?_cons_succ, List.getElem?_cons_zero]
  have HB9 : Hid (w.heap.size ≤ B9 ∧ pt < B9) := Lib.hid (by have h1 := hbf.size; have h2t := hbt.lt; rw [hB9]; omega)
  clear hB9
  have hb : Below w2.heap.size w2 w2.drew := (Below.refl _ _).drew
  generalize w2.drew = w3 at hb ⊢
  replace hba := hba.kept hb
  replace hbr := hbr.kept hb
  replace hbt := hbt.kept hb
  replace ha := ha.below hb
  replace hax := hax.below hb
  replace hay := hay.below hb
  replace ht := ht.below hb
  replace hbf := hbf.trans (hb.mono hbf.size)
  clear hb
  repeat (refine seqF_take (v := ?_) (fun t => by rfl) ?_ ?_; rotate_left; (· intro a9 h9 w hSw; (try dsimp only at hSw); obtain ⟨x4, x5, rfl⟩ : ∃ x y, a9 = (Act.put _ (some 4) x).put (some 5) y := ⟨_, _, h9.two⟩; clear h9; obtain ⟨⟨ea0, ea1, ea2, _, _, _⟩, ⟨et, _, _⟩⟩ := hSw; (try simp only [Act.put, List.setIfInBounds_toArray, List.set_cons_zero, List.set_cons_succ]); go_simp; all_goals with_reducible rfl); (try simp only [Act.put, List.setIfInBounds_toArray, List.set_cons_zero, List.set_cons_succ]))
  refine seqF_step (fun t => by rfl) (fun a9 w4 h9 hb hS9 K hK => ?_)
  obtain ⟨x4, x5, rfl⟩ : ∃ x y, a9 = (Act.put _ (some 4) x).put (some 5) y := ⟨_, _, h9.two⟩
  clear h9 hS9
  (try simp only [Act.put, List.setIfInBounds_toArray, List.set_cons_zero, List.set_cons_succ] at hK); (try simp only [Act.put, List.setIfInBounds_toArray, List.set_cons_zero, List.set_cons_succ])
  replace hba := hba.kept hb
  replace hbr := hbr.kept hb
  replace hbt := hbt.kept hb
  replace ha := ha.below hb
  replace hax := hax.below hb
  replace hay := hay.below hb
  replace ht := ht.below hb
  replace hbf := hbf.trans (hb.mono hbf.size)
  clear hb
  go_simp
  go_at_call 44
  (with_reducible refine (mul_any _ _ a.num.natAbs 2 _ hax ht (by omega) (by omega)).mono ?_)
  rintro e w5 ⟨r9, rfl, hu, hb⟩
  obtain ⟨uO, uL, uC, rfl⟩ := hu.form
  replace hba := hba.kept hb
  replace hbr := hbr.kept hb
  replace hbt := hbt.kept hb
  replace ha := ha.below hb
  replace hax := hax.below hb
  replace hay := hay.below hb
  replace ht := ht.below hb
  replace hbf := hbf.trans (hb.mono hbf.size)
  have hbK := hb; clear hb
  first | refine hK.out _ _ ⟨hba, hbt⟩ hbK ?_ | (go_wp2_with fail; refine hK.out _ _ ⟨hba, hbt⟩ hbK ?_)
  clear hK K hbK
  (try simp only [Act.put, List.setIfInBounds_toArray, List.set_cons_zero, List.set_cons_succ])
  refine seqF_step (fun t => by rfl) (fun a9 w6 h9 hb hS9 K hK => ?_)
  obtain ⟨x4, x5, rfl⟩ : ∃ x y, a9 = (Act.put _ (some 4) x).put (some 5) y := ⟨_, _, h9.two⟩
  clear h9 hS9
  (try simp only [Act.put, List.setIfInBounds_toArray, List.set_cons_zero, List.set_cons_succ] at hK); (try simp only [Act.put, List.setIfInBounds_toArray, List.set_cons_zero, List.set_cons_succ])
  replace hba := hba.kept hb
  replace hbr := hbr.kept hb
  replace hbt := hbt.kept hb
  replace ha := ha.below hb
  replace hax := hax.below hb
  replace hay := hay.below hb
  replace ht := ht.below hb
  replace hu := hu.below hb
  replace hbf := hbf.trans (hb.mono hbf.size)
  clear hb
  go_simp
  go_at_call 45
  (with_reducible refine (den_any _ a _ ha).mono ?_)
  rintro e w7 ⟨r9, rfl, hd1, hb⟩
  obtain ⟨dO, dL, dC, rfl⟩ := hd1.form
  replace hba := hba.kept hb
  replace hbr := hbr.kept hb
  replace hbt := hbt.kept hb
  replace ha := ha.below hb
  replace hax := hax.below hb
  replace hay := hay.below hb
  replace ht := ht.below hb
  replace hu := hu.below hb
  replace hbf := hbf.trans (hb.mono hbf.size)
  have hbK := hb; clear hb
  first | refine hK.out _ _ ⟨hba, hbt⟩ hbK ?_ | (go_wp2_with fail; refine hK.out _ _ ⟨hba, hbt⟩ hbK ?_)
  clear hK K hbK
  (try simp only [Act.put, List.setIfInBounds_toArray, List.set_cons_zero, List.set_cons_succ])
  refine seqF_step (fun t => by rfl) (fun a9 w8 h9 hb hS9 K hK => ?_)
  obtain ⟨x4, x5, rfl⟩ : ∃ x y, a9 = (Act.put _ (some 4) x).put (some 5) y := ⟨_, _, h9.two⟩
  clear h9 hS9
  (try simp only [Act.put, List.setIfInBounds_toArray, List.set_cons_zero, List.set_cons_succ] at hK); (try simp only [Act.put, List.setIfInBounds_toArray, List.set_cons_zero, List.set_cons_succ])
  replace hba := hba.kept hb
  replace hbr := hbr.kept hb
  replace hbt := hbt.kept hb
  replace ha := ha.below hb
  replace hax := hax.below hb
  replace hay := hay.below hb
  replace ht := ht.below hb
  replace hu := hu.below hb
  replace hd1 := hd1.below hb
  replace hbf := hbf.trans (hb.mono hbf.size)
  clear hb
  go_simp
  go_at_call 43
  (with_reducible refine (add_any _ _ _ _ _ hu hd1 (by omega) (by omega)).mono ?_)
  rintro e w9 ⟨r9, rfl, hv, hb⟩
  obtain ⟨vO, vL, vC, rfl⟩ := hv.form
  replace hba := hba.kept hb
  replace hbr := hbr.kept hb
  replace hbt := hbt.kept hb
  replace ha := ha.below hb
  replace hax := hax.below hb
  replace hay := hay.below hb
  replace ht := ht.below hb
  replace hu := hu.below hb
  replace hd1 := hd1.below hb
  replace hbf := hbf.trans (hb.mono hbf.size)
  have hbK := hb; clear hb
  first | refine hK.out _ _ ⟨hba, hbt⟩ hbK ?_ | (go_wp2_with fail; refine hK.out _ _ ⟨hba, hbt⟩ hbK ?_)
  clear hK K hbK
  (try simp only [Act.put, List.setIfInBounds_toArray, List.set_cons_zero, List.set_cons_succ])
  refine seqF_step (fun t => by rfl) (fun a9 w10 h9 hb hS9 K hK => ?_)
  obtain ⟨x4, x5, rfl⟩ : ∃ x y, a9 = (Act.put _ (some 4) x).put (some 5) y := ⟨_, _, h9.two⟩
  clear h9 hS9
  (try simp only [Act.put, List.setIfInBounds_toArray, List.set_cons_zero, List.set_cons_succ] at hK); (try simp only [Act.put, List.setIfInBounds_toArray, List.set_cons_zero, List.set_cons_succ])
  replace hba := hba.kept hb
  replace hbr := hbr.kept hb
  replace hbt := hbt.kept hb
  replace ha := ha.below hb
  replace hax := hax.below hb
  replace hay := hay.below hb
  replace ht := ht.below hb
  replace hu := hu.below hb
  replace hd1 := hd1.below hb
  replace hv := hv.below hb
  replace hbf := hbf.trans (hb.mono hbf.size)
  clear hb
  go_simp
  go_at_call 45
  (with_reducible refine (den_any _ a _ ha).mono ?_)
  rintro e w11 ⟨r9, rfl, hd2, hb⟩
  obtain ⟨eO, eL, eC, rfl⟩ := hd2.form
  replace hba := hba.kept hb
  replace hbr := hbr.kept hb
  replace hbt := hbt.kept hb
  replace ha := ha.below hb
  replace hax := hax.below hb
  replace hay := hay.below hb
  replace ht := ht.below hb
  replace hu := hu.below hb
  replace hd1 := hd1.below hb
  replace hv := hv.below hb
  replace hbf := hbf.trans (hb.mono hbf.size)
  have hbK := hb; clear hb
  first | refine hK.out _ _ ⟨hba, hbt⟩ hbK ?_ | (go_wp2_with fail; refine hK.out _ _ ⟨hba, hbt⟩ hbK ?_)
  clear hK K hbK
  (try simp only [Act.put, List.setIfInBounds_toArray, List.set_cons_zero, List.set_cons_succ])
  refine seqF_step (fun t => by rfl) (fun a9 w12 h9 hb hS9 K hK => ?_)
  obtain ⟨x4, x5, rfl⟩ : ∃ x y, a9 = (Act.put _ (some 4) x).put (some 5) y := ⟨_, _, h9.two⟩
  clear h9 hS9
  (try simp only [Act.put, List.setIfInBounds_toArray, List.set_cons_zero, List.set_cons_succ] at hK); (try simp only [Act.put, List.setIfInBounds_toArray, List.set_cons_zero, List.set_cons_succ])
  replace hba := hba.kept hb
  replace hbr := hbr.kept hb
  replace hbt := hbt.kept hb
  replace ha := ha.below hb
  replace hax := hax.below hb
  replace hay := hay.below hb
  replace ht := ht.below hb
  replace hu := hu.below hb
  replace hd1 := hd1.below hb
  replace hv := hv.below hb
  replace hd2 := hd2.below hb
  replace hbf := hbf.trans (hb.mono hbf.size)
  clear hb
  go_simp
  go_at_call 44
  (with_reducible refine (mul_any _ _ a.den 2 _ hd2 ht (by omega) (by omega)).mono ?_)
  rintro e w13 ⟨r9, rfl, hk, hb⟩
  obtain ⟨kO, kL, kC, rfl⟩ := hk.form
  replace hba := hba.kept hb
  replace hbr := hbr.kept hb
  replace hbt := hbt.kept hb
  replace ha := ha.below hb
  replace hax := hax.below hb
  replace hay := hay.below hb
  replace ht := ht.below hb
  replace hu := hu.below hb
  replace hd1 := hd1.below hb
  replace hv := hv.below hb
  replace hd2 := hd2.below hb
  replace hbf := hbf.trans (hb.mono hbf.size)
  have hbK := hb; clear hb
  first | refine hK.out _ _ ⟨hba, hbt⟩ hbK ?_ | (go_wp2_with fail; refine hK.out _ _ ⟨hba, hbt⟩ hbK ?_)
  clear hK K hbK
  (try simp only [Act.put, List.setIfInBounds_toArray, List.set_cons_zero, List.set_cons_succ])
  refine seqF_step (fun t => by rfl) (fun a9 w14 h9 hb hS9 K hK => ?_)
  obtain ⟨x4, x5, rfl⟩ : ∃ x y, a9 = (Act.put _ (some 4) x).put (some 5) y := ⟨_, _, h9.two⟩
  clear h9 hS9
  (try simp only [Act.put, List.setIfInBounds_toArray, List.set_cons_zero, List.set_cons_succ] at hK); (try simp only [Act.put, List.setIfInBounds_toArray, List.set_cons_zero, List.set_cons_succ])
  replace hba := hba.kept hb
  replace hbr := hbr.kept hb
  replace hbt := hbt.kept hb
  replace ha := ha.below hb
  replace hax := hax.below hb
  replace hay := hay.below hb
  replace ht := ht.below hb
  replace hu := hu.below hb
  replace hd1 := hd1.below hb
  replace hv := hv.below hb
  replace hd2 := hd2.below hb
  replace hk := hk.below hb
  replace hbf := hbf.trans (hb.mono hbf.size)
  clear hb
  go_simp
  go_at_call 42
  (with_reducible refine (divmod_any _ _ _ _ _ hv hk (by omega) (by omega)).mono ?_)
  rintro e w15 ⟨r9, s9, rfl, hx, hy, hb⟩
  obtain ⟨xO, xL, xC, rfl⟩ := hx.form
  obtain ⟨yO, yL, yC, rfl⟩ := hy.form
  replace hba := hba.kept hb
  replace hbr := hbr.kept hb
  replace hbt := hbt.kept hb
  replace ha := ha.below hb
  replace hax := hax.below hb
  replace hay := hay.below hb
  replace ht := ht.below hb
  replace hu := hu.below hb
  replace hd1 := hd1.below hb
  replace hv := hv.below hb
  replace hd2 := hd2.below hb
  replace hk := hk.below hb
  replace hbf := hbf.trans (hb.mono hbf.size)
  have hbK := hb; clear hb
  first | refine hK.out _ _ ⟨hba, hbt⟩ hbK ?_ | (go_wp2_with fail; refine hK.out _ _ ⟨hba, hbt⟩ hbK ?_)
  clear hK K hbK
  (try simp only [Act.put, List.setIfInBounds_toArray, List.set_cons_zero, List.set_cons_succ])
  repeat (refine seqF_take (v := ?_) (fun t => by rfl) ?_ ?_; rotate_left; (· intro a9 h9 w hSw; (try dsimp only at hSw); obtain ⟨x4, x5, rfl⟩ : ∃ x y, a9 = (Act.put _ (some 4) x).put (some 5) y := ⟨_, _, h9.two⟩; clear h9; obtain ⟨⟨ea0, ea1, ea2, _, _, _⟩, ⟨et, _, _⟩⟩ := hSw; (try simp only [Act.put, List.setIfInBounds_toArray, List.set_cons_zero, List.set_cons_succ]); go_simp; all_goals with_reducible rfl); (try simp only [Act.put, List.setIfInBounds_toArray, List.set_cons_zero, List.set_cons_succ]))
  refine seqF_end (fun a9 w16 h9 hb hS9 hAt hNe => ?_)
  obtain ⟨x4, x5, rfl⟩ : ∃ x y, a9 = (Act.put _ (some 4) x).put (some 5) y := ⟨_, _, h9.two⟩
  clear h9 hS9
  (try simp only [Act.put, List.setIfInBounds_toArray, List.set_cons_zero, List.set_cons_succ])
  (try simp only [Act.put, List.setIfInBounds_toArray, List.set_cons_zero, List.set_cons_succ] at hAt hNe)
  replace hba := hba.kept hb
  replace hbr := hbr.kept hb
  replace hbt := hbt.kept hb
  replace ha := ha.below hb
  replace hax := hax.below hb
  replace hay := hay.below hb
  replace ht := ht.below hb
  replace hu := hu.below hb
  replace hd1 := hd1.below hb
  replace hv := hv.below hb
  replace hd2 := hd2.below hb
  replace hk := hk.below hb
  replace hx := hx.below hb
  replace hy := hy.below hb
  replace hbf := hbf.trans (hb.mono hbf.size)
  clear hb
  obtain ⟨pq, hxq, hgq, hhq⟩ := (hAt ⟨16, 4, .cells #[.slice none 0 0] 33⟩ (by simp)).slot rfl
  have hbq := box_heap hhq; clear hhq
  replace hxq : x4 = _ := hxq
  obtain ⟨ps, hxs, hgs, hhs⟩ := (hAt ⟨17, 5, .cells #[.slice none 0 0] 33⟩ (by simp)).slot rfl
  have hbs := box_heap hhs; clear hhs
  replace hxs : x5 = _ := hxs
  have hneqs : Hid (pq ≠ ps) := Lib.hid fun h7 => hNe ⟨16, 4, .cells #[.slice none 0 0] 33⟩ (by simp) ⟨17, 5, .cells #[.slice none 0 0] 33⟩ (by simp) (by decide) (show x4 = x5 by rw [hxq, hxs, h7])
  clear hAt hNe
  subst hxq
  subst hxs
  replace HP : Hid (w.heap.size ≤ pa ∧ pa < pr ∧ pr < pt ∧ pt < pq ∧ pt < ps) := Lib.hid (by have h1 := HP.out; have h2 := HB9.out; omega)
  clear HB9 hgq hgs
  simp only [pickOps, List.append_eq, List.cons_append, List.nil_append, List.getElem?_toArray, List.getElem?_cons_succ, List.getElem?_cons_zero]
  refine seq_step (by rfl) (fun K hK => ?_)
  have eq := hbq.cell
  have fq := hbq.free
  go_simp
  clear eq fq
  obtain ⟨w17, hwE⟩ : ∃ W, W = w16.setCell ⟨pq, 0, none⟩ (Value.slice xO xL xC) := ⟨_, rfl⟩
  rw [← hwE]
  replace ha := ha.setS (u := (Value.slice xO xL xC)) hbq; rw [← hwE] at ha
  replace hax := hax.setS (u := (Value.slice xO xL xC)) hbq; rw [← hwE] at hax
  replace hay := hay.setS (u := (Value.slice xO xL xC)) hbq; rw [← hwE] at hay
  replace ht := ht.setS (u := (Value.slice xO xL xC)) hbq; rw [← hwE] at ht
  replace hu := hu.setS (u := (Value.slice xO xL xC)) hbq; rw [← hwE] at hu
  replace hd1 := hd1.setS (u := (Value.slice xO xL xC)) hbq; rw [← hwE] at hd1
  replace hv := hv.setS (u := (Value.slice xO xL xC)) hbq; rw [← hwE] at hv
  replace hd2 := hd2.setS (u := (Value.slice xO xL xC)) hbq; rw [← hwE] at hd2
  replace hk := hk.setS (u := (Value.slice xO xL xC)) hbq; rw [← hwE] at hk
  replace hx := hx.setS (u := (Value.slice xO xL xC)) hbq; rw [← hwE] at hx
  replace hy := hy.setS (u := (Value.slice xO xL xC)) hbq; rw [← hwE] at hy
  replace hba := hba.setOther (show pa ≠ pq by have := HP.out; omega) 0 (Value.slice xO xL xC); rw [← hwE] at hba
  replace hbr := hbr.setOther (show pr ≠ pq by have := HP.out; omega) 0 (Value.slice xO xL xC); rw [← hwE] at hbr
  replace hbt := hbt.setOther (show pt ≠ pq by have := HP.out; omega) 0 (Value.slice xO xL xC); rw [← hwE] at hbt
  replace hbs := hbs.setOther (Hid.out hneqs).symm 0 (Value.slice xO xL xC); rw [← hwE] at hbs
  replace hbf := hbf.setCell (p := ⟨pq, 0, none⟩) (show w.heap.size ≤ pq by have := HP.out; omega) (Value.slice xO xL xC); rw [← hwE] at hbf
  replace hbq := hbq.set (Value.slice xO xL xC); rw [← hwE] at hbq; clear hwE
  first | refine hK.out _ _ ⟨hba, hbt⟩ (fun _ => ?_) | (go_wp2_with fail; refine hK.out _ _ ⟨hba, hbt⟩ (fun _ => ?_))
  clear hK K
  (try simp only [Act.put, List.setIfInBounds_toArray, List.set_cons_zero, List.set_cons_succ])
  refine seq_step (by rfl) (fun K hK => ?_)
  have es := hbs.cell
  have fs := hbs.free
  go_simp
  clear es fs
  obtain ⟨w18, hwE⟩ : ∃ W, W = w17.setCell ⟨ps, 0, none⟩ (Value.slice yO yL yC) := ⟨_, rfl⟩
  rw [← hwE]
  replace ha := ha.setS (u := (Value.slice yO yL yC)) hbs; rw [← hwE] at ha
  replace hax := hax.setS (u := (Value.slice yO yL yC)) hbs; rw [← hwE] at hax
  replace hay := hay.setS (u := (Value.slice yO yL yC)) hbs; rw [← hwE] at hay
  replace ht := ht.setS (u := (Value.slice yO yL yC)) hbs; rw [← hwE] at ht
  replace hu := hu.setS (u := (Value.slice yO yL yC)) hbs; rw [← hwE] at hu
  replace hd1 := hd1.setS (u := (Value.slice yO yL yC)) hbs; rw [← hwE] at hd1
  replace hv := hv.setS (u := (Value.slice yO yL yC)) hbs; rw [← hwE] at hv
  replace hd2 := hd2.setS (u := (Value.slice yO yL yC)) hbs; rw [← hwE] at hd2
  replace hk := hk.setS (u := (Value.slice yO yL yC)) hbs; rw [← hwE] at hk
  replace hx := hx.setS (u := (Value.slice yO yL yC)) hbs; rw [← hwE] at hx
  replace hy := hy.setS (u := (Value.slice yO yL yC)) hbs; rw [← hwE] at hy
  replace hba := hba.setOther (show pa ≠ ps by have := HP.out; omega) 0 (Value.slice yO yL yC); rw [← hwE] at hba
  replace hbr := hbr.setOther (show pr ≠ ps by have := HP.out; omega) 0 (Value.slice yO yL yC); rw [← hwE] at hbr
  replace hbt := hbt.setOther (show pt ≠ ps by have := HP.out; omega) 0 (Value.slice yO yL yC); rw [← hwE] at hbt
  replace hbq := hbq.setOther (Hid.out hneqs) 0 (Value.slice yO yL yC); rw [← hwE] at hbq
  replace hbf := hbf.setCell (p := ⟨ps, 0, none⟩) (show w.heap.size ≤ ps by have := HP.out; omega) (Value.slice yO yL yC); rw [← hwE] at hbf
  replace hbs := hbs.set (Value.slice yO yL yC); rw [← hwE] at hbs; clear hwE
  first | refine hK.out _ _ ⟨hba, hbt⟩ (fun _ => ?_) | (go_wp2_with fail; refine hK.out _ _ ⟨hba, hbt⟩ (fun _ => ?_))
  clear hK K
  (try simp only [Act.put, List.setIfInBounds_toArray, List.set_cons_zero, List.set_cons_succ])
  repeat (first | (refine seq_take (v := ?_) (by rfl) ?_ ?_; rotate_left; (· intro w hSw; (try dsimp only at hSw); obtain ⟨⟨ea0, ea1, ea2, _, _, _⟩, ⟨et, _, _⟩⟩ := hSw; go_simp; all_goals with_reducible rfl); (try simp only [Act.put, List.setIfInBounds_toArray, List.set_cons_zero, List.set_cons_succ])) | (refine seq_leave (by rfl) ?_; (try simp only [Act.put, List.setIfInBounds_toArray, List.set_cons_zero, List.set_cons_succ])))
  refine seq_end ?_
  have ea0 := hba.c0
  have ea1 := hba.c1
  have ea2 := hba.c2
  have eq := hbq.cell
  go_upto_region 3 with fail
  clear ea0 ea1 ea2 eq
  refine wp_region_seq (S := fun w' => Box3 w' pa (Value.bool aB) (Value.slice axO axL axC) (Value.slice ayO ayL ayC) ∧ Box w' pq (Value.slice xO xL xC)) [(true, 0), (true, 1), (true, 2), (false, 3), (false, 4), (false, 5)] (by kernel_rfl) (by kernel_rfl) (by kernel_rfl) (by kernel_rfl) (by kernel_rfl) (fun d _ _ _ _ h => by cases d <;> exact h) ⟨hba.drew, hbq.drew⟩ (fun _ => ?_)
  simp only [pickOps, List.append_eq, List.cons_append, List.nil_append, List.getElem?_toArray, List.getElem?_cons_succ, List.getElem?_cons_zero]
  have hb : Below w18.heap.size w18 w18.drew := (Below.refl _ _).drew
  generalize w18.drew = w19 at hb ⊢
  replace hba := hba.kept hb
  replace hbr := hbr.kept hb
  replace hbt := hbt.kept hb
  replace hbq := hbq.kept hb
  replace hbs := hbs.kept hb
  replace ha := ha.below hb
  replace hax := hax.below hb
  replace hay := hay.below hb
  replace ht := ht.below hb
  replace hu := hu.below hb
  replace hd1 := hd1.below hb
  replace hv := hv.below hb
  replace hd2 := hd2.below hb
  replace hk := hk.below hb
  replace hx := hx.below hb
  replace hy := hy.below hb
  replace hbf := hbf.trans (hb.mono hbf.size)
  clear hb
  repeat (first | (refine seq_take (v := ?_) (by rfl) ?_ ?_; rotate_left; (· intro w hSw; (try dsimp only at hSw); obtain ⟨⟨ea0, ea1, ea2, _, _, _⟩, ⟨eq, _, _⟩⟩ := hSw; go_simp; all_goals with_reducible rfl); (try simp only [Act.put, List.setIfInBounds_toArray, List.set_cons_zero, List.set_cons_succ])) | (refine seq_leave (by rfl) ?_; (try simp only [Act.put, List.setIfInBounds_toArray, List.set_cons_zero, List.set_cons_succ])))
  refine seq_step (by rfl) (fun K hK => ?_)
  go_simp
  go_at_call 19
  (with_reducible refine (of_one _).mono ?_)
  rintro e w20 ⟨r9, rfl, ho, hb⟩
  obtain ⟨oO, oL, oC, rfl⟩ := ho.form
  replace hba := hba.kept hb
  replace hbr := hbr.kept hb
  replace hbt := hbt.kept hb
  replace hbq := hbq.kept hb
  replace hbs := hbs.kept hb
  replace ha := ha.below hb
  replace hax := hax.below hb
  replace hay := hay.below hb
  replace ht := ht.below hb
  replace hu := hu.below hb
  replace hd1 := hd1.below hb
  replace hv := hv.below hb
  replace hd2 := hd2.below hb
  replace hk := hk.below hb
  replace hx := hx.below hb
  replace hy := hy.below hb
  replace hbf := hbf.trans (hb.mono hbf.size)
  clear hb
  first | refine hK.out _ _ ⟨hba, hbq⟩ (fun _ => ?_) | (go_wp2_with fail; refine hK.out _ _ ⟨hba, hbq⟩ (fun _ => ?_))
  clear hK K
  (try simp only [Act.put, List.setIfInBounds_toArray, List.set_cons_zero, List.set_cons_succ])
  refine seq_step (by rfl) (fun K hK => ?_)
  go_simp
  go_at_call 40
  (with_reducible refine (lowest_any _ _ _ _ _ _ hx ho hlz hl1 (by decide)).mono ?_)
  rintro e w21 hq9
  obtain ⟨zB, zxO, zxL, zxC, zyO, zyL, zyC, rfl, hS, hzx, hzy, hz, hb⟩ := hq9.out
  have HzS := Lib.hid hS; clear hS
  replace hba := hba.kept hb
  replace hbr := hbr.kept hb
  replace hbt := hbt.kept hb
  replace hbq := hbq.kept hb
  replace hbs := hbs.kept hb
  replace ha := ha.below hb
  replace hax := hax.below hb
  replace hay := hay.below hb
  replace ht := ht.below hb
  replace hu := hu.below hb
  replace hd1 := hd1.below hb
  replace hv := hv.below hb
  replace hd2 := hd2.below hb
  replace hk := hk.below hb
  replace hx := hx.below hb
  replace hy := hy.below hb
  replace ho := ho.below hb
  replace hbf := hbf.trans (hb.mono hbf.size)
  clear hb
  first | refine hK.out _ _ ⟨hba, hbq⟩ (fun _ => ?_) | (go_wp2_with fail; refine hK.out _ _ ⟨hba, hbq⟩ (fun _ => ?_))
  clear hK K
  (try simp only [Act.put, List.setIfInBounds_toArray, List.set_cons_zero, List.set_cons_succ])
  refine seq_step (by rfl) (fun K hK => ?_)
  have er0 := hbr.c0
  have fr0 := hbr.f0
  have er1 := hbr.c1
  have fr1 := hbr.f1
  have er2 := hbr.c2
  have fr2 := hbr.f2
  go_simp
  clear er0 fr0 er1 fr1 er2 fr2
  obtain ⟨w22, hwE⟩ : ∃ W, W = ((w21.setCell ⟨pr, 0, none⟩ (Value.bool zB)).setCell ⟨pr, 1, none⟩ (Value.slice zxO zxL zxC)).setCell ⟨pr, 2, none⟩ (Value.slice zyO zyL zyC) := ⟨_, rfl⟩
  rw [← hwE]
  replace ha := ha.set3 (u0 := (Value.bool zB)) (u1 := (Value.slice zxO zxL zxC)) (u2 := (Value.slice zyO zyL zyC)) hbr; rw [← hwE] at ha
  replace hax := hax.set3 (u0 := (Value.bool zB)) (u1 := (Value.slice zxO zxL zxC)) (u2 := (Value.slice zyO zyL zyC)) hbr; rw [← hwE] at hax
  replace hay := hay.set3 (u0 := (Value.bool zB)) (u1 := (Value.slice zxO zxL zxC)) (u2 := (Value.slice zyO zyL zyC)) hbr; rw [← hwE] at hay
  replace ht := ht.set3 (u0 := (Value.bool zB)) (u1 := (Value.slice zxO zxL zxC)) (u2 := (Value.slice zyO zyL zyC)) hbr; rw [← hwE] at ht
  replace hu := hu.set3 (u0 := (Value.bool zB)) (u1 := (Value.slice zxO zxL zxC)) (u2 := (Value.slice zyO zyL zyC)) hbr; rw [← hwE] at hu
  replace hd1 := hd1.set3 (u0 := (Value.bool zB)) (u1 := (Value.slice zxO zxL zxC)) (u2 := (Value.slice zyO zyL zyC)) hbr; rw [← hwE] at hd1
  replace hv := hv.set3 (u0 := (Value.bool zB)) (u1 := (Value.slice zxO zxL zxC)) (u2 := (Value.slice zyO zyL zyC)) hbr; rw [← hwE] at hv
  replace hd2 := hd2.set3 (u0 := (Value.bool zB)) (u1 := (Value.slice zxO zxL zxC)) (u2 := (Value.slice zyO zyL zyC)) hbr; rw [← hwE] at hd2
  replace hk := hk.set3 (u0 := (Value.bool zB)) (u1 := (Value.slice zxO zxL zxC)) (u2 := (Value.slice zyO zyL zyC)) hbr; rw [← hwE] at hk
  replace hx := hx.set3 (u0 := (Value.bool zB)) (u1 := (Value.slice zxO zxL zxC)) (u2 := (Value.slice zyO zyL zyC)) hbr; rw [← hwE] at hx
  replace hy := hy.set3 (u0 := (Value.bool zB)) (u1 := (Value.slice zxO zxL zxC)) (u2 := (Value.slice zyO zyL zyC)) hbr; rw [← hwE] at hy
  replace ho := ho.set3 (u0 := (Value.bool zB)) (u1 := (Value.slice zxO zxL zxC)) (u2 := (Value.slice zyO zyL zyC)) hbr; rw [← hwE] at ho
  replace hzx := hzx.set3 (u0 := (Value.bool zB)) (u1 := (Value.slice zxO zxL zxC)) (u2 := (Value.slice zyO zyL zyC)) hbr; rw [← hwE] at hzx
  replace hzy := hzy.set3 (u0 := (Value.bool zB)) (u1 := (Value.slice zxO zxL zxC)) (u2 := (Value.slice zyO zyL zyC)) hbr; rw [← hwE] at hzy
  replace hz := hz.set3 (u0 := (Value.bool zB)) (u1 := (Value.slice zxO zxL zxC)) (u2 := (Value.slice zyO zyL zyC)) hbr; rw [← hwE] at hz
  replace hba := hba.set3o (u0 := (Value.bool zB)) (u1 := (Value.slice zxO zxL zxC)) (u2 := (Value.slice zyO zyL zyC)) (show pa ≠ pr by have := HP.out; omega); rw [← hwE] at hba
  replace hbt := hbt.set3 (u0 := (Value.bool zB)) (u1 := (Value.slice zxO zxL zxC)) (u2 := (Value.slice zyO zyL zyC)) (show pt ≠ pr by have := HP.out; omega); rw [← hwE] at hbt
  replace hbq := hbq.set3 (u0 := (Value.bool zB)) (u1 := (Value.slice zxO zxL zxC)) (u2 := (Value.slice zyO zyL zyC)) (show pq ≠ pr by have := HP.out; omega); rw [← hwE] at hbq
  replace hbs := hbs.set3 (u0 := (Value.bool zB)) (u1 := (Value.slice zxO zxL zxC)) (u2 := (Value.slice zyO zyL zyC)) (show ps ≠ pr by have := HP.out; omega); rw [← hwE] at hbs
  replace hbf := below_set3 (u0 := (Value.bool zB)) (u1 := (Value.slice zxO zxL zxC)) (u2 := (Value.slice zyO zyL zyC)) hbf (show w.heap.size ≤ pr by have := HP.out; omega); rw [← hwE] at hbf
  replace hbr := hbr.set3 (u0 := (Value.bool zB)) (u1 := (Value.slice zxO zxL zxC)) (u2 := (Value.slice zyO zyL zyC)); rw [← hwE] at hbr; clear hwE
  first | refine hK.out _ _ ⟨hba, hbq⟩ (fun _ => ?_) | (go_wp2_with fail; refine hK.out _ _ ⟨hba, hbq⟩ (fun _ => ?_))
  clear hK K
  (try simp only [Act.put, List.setIfInBounds_toArray, List.set_cons_zero, List.set_cons_succ])
  refine seq_end ?_
  have hrd : qOf aB ((a.num.natAbs * 2 + a.den) / (a.den * 2)) 1 = qround a := by rw [HaS.out]; rfl
  rw [hrd] at hz
  go_wp2_with fail
  exact ret_rat rfl rfl hbr rfl ⟨_, rfl, hz, hbf⟩
end Go.Proofs.YtoadhoojdgeikaaDoor
