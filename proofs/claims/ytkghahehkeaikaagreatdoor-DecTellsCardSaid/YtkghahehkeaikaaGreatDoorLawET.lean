/-
  DecTells: the walk.
-/
import Derived.Test.YtkghahehkeaikaaGreatDoorLawEA
import Derived.Test.YtkghahehkeaikaaGreatDoorRefU
import Derived.Deep.DeepCutAuto
import Derived.WalkMore
import Derived.Laws.StructEq
namespace Go.Proofs.YtkghahehkeaikaaGreatDoor
open Go.RowKit
set_option linter.unusedVariables false
set_option linter.unusedSimpArgs false
attribute [local go_sem] field_nat

theorem rqtext_t (va : Value) (a : Rat) (T : List UInt8) (w : World) (ha : RQIs w va a) (hla : QB a 30000) (hT : Hid (T = qtext a)) :
    Calls Tryz.prog 9 #[va] w fun e w' => e = .returned (.string ⟨T.toArray⟩) ∧ Below w.heap.size w w' := by
  rw [hT.out]; exact rqtext_any va a w ha hla
theorem LOk.val {l : List UInt8} (h : l.length ≤ 150) : LOk (qval l) := by
  obtain ⟨K, hK⟩ : ∃ K, K = 160 := ⟨_, rfl⟩
  have h1 := qval_lt (l := l) (K := K) (by omega)
  exact LOk.of h1.1 h1.2 (by omega) (by omega) (by have := places_lt h1.2; omega)
set_option maxRecDepth 100000 in
set_option maxHeartbeats 1000000 in
theorem decTells_early (l m : List UInt8) (w : World) (h : 300 < l.length ∨ 150 < m.length) :
    Calls Tryz.prog 3 #[.string ⟨l.toArray⟩, .string ⟨m.toArray⟩] w fun e w' => e = .returned (.bool true) ∧ Below w.heap.size w w' := by
  by_cases h1 : (300 : Int) < ((l.length : Nat) : Int)
  · clear h
    go_enter Tryz.func3, Tryz.ntmps3
    go_wp2_with (go_at_call 5; refine (alive3_any _).mono ?_; rintro e w' ⟨rfl, hb⟩)
    go_ret
    exact ⟨rfl, hb⟩
  by_cases h2 : (150 : Int) < ((m.length : Nat) : Int)
  · clear h
    go_enter Tryz.func3, Tryz.ntmps3
    go_wp2_with (go_at_call 5; refine (alive3_any _).mono ?_; rintro e w' ⟨rfl, hb⟩)
    go_ret
    exact ⟨rfl, hb⟩
  omega

set_option maxRecDepth 100000 in
set_option maxHeartbeats 8000000 in
/-- DecTells. -/
theorem decTells_main (l m : List UInt8) (w : World) (hl : l.length ≤ 300) (hm : m.length ≤ 150) :
    Calls Tryz.prog 3 #[.string ⟨l.toArray⟩, .string ⟨m.toArray⟩] w fun e w' => e = .returned (.bool true) ∧ Below w.heap.size w w' := by
  have k1 : ¬ (300 : Int) < ((l.length : Nat) : Int) := by omega
  have k2 : ¬ (150 : Int) < ((m.length : Nat) : Int) := by omega
  obtain ⟨q, hq⟩ : ∃ q, q = litVal l := ⟨_, rfl⟩
  obtain ⟨c, hc⟩ : ∃ c, c = litCode l := ⟨_, rfl⟩
  have hok : LOk q := by rw [hq]; exact LOk.lit (by omega)
  obtain ⟨T1, hT1⟩ : ∃ T, T = qtext q := ⟨_, rfl⟩
  have hqb := hok.1
  have HT1 := Lib.hid hT1
  have HQ := Lib.hid hq
  have HC := Lib.hid hc
  clear hq hc hT1
  obtain ⟨p, hp⟩ : ∃ p, p = qval m := ⟨_, rfl⟩
  obtain ⟨d, hd⟩ : ∃ d, d = qcode m := ⟨_, rfl⟩
  have hpk : LOk p := by rw [hp]; exact LOk.val (by omega)
  have HP9 := Lib.hid hp
  have HD9 := Lib.hid hd
  clear hp hd
  obtain ⟨is, his⟩ : ∃ b, b = fin p := ⟨_, rfl⟩
  have HF := Lib.hid his
  obtain ⟨n9, hn9⟩ : ∃ n, n = places p := ⟨_, rfl⟩
  have HN := Lib.hid hn9
  obtain ⟨k9, hk9⟩ : ∃ k, k = if is = true then places p else 0 := ⟨_, rfl⟩
  have HK := Lib.hid hk9
  obtain ⟨T2, hT2⟩ : ∃ T, T = if is = true then litText p else [] := ⟨_, rfl⟩
  have HT2 := Lib.hid hT2
  obtain ⟨c9, hc9⟩ : ∃ c : Int, c = if is = true then 0 else 14 := ⟨_, rfl⟩
  have HC9 := Lib.hid hc9
  have hkn : is = true → k9 = n9 := fun h => by rw [hk9, hn9, h]; rfl
  have hkz : is = false → k9 = 0 := fun h => by rw [hk9, h]; rfl
  clear his hn9 hk9 hT2 hc9
  have HKN := Lib.hid hkn
  have HKZ := Lib.hid hkz
  clear hkn hkz
  have hbf : Below w.heap.size w w := Below.refl _ _
  go_enter Tryz.func3, Tryz.ntmps3
  go_wp2_with fail
  refine (alive3_any _).mono ?_
  rintro e w1 ⟨rfl, hb⟩
  replace hbf := hbf.trans (hb.mono hbf.size)
  clear hb
  go_wp2_with fail
  refine (lparse_q l q c _ HQ HC (by omega)).mono ?_
  rintro e w2 hq9
  obtain ⟨aB, axO, axL, axC, ayO, ayL, ayC, rfl, hS, hax, hay, ha, hb⟩ := hq9.out
  have HaS := Lib.hid hS; clear hS
  replace hbf := hbf.trans (hb.mono hbf.size)
  clear hb
  obtain ⟨w3, hwE⟩ : ∃ W, W = (w2.alloc (.cells #[.bool aB, .slice axO axL axC, .slice ayO ayL ayC] 27)) := ⟨_, rfl⟩
  have hb : Below w2.heap.size w2 w3 := by rw [hwE]; exact ((Below.refl _ w2).alloc (Nat.le_refl _) _)
  obtain ⟨pa, hpa⟩ : ∃ p, p = w2.heap.size := ⟨_, rfl⟩
  have hba : Box3 w3 pa (Value.bool aB) (Value.slice axO axL axC) (Value.slice ayO ayL ayC) := by rw [hwE, hpa]; exact ⟨by go_simp, by go_simp, by go_simp, by go_simp, by go_simp, by go_simp⟩
  have HP : Hid (w.heap.size ≤ pa) := Lib.hid (by have h9 := hbf.size; omega)
  have HW := Lib.hid hwE; clear hwE
  go_upto_region 4 with fail
  rw [← HW.out, ← hpa]
  clear hpa HW
  replace hax := hax.below hb
  replace hay := hay.below hb
  replace ha := ha.below hb
  replace hbf := hbf.trans (hb.mono hbf.size)
  clear hb
  go_wp2_with fail
  refine (rlit_any l q c _ HQ HC (by omega)).mono ?_
  rintro e w4 hq9
  obtain ⟨xB, xxO, xxL, xxC, xyO, xyL, xyC, rfl, hS, hxx, hxy, hx, hb⟩ := hq9.out
  have HxS := Lib.hid hS; clear hS
  replace hba := hba.kept hb
  replace hax := hax.below hb
  replace hay := hay.below hb
  replace ha := ha.below hb
  replace hbf := hbf.trans (hb.mono hbf.size)
  clear hb
  obtain ⟨w5, hwE⟩ : ∃ W, W = (w4.alloc (.cells #[.bool xB, .slice xxO xxL xxC, .slice xyO xyL xyC] 34)) := ⟨_, rfl⟩
  have hb : Below w4.heap.size w4 w5 := by rw [hwE]; exact ((Below.refl _ w4).alloc (Nat.le_refl _) _)
  obtain ⟨px, hpx⟩ : ∃ p, p = w4.heap.size := ⟨_, rfl⟩
  have hbx : Box3 w5 px (Value.bool xB) (Value.slice xxO xxL xxC) (Value.slice xyO xyL xyC) := by rw [hwE, hpx]; exact ⟨by go_simp, by go_simp, by go_simp, by go_simp, by go_simp, by go_simp⟩
  replace HP : Hid (w.heap.size ≤ pa ∧ pa < px) := Lib.hid (by have h1 := HP.out; have h9 := hbf.size; have h2a := hba.lt; omega)
  have HW := Lib.hid hwE; clear hwE
  go_upto_region 5 with fail
  rw [← HW.out, ← hpx]
  clear hpx HW
  replace hba := hba.kept hb
  replace hax := hax.below hb
  replace hay := hay.below hb
  replace ha := ha.below hb
  replace hxx := hxx.below hb
  replace hxy := hxy.below hb
  replace hx := hx.below hb
  replace hbf := hbf.trans (hb.mono hbf.size)
  clear hb
  refine wp_region_seq (S := fun w' => Box3 w' pa (Value.bool aB) (Value.slice axO axL axC) (Value.slice ayO ayL ayC) ∧ Box3 w' px (Value.bool xB) (Value.slice xxO xxL xxC) (Value.slice xyO xyL xyC)) [(true, 0), (true, 1), (true, 2), (true, 3), (true, 4), (true, 6), (false, 5), (false, 7), (true, 8), (true, 9)] (by kernel_rfl) (by kernel_rfl) (by kernel_rfl) (by kernel_rfl) (by kernel_rfl) (fun d _ _ _ _ h => by cases d <;> exact h) ⟨hba.drew, hbx.drew⟩ (fun _ => ?_)
  simp only [pickOps, List.append_eq, List.cons_append, List.nil_append, List.getElem?_toArray, List.getElem?_cons_succ, List.getElem?_cons_zero]
  have hb : Below w5.heap.size w5 w5.drew := (Below.refl _ _).drew
  generalize w5.drew = w6 at hb ⊢
  replace hba := hba.kept hb
  replace hbx := hbx.kept hb
  replace hax := hax.below hb
  replace hay := hay.below hb
  replace ha := ha.below hb
  replace hxx := hxx.below hb
  replace hxy := hxy.below hb
  replace hx := hx.below hb
  replace hbf := hbf.trans (hb.mono hbf.size)
  clear hb
  repeat (first | (refine seq_take (v := ?_) (by rfl) ?_ ?_; rotate_left; (· intro w hSw; (try dsimp only at hSw); obtain ⟨⟨ea0, ea1, ea2, _, _, _⟩, ⟨ex0, ex1, ex2, _, _, _⟩⟩ := hSw; go_simp; all_goals with_reducible rfl); (try simp only [Act.put, List.setIfInBounds_toArray, List.set_cons_zero, List.set_cons_succ])) | (refine seq_leave (by rfl) ?_; (try simp only [Act.put, List.setIfInBounds_toArray, List.set_cons_zero, List.set_cons_succ])))
  refine seq_step (by rfl) (fun K hK => ?_)
  go_simp
  go_at_call 8
  (with_reducible refine (qtext_t _ q T1 _ ha (hqb.mono (by decide)) HT1).mono ?_)
  rintro e w7 ⟨rfl, hb⟩
  replace hba := hba.kept hb
  replace hbx := hbx.kept hb
  replace hax := hax.below hb
  replace hay := hay.below hb
  replace ha := ha.below hb
  replace hxx := hxx.below hb
  replace hxy := hxy.below hb
  replace hx := hx.below hb
  replace hbf := hbf.trans (hb.mono hbf.size)
  clear hb
  first | refine hK.out _ _ ⟨hba, hbx⟩ (fun _ => ?_) | (go_wp2_with fail; refine hK.out _ _ ⟨hba, hbx⟩ (fun _ => ?_))
  clear hK K
  (try simp only [Act.put, List.setIfInBounds_toArray, List.set_cons_zero, List.set_cons_succ])
  refine seq_step (by rfl) (fun K hK => ?_)
  go_simp
  go_at_call 9
  (with_reducible refine (rqtext_t _ q T1 _ hx (hqb.mono (by decide)) HT1).mono ?_)
  rintro e w8 ⟨rfl, hb⟩
  replace hba := hba.kept hb
  replace hbx := hbx.kept hb
  replace hax := hax.below hb
  replace hay := hay.below hb
  replace ha := ha.below hb
  replace hxx := hxx.below hb
  replace hxy := hxy.below hb
  replace hx := hx.below hb
  replace hbf := hbf.trans (hb.mono hbf.size)
  clear hb
  first | refine hK.out _ _ ⟨hba, hbx⟩ (fun _ => ?_) | (go_wp2_with fail; refine hK.out _ _ ⟨hba, hbx⟩ (fun _ => ?_))
  clear hK K
  (try simp only [Act.put, List.setIfInBounds_toArray, List.set_cons_zero, List.set_cons_succ])
  repeat (first | (refine seq_take (v := ?_) (by rfl) ?_ ?_; rotate_left; (· intro w hSw; (try dsimp only at hSw); obtain ⟨⟨ea0, ea1, ea2, _, _, _⟩, ⟨ex0, ex1, ex2, _, _, _⟩⟩ := hSw; go_simp; all_goals with_reducible rfl); (try simp only [Act.put, List.setIfInBounds_toArray, List.set_cons_zero, List.set_cons_succ])) | (refine seq_leave (by rfl) ?_; (try simp only [Act.put, List.setIfInBounds_toArray, List.set_cons_zero, List.set_cons_succ])))
  refine seq_end ?_
  clear ha hx hax hay hxx hxy
  go_wp2_with fail
  refine (qparse_main m _ p d HP9 HD9 (by omega)).mono ?_
  rintro e w9 hq9
  obtain ⟨zB, zxO, zxL, zxC, zyO, zyL, zyC, rfl, hS, hzx, hzy, hz, hb⟩ := hq9.out
  have HzS := Lib.hid hS; clear hS
  replace hba := hba.kept hb
  replace hbx := hbx.kept hb
  replace hbf := hbf.trans (hb.mono hbf.size)
  clear hb
  obtain ⟨w10, hwE⟩ : ∃ W, W = (w9.alloc (.cells #[.bool zB, .slice zxO zxL zxC, .slice zyO zyL zyC] 27)) := ⟨_, rfl⟩
  have hb : Below w9.heap.size w9 w10 := by rw [hwE]; exact ((Below.refl _ w9).alloc (Nat.le_refl _) _)
  obtain ⟨pz, hpz⟩ : ∃ p, p = w9.heap.size := ⟨_, rfl⟩
  have hbz : Box3 w10 pz (Value.bool zB) (Value.slice zxO zxL zxC) (Value.slice zyO zyL zyC) := by rw [hwE, hpz]; exact ⟨by go_simp, by go_simp, by go_simp, by go_simp, by go_simp, by go_simp⟩
  replace HP : Hid (w.heap.size ≤ pa ∧ pa < px ∧ px < pz) := Lib.hid (by have h1 := HP.out; have h9 := hbf.size; have h2x := hbx.lt; omega)
  have HW := Lib.hid hwE; clear hwE
  go_upto_region 8 with fail
  rw [← HW.out, ← hpz]
  clear hpz HW
  replace hba := hba.kept hb
  replace hbx := hbx.kept hb
  replace hzx := hzx.below hb
  replace hzy := hzy.below hb
  replace hz := hz.below hb
  replace hbf := hbf.trans (hb.mono hbf.size)
  clear hb
  go_wp2_with fail
  refine (rqparse_main m _ p d HP9 HD9 (by omega)).mono ?_
  rintro e w11 hq9
  obtain ⟨yB, yxO, yxL, yxC, yyO, yyL, yyC, rfl, hS, hyx, hyy, hy, hb⟩ := hq9.out
  have HyS := Lib.hid hS; clear hS
  replace hba := hba.kept hb
  replace hbx := hbx.kept hb
  replace hbz := hbz.kept hb
  replace hzx := hzx.below hb
  replace hzy := hzy.below hb
  replace hz := hz.below hb
  replace hbf := hbf.trans (hb.mono hbf.size)
  clear hb
  obtain ⟨w12, hwE⟩ : ∃ W, W = (w11.alloc (.cells #[.bool yB, .slice yxO yxL yxC, .slice yyO yyL yyC] 34)) := ⟨_, rfl⟩
  have hb : Below w11.heap.size w11 w12 := by rw [hwE]; exact ((Below.refl _ w11).alloc (Nat.le_refl _) _)
  obtain ⟨py, hpy⟩ : ∃ p, p = w11.heap.size := ⟨_, rfl⟩
  have hby : Box3 w12 py (Value.bool yB) (Value.slice yxO yxL yxC) (Value.slice yyO yyL yyC) := by rw [hwE, hpy]; exact ⟨by go_simp, by go_simp, by go_simp, by go_simp, by go_simp, by go_simp⟩
  replace HP : Hid (w.heap.size ≤ pa ∧ pa < px ∧ px < pz ∧ pz < py) := Lib.hid (by have h1 := HP.out; have h9 := hbf.size; have h2z := hbz.lt; omega)
  have HW := Lib.hid hwE; clear hwE
  go_upto_region 9 with fail
  rw [← HW.out, ← hpy]
  clear hpy HW
  replace hba := hba.kept hb
  replace hbx := hbx.kept hb
  replace hbz := hbz.kept hb
  replace hzx := hzx.below hb
  replace hzy := hzy.below hb
  replace hz := hz.below hb
  replace hyx := hyx.below hb
  replace hyy := hyy.below hb
  replace hy := hy.below hb
  replace hbf := hbf.trans (hb.mono hbf.size)
  clear hb
  clear hzx hzy hyx hyy
  by_cases hd0 : ¬ d = 0
  case pos =>
    have hd9 : (d == 0) = false := by rw [beq_eq_false_iff_ne]; exact hd0
    go_wp2_with fail
    go_ret
    exact ⟨rfl, hbf⟩
  case neg =>
    obtain rfl : d = 0 := by omega
    clear hd0
    have ey0 := hby.c0
    have ey1 := hby.c1
    have ey2 := hby.c2
    have ez0 := hbz.c0
    have ez1 := hbz.c1
    have ez2 := hbz.c2
    go_wp2_with fail
    refine (rplaces_any _ p n9 is _ hy (Nat.le_trans hpk.1.rden (by decide)) HN HF).mono ?_
    rintro e w13 ⟨rfl, hb⟩
    clear ey0 ey1 ey2 ez0 ez1 ez2
    replace hba := hba.kept hb
    replace hbx := hbx.kept hb
    replace hbz := hbz.kept hb
    replace hby := hby.kept hb
    replace hz := hz.below hb
    replace hy := hy.below hb
    replace hbf := hbf.trans (hb.mono hbf.size)
    clear hb
    have ey0 := hby.c0
    have ey1 := hby.c1
    have ey2 := hby.c2
    have ez0 := hbz.c0
    have ez1 := hbz.c1
    have ez2 := hbz.c2
    go_wp2_with fail
    refine (places_b _ p k9 is _ hz hpk.1.2 HF HK).mono ?_
    rintro e w14 ⟨rfl, hb⟩
    clear ey0 ey1 ey2 ez0 ez1 ez2
    replace hba := hba.kept hb
    replace hbx := hbx.kept hb
    replace hbz := hbz.kept hb
    replace hby := hby.kept hb
    replace hz := hz.below hb
    replace hy := hy.below hb
    replace hbf := hbf.trans (hb.mono hbf.size)
    clear hb
    have ey0 := hby.c0
    have ey1 := hby.c1
    have ey2 := hby.c2
    have ez0 := hbz.c0
    have ez1 := hbz.c1
    have ez2 := hbz.c2
    go_wp2_with fail
    refine (ltext_c _ p T2 is c9 _ hz hpk HF HT2 HC9).mono ?_
    rintro e w15 ⟨rfl, hb⟩
    clear ey0 ey1 ey2 ez0 ez1 ez2
    replace hba := hba.kept hb
    replace hbx := hbx.kept hb
    replace hbz := hbz.kept hb
    replace hby := hby.kept hb
    replace hz := hz.below hb
    replace hy := hy.below hb
    replace hbf := hbf.trans (hb.mono hbf.size)
    clear hb
    have ey0 := hby.c0
    have ey1 := hby.c1
    have ey2 := hby.c2
    have ez0 := hbz.c0
    have ez1 := hbz.c1
    have ez2 := hbz.c2
    go_wp2_with fail
    refine (rltext_c _ p T2 is c9 _ hy hpk HF HT2 HC9).mono ?_
    rintro e w16 ⟨rfl, hb⟩
    clear ey0 ey1 ey2 ez0 ez1 ez2
    replace hba := hba.kept hb
    replace hbx := hbx.kept hb
    replace hbz := hbz.kept hb
    replace hby := hby.kept hb
    replace hz := hz.below hb
    replace hy := hy.below hb
    replace hbf := hbf.trans (hb.mono hbf.size)
    clear hb
    cases is
    case false =>
      obtain rfl : k9 = 0 := HKZ.out rfl
      have ey0 := hby.c0
      have ey1 := hby.c1
      have ey2 := hby.c2
      have ez0 := hbz.c0
      have ez1 := hbz.c1
      have ez2 := hbz.c2
      go_wp2_with fail
      refine (finite_b _ p false _ hz hpk.1.2 HF).mono ?_
      rintro e w17 ⟨rfl, hb⟩
      clear ey0 ey1 ey2 ez0 ez1 ez2
      replace hba := hba.kept hb
      replace hbx := hbx.kept hb
      replace hbz := hbz.kept hb
      replace hby := hby.kept hb
      replace hz := hz.below hb
      replace hy := hy.below hb
      replace hbf := hbf.trans (hb.mono hbf.size)
      clear hb
      go_wp2_with fail
      go_ret
      exact ⟨rfl, hbf⟩
    case true =>
      obtain rfl : n9 = k9 := (HKN.out rfl).symm
      have ey0 := hby.c0
      have ey1 := hby.c1
      have ey2 := hby.c2
      have ez0 := hbz.c0
      have ez1 := hbz.c1
      have ez2 := hbz.c2
      go_wp2_with fail
      refine (finite_b _ p true _ hz hpk.1.2 HF).mono ?_
      rintro e w17 ⟨rfl, hb⟩
      clear ey0 ey1 ey2 ez0 ez1 ez2
      replace hba := hba.kept hb
      replace hbx := hbx.kept hb
      replace hbz := hbz.kept hb
      replace hby := hby.kept hb
      replace hz := hz.below hb
      replace hy := hy.below hb
      replace hbf := hbf.trans (hb.mono hbf.size)
      clear hb
      go_wp2_with fail
      go_ret
      exact ⟨rfl, hbf⟩

theorem decTells_walk (a0 a1 : ByteArray) (w0 : a0.size ≤ maxLen) (w1 : a1.size ≤ maxLen) (w : World) :
    Calls Tryz.prog 3 #[.string a0, .string a1] w fun e w' => e = .returned (.bool true) ∧ Below w.heap.size w w' := by
  obtain ⟨l, rfl⟩ : ∃ l : List UInt8, a0 = ⟨l.toArray⟩ := ⟨a0.data.toList, by simp⟩
  obtain ⟨m, rfl⟩ : ∃ l : List UInt8, a1 = ⟨l.toArray⟩ := ⟨a1.data.toList, by simp⟩
  by_cases h : 300 < l.length ∨ 150 < m.length
  · exact decTells_early l m w h
  · exact decTells_main l m w (by omega) (by omega)

end Go.Proofs.YtkghahehkeaikaaGreatDoor
