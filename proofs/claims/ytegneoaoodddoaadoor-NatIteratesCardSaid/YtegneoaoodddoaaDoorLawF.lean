/-
  NatDivisors: the walk.
-/
import Derived.Test.YtegneoaoodddoaaDoorLawD
import Derived.Test.YtegneoaoodddoaaDoorNatN5
namespace Go.Proofs.YtegneoaoodddoaaDoor
open Go.RowKit
set_option linter.unusedVariables false
set_option linter.unusedSimpArgs false
attribute [local go_sem] field_nat

theorem heldS {W : World} {S : World → Prop} (hmk : ∀ w', Below W.heap.size W w' → S w') (hb : ∀ w', S w' → Below W.heap.size W w') {w1 w2 : World} (h : Below w1.heap.size w1 w2) (hs : S w1) : S w2 := hmk _ ((hb _ hs).trans (h.mono (hb _ hs).size))

theorem gcd_parts {a b : Nat} (h : 0 < a) : Nat.gcd (a / Nat.gcd a b) (b / Nat.gcd a b) = 1 := by
  have h0 : 0 < Nat.gcd a b := Nat.gcd_pos_of_pos_left _ h
  have := Nat.gcd_div (Nat.gcd_dvd_left a b) (Nat.gcd_dvd_right a b)
  rw [this, Nat.div_self h0]
theorem str_dec_one : str (dec 1) = [49] := str_dec (l := [49]) (by decide)
theorem zero_yes (v : Value) (w : World) (h : NatIs w v 0) : Calls Tryd.prog 12 #[v] w fun e w' => e = .returned (.bool true) ∧ Below w.heap.size w w' := zero_any v 0 w h
theorem zero_no (v : Value) (n : Nat) (w : World) (h : NatIs w v n) (hn : n ≠ 0) : Calls Tryd.prog 12 #[v] w fun e w' => e = .returned (.bool false) ∧ Below w.heap.size w w' := by
  have := zero_any v n w h
  rwa [decide_eq_false hn] at this
theorem pval_limbs {l : List UInt8} (h : l.length ≤ 1000) : (limbs (pval l)).length ≤ 1000 := by
  unfold pval
  split
  · rename_i hok
    split
    · rw [limbs_zero]; simp
    · refine limbs_dnum ?_ h
      simp only [numOk, Bool.and_eq_true] at hok
      exact hok.1
  · rw [limbs_zero]; simp

/-- Two numbers go into boxes of their own. -/
theorem box_nat2 {w2 : World} {n m : Nat} {r s : Value} (hn : NatIs w2 r n) (hm : NatIs w2 s m) : ∃ sv tv, r = .agg #[sv] ∧ s = .agg #[tv] ∧ (∃ ao len cap, sv = .slice ao len cap) ∧ (∃ ao len cap, tv = .slice ao len cap) ∧
    Box ((w2.alloc (.cells #[sv] 25)).alloc (.cells #[tv] 25)) w2.heap.size sv ∧ Box ((w2.alloc (.cells #[sv] 25)).alloc (.cells #[tv] 25)) (w2.heap.size + 1) tv ∧
    Below w2.heap.size w2 ((w2.alloc (.cells #[sv] 25)).alloc (.cells #[tv] 25)) ∧ NatIs ((w2.alloc (.cells #[sv] 25)).alloc (.cells #[tv] 25)) r n ∧ NatIs ((w2.alloc (.cells #[sv] 25)).alloc (.cells #[tv] 25)) s m := by
  obtain ⟨ao, ca, rfl, _, _, _, _⟩ := hn.open
  obtain ⟨bo, cb, rfl, _, _, _, _⟩ := hm.open
  have hb : Below w2.heap.size w2 ((w2.alloc (.cells #[.slice ao (limbs n).length ca] 25)).alloc (.cells #[.slice bo (limbs m).length cb] 25)) := ((Below.refl _ w2).alloc (Nat.le_refl _) _).alloc (by simp) _
  exact ⟨_, _, rfl, rfl, ⟨_, _, _, rfl⟩, ⟨_, _, _, rfl⟩, ⟨by go_simp, by go_simp, by simp <;> omega⟩, ⟨by go_simp, by go_simp, by simp <;> omega⟩, hb, hn.below hb, hm.below hb⟩

set_option maxRecDepth 100000 in
set_option maxHeartbeats 1000000 in
theorem natDivisors_early (l m : List UInt8) (h : 120 < l.length ∨ 120 < m.length) (w : World) :
    Calls Tryd.prog 6 #[.string ⟨l.toArray⟩, .string ⟨m.toArray⟩] w fun e w' => e = .returned (.bool true) ∧ Below w.heap.size w w' := by
  by_cases h1 : 120 < l.length
  · clear h
    go_enter Tryd.func6, Tryd.ntmps6
    go_wp2_with (go_at_call 10; refine (alive_any _).mono ?_; rintro e w' ⟨rfl, hb⟩)
    go_ret
    exact ⟨rfl, hb⟩
  · have h2 : 120 < m.length := by omega
    clear h
    go_enter Tryd.func6, Tryd.ntmps6
    go_wp2_with (go_at_call 10; refine (alive_any _).mono ?_; rintro e w' ⟨rfl, hb⟩)
    go_ret
    exact ⟨rfl, hb⟩

set_option maxRecDepth 100000 in
set_option maxHeartbeats 2000000 in
theorem natDivisors_main (l m : List UInt8) (h1 : l.length ≤ 120) (h2 : m.length ≤ 120) (w : World) :
    Calls Tryd.prog 6 #[.string ⟨l.toArray⟩, .string ⟨m.toArray⟩] w fun e w' => e = .returned (.bool true) ∧ Below w.heap.size w w' := by
  go_enter Tryd.func6, Tryd.ntmps6
  go_wp2_with fail
  refine (alive_any _).mono ?_
  rintro e w1 ⟨rfl, hb1⟩
  go_wp2_with fail
  refine (parse_any l w1 (by omega)).mono ?_
  rintro e w2 ⟨rv, rfl, hn2, hb2⟩
  have hlA := pval_limbs (l := l) (by omega)
  obtain ⟨c, hc⟩ : ∃ c, c = pcode l := ⟨_, rfl⟩
  obtain ⟨A, hA⟩ : ∃ A, A = pval l := ⟨_, rfl⟩
  rw [← hA] at hn2 hlA
  rw [← hc]
  clear hc hA
  obtain ⟨sv, rfl, ⟨ao, al, ac, rfl⟩, hbx, hb3, na⟩ := box_nat hn2
  obtain ⟨w3, hw3⟩ : ∃ w3, w3 = w2.alloc (.cells #[Value.slice ao al ac] 25) := ⟨_, rfl⟩
  rw [← hw3] at hbx hb3 na
  have hbf := (hb1.trans (hb2.mono hb1.size)).trans (hb3.mono (hb1.trans (hb2.mono hb1.size)).size)
  obtain ⟨pa, hpa⟩ : ∃ p, p = w2.heap.size := ⟨_, rfl⟩
  have HW := Lib.hid hw3; clear hw3 hn2
  go_upto_region 4 with fail
  rw [← HW.out]
  rw [← hpa] at hbx ⊢
  clear hpa
  go_wp2_with fail
  refine (parse_any m w3 (by omega)).mono ?_
  rintro e w4 ⟨rv, rfl, hn4, hb4⟩
  have hlB := pval_limbs (l := m) (by omega)
  obtain ⟨d, hd⟩ : ∃ c, c = pcode m := ⟨_, rfl⟩
  obtain ⟨B, hB⟩ : ∃ A, A = pval m := ⟨_, rfl⟩
  rw [← hB] at hn4 hlB
  rw [← hd]
  clear hd hB
  obtain ⟨sv, rfl, ⟨bo, bl, bc, rfl⟩, hby, hb5, nb⟩ := box_nat hn4
  obtain ⟨w5, hw5⟩ : ∃ w3, w3 = w4.alloc (.cells #[Value.slice bo bl bc] 25) := ⟨_, rfl⟩
  rw [← hw5] at hby hb5 nb
  have hb35 := hb4.trans (hb5.mono hb4.size)
  have hbf5 := hbf.trans (hb35.mono hbf.size)
  obtain ⟨pb, hpb⟩ : ∃ p, p = w4.heap.size := ⟨_, rfl⟩
  have HW5 := Lib.hid hw5; clear hw5 hn4
  go_upto_region 5 with fail
  rw [← HW5.out]
  rw [← hpb] at hby ⊢
  clear hpb
  have hbx5 := hbx.kept hb35
  replace na := na.below hb35
  clear hbx hb35 hb4 hb5 hb1 hb2 hb3 hbf
  have e1 := hbx5.cell
  have e2 := hby.cell
  by_cases hc : c = 0
  case neg =>
    go_wp2
    go_ret
    exact ⟨rfl, hbf5⟩
  by_cases hd : d = 0
  case neg =>
    subst hc
    go_wp2
    go_ret
    exact ⟨rfl, hbf5⟩
  subst hc hd
  by_cases hA0 : A = 0
  case pos =>
    have hdA : decide (A = 0) = true := decide_eq_true hA0
    have HDA := Lib.hid hdA; clear hdA hA0
    go_wp2_with fail
    refine (zero_any _ A w5 na).mono ?_
    rintro e w6 ⟨rfl, hb6⟩
    rw [HDA.out]
    go_wp2
    go_ret
    exact ⟨rfl, hbf5.trans (hb6.mono hbf5.size)⟩
  have hdA : decide (A = 0) = false := decide_eq_false hA0
  have HDA := Lib.hid hdA
  have HA0 : Hid (¬ A = 0) := Lib.hid hA0; clear hdA hA0
  go_wp2_with fail
  refine (zero_any _ A w5 na).mono ?_
  rintro e w6 ⟨rfl, hb6⟩
  rw [HDA.out]
  have hbx6 := hbx5.kept hb6
  have hby6 := hby.kept hb6
  replace na := na.below hb6
  replace nb := nb.below hb6
  have hbf6 := hbf5.trans (hb6.mono hbf5.size)
  clear e1 e2 hbx5 hby hbf5
  have e1 := hbx6.cell
  have e2 := hby6.cell
  by_cases hB0 : B = 0
  case pos =>
    have hdB : decide (B = 0) = true := decide_eq_true hB0
    have HDB := Lib.hid hdB; clear hdB hB0
    go_wp2_with fail
    refine (zero_any _ B w6 nb).mono ?_
    rintro e w7 ⟨rfl, hb7⟩
    rw [HDB.out]
    go_wp2
    go_ret
    exact ⟨rfl, hbf6.trans (hb7.mono hbf6.size)⟩
  have hdB : decide (B = 0) = false := decide_eq_false hB0
  have HDB := Lib.hid hdB
  have HB0 : Hid (¬ B = 0) := Lib.hid hB0; clear hdB hB0
  go_wp2_with fail
  refine (zero_any _ B w6 nb).mono ?_
  rintro e w7 ⟨rfl, hb7⟩
  rw [HDB.out]
  have hbx7 := hbx6.kept hb7
  have hby7 := hby6.kept hb7
  replace na := na.below hb7
  replace nb := nb.below hb7
  have hbf7 := hbf6.trans (hb7.mono hbf6.size)
  clear e1 e2 hbx6 hby6 hbf6
  have e1 := hbx7.cell
  have e2 := hby7.cell
  have hlA2 : (limbs A).length ≤ 1000000 := by omega
  have hlB2 : (limbs B).length ≤ 1000000 := by omega
  obtain ⟨G, hG⟩ : ∃ G, G = Nat.gcd A B := ⟨_, rfl⟩
  have hG0 : 0 < G := by rw [hG]; exact Nat.gcd_pos_of_pos_left _ (by have := HA0.out; omega)
  have hlG : (limbs G).length ≤ 1000 := Nat.le_trans (limbs_length_mono (by rw [hG]; exact Nat.gcd_le_left _ (by have := HA0.out; omega))) hlA
  have hrA : A % G = 0 := by rw [hG]; exact Nat.mod_eq_zero_of_dvd (Nat.gcd_dvd_left _ _)
  have hrB : B % G = 0 := by rw [hG]; exact Nat.mod_eq_zero_of_dvd (Nat.gcd_dvd_right _ _)
  have hGX : Nat.gcd (A / G) (B / G) = 1 := by rw [hG]; exact gcd_parts (by have := HA0.out; omega)
  have hGC : Nat.gcd B A = G := by rw [hG, Nat.gcd_comm]
  have HGC := Lib.hid hGC
  have hgcd := gcd_any _ _ A B w7 na nb hlA2 hlB2
  rw [← hG] at hgcd
  have HGCD := Lib.hid hgcd
  have hG1 : ¬ G = 0 := by omega
  clear hGC hgcd hG
  go_wp2_with fail
  refine HGCD.out.mono ?_
  rintro e w8 ⟨rv, rfl, hn8, hb8⟩
  obtain ⟨sv, rfl, ⟨go, gl, gc, rfl⟩, hbg, hb9, ng⟩ := box_nat hn8
  obtain ⟨w9, hw9⟩ : ∃ w3, w3 = w8.alloc (.cells #[Value.slice go gl gc] 25) := ⟨_, rfl⟩
  rw [← hw9] at hbg hb9 ng
  have hb79 := hb8.trans (hb9.mono hb8.size)
  have hbf9 := hbf7.trans (hb79.mono hbf7.size)
  obtain ⟨pg, hpg⟩ : ∃ p, p = w8.heap.size := ⟨_, rfl⟩
  have HW9 := Lib.hid hw9; clear hw9 hn8
  go_upto_region 8 with fail
  rw [← HW9.out]
  rw [← hpg] at hbg ⊢
  clear hpg e1 e2
  have hbx9 := hbx7.kept hb79
  have hby9 := hby7.kept hb79
  replace na := na.below hb79
  replace nb := nb.below hb79
  clear hbx7 hby7 hb79 hb8 hb9 hb7 hb6 hbf7
  have e1 := hbx9.cell
  have e3 := hbg.cell
  go_wp2_with fail
  refine (divmod_any _ _ A G w9 na ng hlA2 (by omega)).mono ?_
  rintro e wa ⟨q, s, rfl, hq, hs, hba⟩
  rw [if_neg hG1, hrA] at hs
  obtain ⟨sq, ss, rfl, rfl, ⟨xo, xl, xc, rfl⟩, ⟨ro, rl, rc, rfl⟩, hbX, hbR, hbb, nx, nr⟩ := box_nat2 hq hs
  obtain ⟨wb, hwb⟩ : ∃ w3, w3 = (wa.alloc (.cells #[Value.slice xo xl xc] 25)).alloc (.cells #[Value.slice ro rl rc] 25) := ⟨_, rfl⟩
  rw [← hwb] at hbX hbR hbb nx nr
  have hb9b := hba.trans (hbb.mono hba.size)
  have hbfb := hbf9.trans (hb9b.mono hbf9.size)
  obtain ⟨px, hpx⟩ : ∃ p, p = wa.heap.size := ⟨_, rfl⟩
  obtain ⟨pr, hpr⟩ : ∃ p, p = wa.heap.size + 1 := ⟨_, rfl⟩
  have HWB := Lib.hid hwb; clear hwb hq hs
  go_upto_region 9 with fail
  rw [← HWB.out]
  rw [← hpr] at hbR ⊢
  rw [← hpx] at hbX ⊢
  clear hpx hpr e1 e3
  have hbxb := hbx9.kept hb9b
  have hbyb := hby9.kept hb9b
  have hbgb := hbg.kept hb9b
  replace na := na.below hb9b
  replace nb := nb.below hb9b
  replace ng := ng.below hb9b
  clear hbx9 hby9 hbg hb9b hba hbb hbf9
  have e1 := hbyb.cell
  have e3 := hbgb.cell
  go_wp2_with fail
  refine (divmod_any _ _ B G wb nb ng hlB2 (by omega)).mono ?_
  rintro e wc ⟨q, s, rfl, hq, hs, hbc⟩
  rw [if_neg hG1, hrB] at hs
  obtain ⟨sq, ss, rfl, rfl, ⟨yo, yl, yc, rfl⟩, ⟨uo, ul, uc, rfl⟩, hbY, hbU, hbd, ny, nu⟩ := box_nat2 hq hs
  obtain ⟨w11, hw11⟩ : ∃ w3, w3 = (wc.alloc (.cells #[Value.slice yo yl yc] 25)).alloc (.cells #[Value.slice uo ul uc] 25) := ⟨_, rfl⟩
  rw [← hw11] at hbY hbU hbd ny nu
  have hbbd := hbc.trans (hbd.mono hbc.size)
  have hbfd := hbfb.trans (hbbd.mono hbfb.size)
  obtain ⟨py, hpy⟩ : ∃ p, p = wc.heap.size := ⟨_, rfl⟩
  obtain ⟨pu, hpu⟩ : ∃ p, p = wc.heap.size + 1 := ⟨_, rfl⟩
  have HWD := Lib.hid hw11; clear hw11 hq hs
  go_upto_region 10 with fail
  rw [← HWD.out]
  rw [← hpu] at hbU ⊢
  rw [← hpy] at hbY ⊢
  clear hpy hpu e1 e3
  have e1 := (hbxb.kept hbbd).cell
  have e2 := (hbyb.kept hbbd).cell
  have e3 := (hbgb.kept hbbd).cell
  have e4 := (hbX.kept hbbd).cell
  have e5 := (hbR.kept hbbd).cell
  have e6 := hbY.cell
  have e7 := hbU.cell
  replace na := na.below hbbd
  replace nb := nb.below hbbd
  replace ng := ng.below hbbd
  replace nx := nx.below hbbd
  replace nr := nr.below hbbd
  have hlX : (limbs (A / G)).length ≤ 1000000 := Nat.le_trans (limbs_length_mono (Nat.div_le_self _ _)) hlA2
  have hlY : (limbs (B / G)).length ≤ 1000000 := Nat.le_trans (limbs_length_mono (Nat.div_le_self _ _)) hlB2
  obtain ⟨X, hX⟩ : ∃ X, X = A / G := ⟨_, rfl⟩
  obtain ⟨Y, hY⟩ : ∃ X, X = B / G := ⟨_, rfl⟩
  obtain ⟨T, hT⟩ : ∃ T, T = str (dec G) := ⟨_, rfl⟩
  rw [← hX] at nx hGX hlX
  rw [← hY] at ny hGX hlY
  have HTG := Lib.hid hT.symm
  have HGX := Lib.hid hGX
  have HT1 := Lib.hid str_dec_one
  have hl1 : (limbs 1).length ≤ 100000 := Nat.le_trans (limbs_length_le (k := 1) (by omega)) (by omega)
  replace hlG : (limbs G).length ≤ 100000 := by omega
  replace hlA := hlA2
  replace hlB := hlB2
  clear hX hY hT hGX hbX hbR hbY hbU hbxb hbyb hbgb hbbd hbc hbd hG0 hG1 hrA hrB hlA2 hlB2
  have HMK : Hid (∀ w', Below w11.heap.size w11 w' → w'.cell? ⟨pa, 0, none⟩ = some (Value.slice ao al ac) ∧ w'.cell? ⟨pb, 0, none⟩ = some (Value.slice bo bl bc) ∧ w'.cell? ⟨pg, 0, none⟩ = some (Value.slice go gl gc) ∧ w'.cell? ⟨px, 0, none⟩ = some (Value.slice xo xl xc) ∧ w'.cell? ⟨pr, 0, none⟩ = some (Value.slice ro rl rc) ∧ w'.cell? ⟨py, 0, none⟩ = some (Value.slice yo yl yc) ∧ w'.cell? ⟨pu, 0, none⟩ = some (Value.slice uo ul uc) ∧ Below w11.heap.size w11 w') := Lib.hid (fun w' hb => ⟨(hb.cell (p := ⟨pa, 0, none⟩) (World.block_lt_of_cell? w11 ⟨pa, 0, none⟩ e1)).trans e1, (hb.cell (p := ⟨pb, 0, none⟩) (World.block_lt_of_cell? w11 ⟨pb, 0, none⟩ e2)).trans e2, (hb.cell (p := ⟨pg, 0, none⟩) (World.block_lt_of_cell? w11 ⟨pg, 0, none⟩ e3)).trans e3, (hb.cell (p := ⟨px, 0, none⟩) (World.block_lt_of_cell? w11 ⟨px, 0, none⟩ e4)).trans e4, (hb.cell (p := ⟨pr, 0, none⟩) (World.block_lt_of_cell? w11 ⟨pr, 0, none⟩ e5)).trans e5, (hb.cell (p := ⟨py, 0, none⟩) (World.block_lt_of_cell? w11 ⟨py, 0, none⟩ e6)).trans e6, (hb.cell (p := ⟨pu, 0, none⟩) (World.block_lt_of_cell? w11 ⟨pu, 0, none⟩ e7)).trans e7, hb⟩)
  have HBL : Hid (∀ w', (w'.cell? ⟨pa, 0, none⟩ = some (Value.slice ao al ac) ∧ w'.cell? ⟨pb, 0, none⟩ = some (Value.slice bo bl bc) ∧ w'.cell? ⟨pg, 0, none⟩ = some (Value.slice go gl gc) ∧ w'.cell? ⟨px, 0, none⟩ = some (Value.slice xo xl xc) ∧ w'.cell? ⟨pr, 0, none⟩ = some (Value.slice ro rl rc) ∧ w'.cell? ⟨py, 0, none⟩ = some (Value.slice yo yl yc) ∧ w'.cell? ⟨pu, 0, none⟩ = some (Value.slice uo ul uc) ∧ Below w11.heap.size w11 w') → Below w11.heap.size w11 w') := Lib.hid (fun w' h => h.2.2.2.2.2.2.2)
  clear e1 e2 e3 e4 e5 e6 e7
  go_wp2_with fail
  refine wp_region_seq (S := fun w' => w'.cell? ⟨pa, 0, none⟩ = some (Value.slice ao al ac) ∧ w'.cell? ⟨pb, 0, none⟩ = some (Value.slice bo bl bc) ∧ w'.cell? ⟨pg, 0, none⟩ = some (Value.slice go gl gc) ∧ w'.cell? ⟨px, 0, none⟩ = some (Value.slice xo xl xc) ∧ w'.cell? ⟨pr, 0, none⟩ = some (Value.slice ro rl rc) ∧ w'.cell? ⟨py, 0, none⟩ = some (Value.slice yo yl yc) ∧ w'.cell? ⟨pu, 0, none⟩ = some (Value.slice uo ul uc) ∧ Below w11.heap.size w11 w') [(true, 0), (true, 1), (true, 2), (true, 3), (true, 4), (true, 5), (false, 6), (true, 7), (true, 8), (true, 9), (false, 10), (true, 11), (true, 12), (true, 13), (true, 14), (false, 15), (false, 16), (true, 17), (true, 18), (true, 19), (true, 20), (true, 21), (true, 24), (false, 22), (false, 23), (false, 25), (true, 26), (true, 27), (true, 28)] (by kernel_rfl) (by kernel_rfl) (by kernel_rfl) (by kernel_rfl) (by kernel_rfl) (fun d _ _ _ _ h => by cases d <;> exact h) ?_ (fun hHeld => ?_)
  · first | assumption | exact HMK.out _ (Below.refl _ _).drew
  simp only [pickOps, List.append_eq, List.cons_append, List.nil_append, List.getElem?_toArray, List.getElem?_cons_succ, List.getElem?_cons_zero]
  repeat (first
    | (refine seq_take (v := ?_) (by rfl) ?_ ?_; rotate_left; (· intro w hSw; (try dsimp only at hSw); go_simp; all_goals with_reducible rfl); (try simp only [Act.put, List.setIfInBounds_toArray, List.set_cons_zero, List.set_cons_succ]))
    | (refine seq_leave (by rfl) ?_; (try simp only [Act.put, List.setIfInBounds_toArray, List.set_cons_zero, List.set_cons_succ]))
    | (refine seq_pass (by rfl) (by assumption) ?_; (try simp only [Act.put, List.setIfInBounds_toArray, List.set_cons_zero, List.set_cons_succ]))
    | (refine seq_step (by rfl) (fun K hK => ?_); go_simp; (first
          | (go_at_call_of 12 (Value.agg #[Value.slice ro rl rc]); refine (zero_yes _ _ (nr.below (HBL.out _ (by assumption)))).mono ?_; rintro e w' ⟨rfl, hb'⟩; have hS := heldS HMK.out HBL.out hb' (by assumption))
          | (go_at_call_of 12 (Value.agg #[Value.slice uo ul uc]); refine (zero_yes _ _ (nu.below (HBL.out _ (by assumption)))).mono ?_; rintro e w' ⟨rfl, hb'⟩; have hS := heldS HMK.out HBL.out hb' (by assumption))
          | (go_at_call_of 31 (Value.agg #[Value.slice xo xl xc]); refine (gcd_any _ _ X Y _ (nx.below (HBL.out _ (by assumption))) (ny.below (HBL.out _ (by assumption))) hlX hlY).mono ?_; rintro e w' ⟨r1, rfl, hn1, hb'⟩; rw [HGX.out] at hn1; have hS := heldS HMK.out HBL.out hb' (by assumption))
          | (go_at_call 13; refine (text_any _ 1 _ (by assumption) hl1).mono ?_; rintro e w' ⟨rfl, hb'⟩; rw [HT1.out]; have hS := heldS HMK.out HBL.out hb' (by assumption))
          | (go_at_call_of 31 (Value.agg #[Value.slice bo bl bc]); refine (gcd_any _ _ B A _ (nb.below (HBL.out _ (by assumption))) (na.below (HBL.out _ (by assumption))) hlB hlA).mono ?_; rintro e w' ⟨r2, rfl, hn2, hb'⟩; rw [HGC.out] at hn2; have hS := heldS HMK.out HBL.out hb' (by assumption))
          | (go_at_call_of 13 (Value.agg #[Value.slice go gl gc]); refine (text_any _ G _ (ng.below (HBL.out _ (by assumption))) hlG).mono ?_; rintro e w' ⟨rfl, hb'⟩; rw [HTG.out]; have hS := heldS HMK.out HBL.out hb' (by assumption))
          | (go_at_call 13; refine (text_any _ G _ (by assumption) hlG).mono ?_; rintro e w' ⟨rfl, hb'⟩; rw [HTG.out]; have hS := heldS HMK.out HBL.out hb' (by assumption))); (first | refine hK.out _ _ ?_ (fun hHeld => ?_) | (go_wp2_with fail; refine hK.out _ _ ?_ (fun hHeld => ?_))); (· first | assumption | exact HMK.out _ (Below.refl _ _).drew); clear hK K; (try simp only [Act.put, List.setIfInBounds_toArray, List.set_cons_zero, List.set_cons_succ])))
  refine seq_end ?_
  go_wp2
  go_ret
  exact ⟨rfl, hbfd.trans (hHeld.2.2.2.2.2.2.2.mono hbfd.size)⟩

set_option maxRecDepth 100000 in
theorem natDivisors_walk (a0 a1 : ByteArray) (w0 : a0.size ≤ maxLen) (w1 : a1.size ≤ maxLen) (w : World) :
    Calls Tryd.prog 6 #[.string a0, .string a1] w fun e w' => e = .returned (.bool true) ∧ Below w.heap.size w w' := by
  obtain ⟨l, rfl, _⟩ := bytes_of a0
  obtain ⟨m, rfl, _⟩ := bytes_of a1
  by_cases h : 120 < l.length ∨ 120 < m.length
  · exact natDivisors_early l m h w
  · exact natDivisors_main l m (by omega) (by omega) w
end Go.Proofs.YtegneoaoodddoaaDoor

