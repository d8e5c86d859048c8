/-
  IeeeBack: the walk.
-/
import Derived.Test.YtanicapbdigjaaaDoorLawX
namespace Go.Proofs.YtanicapbdigjaaaDoor
open Go.RowKit
set_option linter.unusedVariables false
set_option linter.unusedSimpArgs false
attribute [local go_sem] field_nat

theorem and_wide {E F b : Nat} (hE : E ≤ 11) (hF : F ≤ 51) (hb : b < 18446744073709551616) : bits .and .u64 (b : Int) (IntKind.u64.wrap (IntKind.u64.wrap (2 ^ (E + F + 1)) - 1)) = ((b % 2 ^ (E + F + 1) : Nat) : Int) := by
  have h1 : 0 < 2 ^ (E + F + 1) := Nat.pow_pos (by decide)
  have h2 : 2 ^ (E + F + 1) ≤ 2 ^ 63 := Nat.pow_le_pow_right (by decide) (by omega)
  rw [show (2 : Int) ^ (E + F + 1) = ((2 ^ (E + F + 1) : Nat) : Int) by simp]
  have h3 := and_mask (x := b) (k := E + F + 1) hb (by omega)
  generalize 2 ^ (E + F + 1) = P at *
  rw [IntWalk.u64_in (P : Int) ⟨by omega, by omega⟩, IntWalk.u64_in _ ⟨by omega, by omega⟩, ← h3]
  congr 1; omega
theorem parts_of {E F p : Nat} (hp : p < 2 ^ (E + F + 1)) : p = fsize E F p + (if fneg E F p then fsgn E F else 0) := by
  have h2 : 2 ^ (E + F + 1) = 2 ^ (E + F) + 2 ^ (E + F) := by rw [Nat.pow_succ]; omega
  have h1 : 0 < 2 ^ (E + F) := Nat.pow_pos (by decide)
  unfold fsize fneg fsgn
  rw [Nat.testBit_eq_decide_div_mod_eq]
  have h3 := Nat.div_add_mod p (2 ^ (E + F))
  have h4 : p / 2 ^ (E + F) < 2 := (Nat.div_lt_iff_lt_mul h1).2 (by omega)
  generalize p / 2 ^ (E + F) = q at *
  generalize p % 2 ^ (E + F) = m at *
  generalize 2 ^ (E + F) = P at *
  rcases (show q = 0 ∨ q = 1 by omega) with h | h
  · rw [h] at h3 ⊢; simp at h3 ⊢; omega
  · rw [h] at h3 ⊢; simp at h3 ⊢; omega
theorem fval_pos {E F n : Nat} (h : 0 < n) : 0 < fval E F n := by
  rw [← fval_zero E F, fval_lt]; exact h
/-- What is seen of a finite pattern that is no nought. -/
structure Seen (E F p : Nat) (r : Rat) (n : Nat) : Prop where
  under : Under E F (qabs r) n
  exact_ : (p, true) = fexact E F r n
  below : (p, true) = fbelow E F r n
  above : (p, true) = fabove E F r n
  near : p = fnear E F r n
  text : ¬ qtext r = [48]
theorem step_pos {E F n : Nat} (hn : 0 < n) : 0 < fstep E F n / 2 := by
  have h2 : (0 : Rat) < 2 := by decide
  have h : 0 < fstep E F n := by
    unfold fstep
    split
    · have := (fval_lt (E := E) (F := F) (a := n) (b := n + 1)).2 (by omega); grind
    · have := (fval_lt (E := E) (F := F) (a := n - 1) (b := n)).2 (by omega); grind
  rw [Rat.div_def]
  exact Rat.mul_pos h (Rat.inv_pos.2 h2)
theorem qt_nought : qtext (0 : Rat) = [48] := by decide +kernel
theorem qtext_no {r : Rat} (h : r ≠ 0) : ¬ qtext r = [48] := fun h9 => h (qtext_inj (h9.trans qt_nought.symm))
theorem seen_of {E F n : Nat} (s : Bool) (hn : n < finf E F) (h0 : 0 < n) (hs : n < fsgn E F) : Seen E F (dsign E F s n) (if s then -(fval E F n) else fval E F n) n := by
  have hp := fval_pos (E := E) (F := F) h0
  obtain ⟨r, hr⟩ : ∃ r, r = (if s then -(fval E F n) else fval E F n) := ⟨_, rfl⟩
  have hneg : r < 0 ↔ s = true := by rw [hr]; cases s <;> simp <;> grind
  have hab : qabs r = fval E F n := by unfold qabs; rw [hr]; cases s <;> simp <;> grind
  have hdec : decide (r < 0) = s := by cases s <;> simp [hneg]
  have hup : fup E F r n = n := by unfold fup; rw [if_pos hab.symm]
  have hmore : fmore E F r n = false := by
    have h1 : qcmp (qabs r - fval E F n) (fstep E F n / 2) = -1 := by
      unfold qcmp
      rw [hab, if_pos]
      rw [Rat.sub_self]; exact step_pos h0
    unfold fmore
    rw [h1]; simp
  rw [← hr]
  refine ⟨by rw [hab]; exact under_self hn, ?_, ?_, ?_, ?_, qtext_no fun h => ?_⟩
  · unfold fexact; rw [if_pos hab.symm, hdec]
  · unfold fbelow
    rw [hup, if_neg (by omega : ¬ n = finf E F)]
    cases s
    · rw [if_neg (by rw [hneg]; simp)]; simp [dsign]
    · rw [if_pos (by rw [hneg])]
  · unfold fabove
    rw [hup, if_neg (by omega : ¬ n = finf E F)]
    cases s
    · rw [if_pos (by rw [hr]; exact hp)]; simp [dsign]
    · rw [if_neg (by rw [hr]; simp; grind)]
  · unfold fnear; rw [hmore, hdec]; rfl
  · rw [h] at hab; rw [← hab] at hp; revert hp; decide
theorem seen_fin {E F p : Nat} (hp : p < 2 ^ (E + F + 1)) (hk : dkind E F p = 1) (h0 : 0 < fsize E F p) : Seen E F p (dval' E F p) (fsize E F p) := by
  have hn := dk_one.1 hk
  have hs := fsize_lt E F p
  have h1 := (dk_fin hn).2
  rw [h1]
  have h2 := seen_of (fneg E F p) hn h0 hs
  have h3 : dsign E F (fneg E F p) (fsize E F p) = p := by
    have h4 := parts_of hp
    unfold dsign
    cases h5 : fneg E F p
    · rw [h5] at h4; simp at h4 ⊢; omega
    · rw [h5] at h4; simp only [if_true] at h4; rw [if_pos ⟨rfl, h0⟩]; exact h4.symm
  rwa [h3] at h2
theorem qabs_zero : qabs 0 = 0 := by decide +kernel
theorem seen_zero {E F : Nat} (hE : 1 ≤ E) : Under E F (qabs 0) 0 ∧ (0, true) = fexact E F 0 0 := by
  have h := under_self (finf_pos (F := F) hE)
  rw [fval_zero] at h
  refine ⟨by rw [qabs_zero]; exact h, ?_⟩
  unfold fexact
  rw [if_pos (by rw [fval_zero, qabs_zero])]
  simp [dsign]
theorem dval_zero {E F p : Nat} (h : ¬ dkind E F p = 1 ∨ fsize E F p = 0) : dval' E F p = 0 := by
  rcases Nat.lt_trichotomy (fsize E F p) (finf E F) with h1 | h1 | h1
  · rcases h with h | h
    · exact (h (dk_fin h1).1).elim
    · rw [(dk_fin h1).2, h, fval_zero]; cases fneg E F p <;> decide +kernel
  · exact (dk_inf h1).2
  · exact (dk_nan h1).2
theorem dval_qb {E F p : Nat} (hE : E ≤ 11) (hF : F ≤ 52) : QB (dval' E F p) 66 := by
  rcases Nat.lt_trichotomy (fsize E F p) (finf E F) with h1 | h1 | h1
  · rw [(dk_fin h1).2]
    cases fneg E F p
    · exact fval_qb hE hF h1
    · exact (fval_qb hE hF h1).neg
  · rw [(dk_inf h1).2]; exact QB.zero _ (by decide)
  · rw [(dk_nan h1).2]; exact QB.zero _ (by decide)
theorem text_t (v : Value) (q : Rat) (T : List UInt8) (k : Nat) (w : World) (h : QIs w v q) (hq : QB q k) (hk : k ≤ 100000) (hT : Hid (qtext q = T)) : Calls Tryd.prog 13 #[v] w fun e w' => e = .returned (.string ⟨T.toArray⟩) ∧ Below w.heap.size w w' := by
  have h2 := qtext_any v _ w h (hq.mono hk)
  rwa [hT.out] at h2

set_option maxRecDepth 100000 in
set_option maxHeartbeats 1000000 in
/-- IeeeBack. -/
theorem ieeeBack_main (how : Int) (E F a : Nat) (w : World) (HL : Hid (Looked (bits .and .i64 how 2) E F)) (ha64 : a < 18446744073709551616) :
    Calls Tryd.prog 5 #[.int .i64 how, .int .u64 (a : Int)] w fun e w' => e = .returned (.bool true) ∧ Below w.heap.size w w' := by
  have hE2 := HL.out.ok.1
  have hE : E ≤ 11 := by have := HL.out.ok.2.1; omega
  have hF1 := HL.out.ok.2.2.1
  have hF : F ≤ 52 := by have := HL.out.ok.2.2.2; omega
  have hF51 : F ≤ 51 := by have := HL.out.ok.2.2.2; omega
  go_enter Tryd.func5, Tryd.ntmps5
  go_wp2_with fail
  refine (alive4_any _).mono ?_
  rintro e w1 ⟨rfl, hb⟩
  have hbf := hb
  clear hb
  go_wp2_with fail
  refine (form_fix _ E F _ HL).mono ?_
  rintro e w2 ⟨rfl, hb⟩
  replace hbf := hbf.trans (hb.mono hbf.size)
  clear hb
  obtain ⟨w3, hwE⟩ : ∃ W, W = (w2.alloc (.cells #[.int .i64 (E : Int), .int .i64 (F : Int)] 25)) := ⟨_, rfl⟩
  have hb : Below w2.heap.size w2 w3 := by rw [hwE]; exact ((Below.refl _ w2).alloc (Nat.le_refl _) _)
  obtain ⟨pg, hpg⟩ : ∃ p, p = w2.heap.size := ⟨_, rfl⟩
  have hbg : Box2 w3 pg (Value.int .i64 (E : Int)) (Value.int .i64 (F : Int)) := by rw [hwE, hpg]; exact ⟨by go_simp, by go_simp, by go_simp, by go_simp⟩
  have HP : Hid (w.heap.size ≤ pg) := Lib.hid (by have h9 := hbf.size; omega)
  have HW := Lib.hid hwE; clear hwE
  go_upto_region 4 with fail
  rw [← HW.out, ← hpg]
  clear hpg HW
  replace hbf := hbf.trans (hb.mono hbf.size)
  clear hb
  have eg0 := hbg.c0
  have eg1 := hbg.c1
  go_upto_region 5 with fail
  rw [and_wide hE hF51 ha64]
  clear eg0 eg1
  obtain ⟨p, hp⟩ : ∃ p, p = a % 2 ^ (E + F + 1) := ⟨_, rfl⟩
  have hpl : p < 2 ^ (E + F + 1) := by rw [hp]; exact Nat.mod_lt _ (Nat.pow_pos (by decide))
  have hp64 : p < 18446744073709551616 := by have := Nat.pow_le_pow_right (show 0 < 2 by decide) (show E + F + 1 ≤ 63 by omega); omega
  rw [← hp]
  have HPL := Lib.hid hpl
  clear hp hpl
  have eg0 := hbg.c0
  have eg1 := hbg.c1
  go_wp2_with fail
  refine (decode_any E F p _ hE2 hE hF1 hF hp64).mono ?_
  rintro e w4 hq9
  obtain ⟨xB, xxO, xxL, xxC, xyO, xyL, xyC, rfl, hS, hxx, hxy, hx, hb⟩ := hq9.out
  have HxS := Lib.hid hS; clear hS
  clear eg0 eg1
  replace hbg := hbg.kept hb
  replace hbf := hbf.trans (hb.mono hbf.size)
  clear hb
  obtain ⟨w5, hwE⟩ : ∃ W, W = (w4.alloc (.cells #[.bool xB, .slice xxO xxL xxC, .slice xyO xyL xyC] 31)) := ⟨_, rfl⟩
  have hb : Below w4.heap.size w4 w5 := by rw [hwE]; exact ((Below.refl _ w4).alloc (Nat.le_refl _) _)
  obtain ⟨pr, hpr⟩ : ∃ p, p = w4.heap.size := ⟨_, rfl⟩
  have hbr : Box3 w5 pr (Value.bool xB) (Value.slice xxO xxL xxC) (Value.slice xyO xyL xyC) := by rw [hwE, hpr]; exact ⟨by go_simp, by go_simp, by go_simp, by go_simp, by go_simp, by go_simp⟩
  replace HP : Hid (w.heap.size ≤ pg ∧ pg < pr) := Lib.hid (by have h1 := HP.out; have h9 := hbf.size; have h2g := hbg.lt; omega)
  have HW := Lib.hid hwE; clear hwE
  go_upto_region 6 with fail
  rw [← HW.out, ← hpr]
  clear hpr HW
  replace hbg := hbg.kept hb
  replace hxx := hxx.below hb
  replace hxy := hxy.below hb
  replace hx := hx.below hb
  replace hbf := hbf.trans (hb.mono hbf.size)
  clear hb
  have hrq := dval_qb (E := E) (F := F) (p := p) hE hF
  by_cases hs : dkind E F p = 1 ∧ 0 < fsize E F p
  case pos =>
    have hk := hs.1
    have hsn := seen_fin HPL.out hk hs.2
    generalize fsize E F p = n at *
    obtain ⟨r, hr⟩ : ∃ r, r = dval' E F p := ⟨_, rfl⟩
    rw [← hr] at hx hrq hsn
    have hu := hsn.under
    have HEX := Lib.hid hsn.exact_
    have HBE := Lib.hid hsn.below
    have HAB := Lib.hid hsn.above
    have HNE := Lib.hid hsn.near
    have ht := hsn.text
    clear hsn hr hs
    rw [hk]
    have eg0 := hbg.c0
    have eg1 := hbg.c1
    have er0 := hbr.c0
    have er1 := hbr.c1
    have er2 := hbr.c2
    go_wp2_with fail
    refine (exact_any E F n 66 _ r _ p true HEX hE2 hE hF1 hF hx hrq (by decide) hu).mono ?_
    rintro e w6 ⟨rfl, hb⟩
    clear eg0 eg1 er0 er1 er2
    replace hbg := hbg.kept hb
    replace hbr := hbr.kept hb
    replace hxx := hxx.below hb
    replace hxy := hxy.below hb
    replace hx := hx.below hb
    replace hbf := hbf.trans (hb.mono hbf.size)
    clear hb
    obtain ⟨T, hT⟩ : ∃ T, qtext r = T := ⟨_, rfl⟩
    have HT := Lib.hid hT
    have htb : (T == [48]) = false := by rw [← hT]; simpa using ht
    clear hT
    have er0 := hbr.c0
    have er1 := hbr.c1
    have er2 := hbr.c2
    go_wp2_with fail
    refine (text_t _ r T 66 _ hx hrq (by decide) HT).mono ?_
    rintro e w7 ⟨rfl, hb⟩
    clear er0 er1 er2
    replace hbg := hbg.kept hb
    replace hbr := hbr.kept hb
    replace hxx := hxx.below hb
    replace hxy := hxy.below hb
    replace hx := hx.below hb
    replace hbf := hbf.trans (hb.mono hbf.size)
    clear hb
    have eg0 := hbg.c0
    have eg1 := hbg.c1
    have er0 := hbr.c0
    have er1 := hbr.c1
    have er2 := hbr.c2
    go_wp2_with fail
    refine (below_any E F n 66 _ r _ p true HBE hE2 hE hF1 hF hx hrq (by decide) hu).mono ?_
    rintro e w8 ⟨rfl, hb⟩
    clear eg0 eg1 er0 er1 er2
    replace hbg := hbg.kept hb
    replace hbr := hbr.kept hb
    replace hxx := hxx.below hb
    replace hxy := hxy.below hb
    replace hx := hx.below hb
    replace hbf := hbf.trans (hb.mono hbf.size)
    clear hb
    have eg0 := hbg.c0
    have eg1 := hbg.c1
    have er0 := hbr.c0
    have er1 := hbr.c1
    have er2 := hbr.c2
    go_wp2_with fail
    refine (above_any E F n 66 _ r _ p true HAB hE2 hE hF1 hF hx hrq (by decide) hu).mono ?_
    rintro e w9 ⟨rfl, hb⟩
    clear eg0 eg1 er0 er1 er2
    replace hbg := hbg.kept hb
    replace hbr := hbr.kept hb
    replace hxx := hxx.below hb
    replace hxy := hxy.below hb
    replace hx := hx.below hb
    replace hbf := hbf.trans (hb.mono hbf.size)
    clear hb
    have hpp : ((p : Int) == (p : Int)) = true := beq_self_eq_true _
    have eg0 := hbg.c0
    have eg1 := hbg.c1
    have er0 := hbr.c0
    have er1 := hbr.c1
    have er2 := hbr.c2
    go_wp2_with fail
    refine (nearest_any E F n 66 _ r _ p HNE hE2 hE hF1 hF hx hrq (by decide) hu).mono ?_
    rintro e w10 ⟨rfl, hb⟩
    clear eg0 eg1 er0 er1 er2
    replace hbg := hbg.kept hb
    replace hbr := hbr.kept hb
    replace hxx := hxx.below hb
    replace hxy := hxy.below hb
    replace hx := hx.below hb
    replace hbf := hbf.trans (hb.mono hbf.size)
    clear hb
    go_wp2_with fail
    go_ret
    exact ⟨rfl, hbf⟩
  case neg =>
    have hz : dval' E F p = 0 := dval_zero (by by_cases h9 : dkind E F p = 1 <;> simp [h9] at hs ⊢; omega)
    rw [hz] at hx hrq
    have hu := (seen_zero (E := E) (F := F) (by omega)).1
    have HEX := Lib.hid (seen_zero (E := E) (F := F) (by omega)).2
    have eg0 := hbg.c0
    have eg1 := hbg.c1
    have er0 := hbr.c0
    have er1 := hbr.c1
    have er2 := hbr.c2
    go_wp2_with fail
    refine (exact_any E F 0 66 _ 0 _ 0 true HEX hE2 hE hF1 hF hx hrq (by decide) hu).mono ?_
    rintro e w6 ⟨rfl, hb⟩
    clear eg0 eg1 er0 er1 er2
    replace hbg := hbg.kept hb
    replace hbr := hbr.kept hb
    replace hxx := hxx.below hb
    replace hxy := hxy.below hb
    replace hx := hx.below hb
    replace hbf := hbf.trans (hb.mono hbf.size)
    clear hb
    by_cases hk : dkind E F p = 1
    case pos =>
      rw [hk]
      have er0 := hbr.c0
      have er1 := hbr.c1
      have er2 := hbr.c2
      go_wp2_with fail
      refine (text_t _ 0 [48] 66 _ hx hrq (by decide) (Lib.hid qt_nought)).mono ?_
      rintro e w7 ⟨rfl, hb⟩
      clear er0 er1 er2
      replace hbg := hbg.kept hb
      replace hbr := hbr.kept hb
      replace hxx := hxx.below hb
      replace hxy := hxy.below hb
      replace hx := hx.below hb
      replace hbf := hbf.trans (hb.mono hbf.size)
      clear hb
      go_wp2_with fail
      go_ret
      exact ⟨rfl, hbf⟩
    case neg =>
      generalize dkind E F p = km at *
      have hkb : (km == 1) = false := by rw [beq_eq_false_iff_ne]; exact hk
      have hkb2 : (km != 1) = true := by rw [bne, hkb]; rfl
      go_wp2_with fail
      go_ret
      exact ⟨rfl, hbf⟩

theorem ieeeBack_walk (a0 a1 : Int) (w0 : (Lit.int .i64 a0).wf = true) (w1 : (Lit.int .u64 a1).wf = true) (w : World) :
    Calls Tryd.prog 5 #[.int .i64 a0, .int .u64 a1] w fun e w' => e = .returned (.bool true) ∧ Below w.heap.size w w' := by
  have h1 := wf_u64 w1
  obtain ⟨E, F, hL⟩ := looked a0
  have := ieeeBack_main a0 E F a1.toNat w (Lib.hid hL) (by omega)
  rwa [Int.toNat_of_nonneg h1.1] at this
end Go.Proofs.YtanicapbdigjaaaDoor
