/-
  ValueBack: the walk.
-/
import Derived.Test.YtfiednmcecpkpaaDoorValB
import Derived.Test.YtfiednmcecpkpaaDoorOpenV
import Derived.Deep.DeepCutAuto
import Derived.WalkMore
import Derived.Laws.StructEq
namespace Go.Proofs.YtfiednmcecpkpaaDoor
open Go.RowKit
set_option linter.unusedVariables false
set_option linter.unusedSimpArgs false
attribute [local go_sem] field_nat

theorem vvalid_len {k : Int} {n c : List UInt8} (h : vvalid k n c = true) : (¬ qcode (vtext k n c) = 0 → (vtext k n c).length ≤ 1000) := by
  intro hq
  have ht : vtext k n c = if k = 0 then [63] else if k = 2 then 58 :: c else n := by unfold vtext; rw [if_pos h]
  rw [ht] at hq ⊢
  unfold vvalid at h
  by_cases h0 : k = 0
  · rw [if_pos h0]; decide
  · rw [if_neg h0] at h hq ⊢
    by_cases h2 : k = 2
    · rw [if_pos h2] at h ⊢
      simp only [Bool.and_eq_true, decide_eq_true_eq] at h
      simp only [List.length_cons]; omega
    · rw [if_neg h2] at h hq ⊢
      unfold vnum at h
      simp only [Bool.and_eq_true, decide_eq_true_eq] at h
      exact (hq h.2.2).elim
theorem valid_num {s : List UInt8} (h : qcode s = 0) : vvalid 1 s [] = true := by unfold vvalid vnum; rw [h]; rfl

set_option maxRecDepth 100000 in
set_option maxHeartbeats 4000000 in
/-- ValueBack. -/
theorem valueBack_main (k : Int) (n c s : List UInt8) (w : World) (hn : n.length ≤ 9223372036854775807) (hc : c.length ≤ 9223372036854775807) : Calls Tryd.prog 4 #[valV k n c, .string ⟨s.toArray⟩] w fun e w' => e = .returned (.bool true) ∧ Below w.heap.size w w' := by
  obtain ⟨rb, hrb⟩ : ∃ b, b = rowB [⟨k, n, c⟩] := ⟨_, rfl⟩
  have HRB := Lib.hid hrb
  clear hrb
  obtain ⟨w0, hw0⟩ : ∃ w0, w0 = (w.alloc (.cells #[.int .i64 k, .string ⟨n.toArray⟩, .string ⟨c.toArray⟩] 23)) := ⟨_, rfl⟩
  have hbf : Below w.heap.size w w0 := by rw [hw0]; exact ((Below.refl _ w).alloc (Nat.le_refl _) _)
  obtain ⟨pv, hpv⟩ : ∃ p, p = w.heap.size := ⟨_, rfl⟩
  have hbv : Box3 w0 pv (Value.int .i64 k) (Value.string ⟨n.toArray⟩) (Value.string ⟨c.toArray⟩) := by rw [hw0, hpv]; exact ⟨by go_simp, by go_simp, by go_simp, by go_simp, by go_simp, by go_simp⟩
  have HP : Hid (w.heap.size ≤ pv) := Lib.hid (by omega)
  have HW := Lib.hid hw0; clear hw0
  go_enter Tryd.func4, Tryd.ntmps4
  go_upto_region 1 with fail
  rw [← HW.out, ← hpv]
  clear hpv HW
  obtain ⟨w1, hwE⟩ : ∃ W, W = w0.alloc (.cells #[.int .i64 k, .string ⟨n.toArray⟩, .string ⟨c.toArray⟩] 23) := ⟨_, rfl⟩
  have hb : Below w0.heap.size w0 w1 := by rw [hwE]; exact (Below.refl _ _).alloc (Nat.le_refl _) _
  obtain ⟨vP, hvP⟩ : ∃ p, p = w0.heap.size := ⟨_, rfl⟩
  have hvs : Vals w1 (some ⟨vP, 0, none⟩) [⟨k, n, c⟩] := by rw [hwE, hvP]; exact vals1 _ k n c
  have ev0 := hbv.c0
  have ev1 := hbv.c1
  have ev2 := hbv.c2
  have HW := Lib.hid hwE; clear hwE
  go_wp2_with fail
  rw [← HW.out, ← hvP]
  clear hvP HW
  clear ev0 ev1 ev2
  replace hbv := hbv.kept hb
  replace hbf := hbf.trans (hb.mono hbf.size)
  clear hb
  refine (row_b1 _ ⟨k, n, c⟩ rb _ hvs ⟨hn, hc⟩ HRB).mono ?_
  rintro e w2 ⟨rfl, hb⟩
  replace hbv := hbv.kept hb
  replace hbf := hbf.trans (hb.mono hbf.size)
  clear hb
  clear hvs
  cases rb
  case false =>
    go_wp2_with fail
    refine (alive12_any _).mono ?_
    rintro e w3 ⟨rfl, hb⟩
    replace hbv := hbv.kept hb
    replace hbf := hbf.trans (hb.mono hbf.size)
    clear hb
    go_wp2_with fail
    go_ret
    exact ⟨rfl, hbf⟩
  case true =>
    have hle := row_le1 HRB.out.symm
    obtain ⟨hn4, hc4⟩ := hle
    by_cases hs3 : 300 < s.length
    case pos =>
      have hsi : (300 : Int) < ((s.length : Nat) : Int) := by omega
      go_wp2_with fail
      refine (alive12_any _).mono ?_
      rintro e w3 ⟨rfl, hb⟩
      replace hbv := hbv.kept hb
      replace hbf := hbf.trans (hb.mono hbf.size)
      clear hb
      go_wp2_with fail
      go_ret
      exact ⟨rfl, hbf⟩
    case neg =>
      have hsi : ¬ (300 : Int) < ((s.length : Nat) : Int) := by omega
      have ev0 := hbv.c0
      have ev1 := hbv.c1
      have ev2 := hbv.c2
      go_wp2_with fail
      refine (alive12_any _).mono ?_
      rintro e w3 ⟨rfl, hb⟩
      clear ev0 ev1 ev2
      replace hbv := hbv.kept hb
      replace hbf := hbf.trans (hb.mono hbf.size)
      clear hb
      obtain ⟨q, hq⟩ : ∃ q, q = qval s := ⟨_, rfl⟩
      obtain ⟨c1, hc1⟩ : ∃ c, c = qcode s := ⟨_, rfl⟩
      have hqb : QB q 100000 := by rw [hq]; exact (QB.val9 s).mono (by decide)
      have HQ := Lib.hid hq
      have HC1 := Lib.hid hc1
      clear hq hc1
      have ev0 := hbv.c0
      have ev1 := hbv.c1
      have ev2 := hbv.c2
      go_wp2_with fail
      refine (qparse_main s _ q c1 HQ HC1 (by omega)).mono ?_
      rintro e w4 hq9
      obtain ⟨aB, axO, axL, axC, ayO, ayL, ayC, rfl, hS, hax, hay, ha, hb⟩ := hq9.out
      have HaS := Lib.hid hS; clear hS
      clear ev0 ev1 ev2
      replace hbv := hbv.kept hb
      replace hbf := hbf.trans (hb.mono hbf.size)
      clear hb
      obtain ⟨w5, hwE⟩ : ∃ W, W = (w4.alloc (.cells #[.bool aB, .slice axO axL axC, .slice ayO ayL ayC] 38)) := ⟨_, rfl⟩
      have hb : Below w4.heap.size w4 w5 := by rw [hwE]; exact ((Below.refl _ w4).alloc (Nat.le_refl _) _)
      obtain ⟨pa, hpa⟩ : ∃ p, p = w4.heap.size := ⟨_, rfl⟩
      have hba : Box3 w5 pa (Value.bool aB) (Value.slice axO axL axC) (Value.slice ayO ayL ayC) := by rw [hwE, hpa]; exact ⟨by go_simp, by go_simp, by go_simp, by go_simp, by go_simp, by go_simp⟩
      replace HP : Hid (w.heap.size ≤ pv ∧ pv < pa) := Lib.hid (by have h1 := HP.out; have h9 := hbf.size; have h2v := hbv.lt; omega)
      have HW := Lib.hid hwE; clear hwE
      go_upto_region 4 with fail
      rw [← HW.out, ← hpa]
      clear hpa HW
      replace hbv := hbv.kept hb
      replace hax := hax.below hb
      replace hay := hay.below hb
      replace ha := ha.below hb
      replace hbf := hbf.trans (hb.mono hbf.size)
      clear hb
      obtain ⟨vb, hvb⟩ : ∃ b, b = vvalid k n c := ⟨_, rfl⟩
      have HVB := Lib.hid hvb
      clear hvb
      by_cases hc0 : c1 = 0
      case pos =>
        subst hc0
        have hvn := vparse_num HC1.out.symm
        have HK1 : Hid ((1 : Int) = vpk s) := Lib.hid hvn.2.1.symm
        have HN1 : Hid (s = vpn s) := Lib.hid hvn.2.2.1.symm
        have HG1 : Hid ([] = vpcat s) := Lib.hid hvn.2.2.2.symm
        have HD1 : Hid ((0 : Int) = vpc s) := Lib.hid hvn.1.symm
        have HT1 : Hid (s = qtext q) := Lib.hid (by rw [HQ.out]; exact (qcode_text HC1.out.symm).symm)
        have HV1 : Hid (true = vvalid 1 s []) := Lib.hid (valid_num HC1.out.symm).symm
        clear hvn
        have ev0 := hbv.c0
        have ev1 := hbv.c1
        have ev2 := hbv.c2
        have ea0 := hba.c0
        have ea1 := hba.c1
        have ea2 := hba.c2
        go_wp2_with fail
        refine (vof_t _ q s _ ha hqb HT1).mono ?_
        rintro e w6 ⟨rfl, hb⟩
        clear ev0 ev1 ev2 ea0 ea1 ea2
        replace hbv := hbv.kept hb
        replace hba := hba.kept hb
        replace hax := hax.below hb
        replace hay := hay.below hb
        replace ha := ha.below hb
        replace hbf := hbf.trans (hb.mono hbf.size)
        clear hb
        obtain ⟨w7, hwE⟩ : ∃ W, W = (w6.alloc (.cells #[.int .i64 1, .string ⟨s.toArray⟩, .string ⟨#[]⟩] 23)) := ⟨_, rfl⟩
        have hb : Below w6.heap.size w6 w7 := by rw [hwE]; exact ((Below.refl _ w6).alloc (Nat.le_refl _) _)
        obtain ⟨px, hpx⟩ : ∃ p, p = w6.heap.size := ⟨_, rfl⟩
        have hbx : Box3 w7 px (Value.int .i64 1) (Value.string ⟨s.toArray⟩) (Value.string ⟨#[]⟩) := by rw [hwE, hpx]; exact ⟨by go_simp, by go_simp, by go_simp, by go_simp, by go_simp, by go_simp⟩
        replace HP : Hid (w.heap.size ≤ pv ∧ pv < pa ∧ pa < px) := Lib.hid (by have h1 := HP.out; have h9 := hbf.size; have h2a := hba.lt; omega)
        have HW := Lib.hid hwE; clear hwE
        go_upto_region 6 with fail
        rw [← HW.out, ← hpx]
        clear hpx HW
        replace hbv := hbv.kept hb
        replace hba := hba.kept hb
        replace hax := hax.below hb
        replace hay := hay.below hb
        replace ha := ha.below hb
        replace hbf := hbf.trans (hb.mono hbf.size)
        clear hb
        have ev0 := hbv.c0
        have ev1 := hbv.c1
        have ev2 := hbv.c2
        have ea0 := hba.c0
        have ea1 := hba.c1
        have ea2 := hba.c2
        have ex0 := hbx.c0
        have ex1 := hbx.c1
        have ex2 := hbx.c2
        go_wp2_with fail
        refine (vparse_b s s [] 1 0 _ HK1 HN1 HG1 HD1 (by omega) (Lib.hid fun _ => by omega)).mono ?_
        rintro e w8 ⟨rfl, hb⟩
        clear ev0 ev1 ev2 ea0 ea1 ea2 ex0 ex1 ex2
        replace hbv := hbv.kept hb
        replace hba := hba.kept hb
        replace hbx := hbx.kept hb
        replace hax := hax.below hb
        replace hay := hay.below hb
        replace ha := ha.below hb
        replace hbf := hbf.trans (hb.mono hbf.size)
        clear hb
        obtain ⟨w9, hwE⟩ : ∃ W, W = (w8.alloc (.cells #[.int .i64 1, .string ⟨s.toArray⟩, .string ⟨#[]⟩] 23)) := ⟨_, rfl⟩
        have hb : Below w8.heap.size w8 w9 := by rw [hwE]; exact ((Below.refl _ w8).alloc (Nat.le_refl _) _)
        obtain ⟨py, hpy⟩ : ∃ p, p = w8.heap.size := ⟨_, rfl⟩
        have hby : Box3 w9 py (Value.int .i64 1) (Value.string ⟨s.toArray⟩) (Value.string ⟨#[]⟩) := by rw [hwE, hpy]; exact ⟨by go_simp, by go_simp, by go_simp, by go_simp, by go_simp, by go_simp⟩
        replace HP : Hid (w.heap.size ≤ pv ∧ pv < pa ∧ pa < px ∧ px < py) := Lib.hid (by have h1 := HP.out; have h9 := hbf.size; have h2x := hbx.lt; omega)
        have HW := Lib.hid hwE; clear hwE
        go_upto_region 7 with fail
        rw [← HW.out, ← hpy]
        clear hpy HW
        replace hbv := hbv.kept hb
        replace hba := hba.kept hb
        replace hbx := hbx.kept hb
        replace hax := hax.below hb
        replace hay := hay.below hb
        replace ha := ha.below hb
        replace hbf := hbf.trans (hb.mono hbf.size)
        clear hb
        have ev0 := hbv.c0
        have ev1 := hbv.c1
        have ev2 := hbv.c2
        have ex0 := hbx.c0
        have ex1 := hbx.c1
        have ex2 := hbx.c2
        have ey0 := hby.c0
        have ey1 := hby.c1
        have ey2 := hby.c2
        go_wp2_with fail
        refine (vvalid_b 1 s [] true _ HV1 (by omega)).mono ?_
        rintro e w10 ⟨rfl, hb⟩
        clear ev0 ev1 ev2 ex0 ex1 ex2 ey0 ey1 ey2
        replace hbv := hbv.kept hb
        replace hba := hba.kept hb
        replace hbx := hbx.kept hb
        replace hby := hby.kept hb
        replace hax := hax.below hb
        replace hay := hay.below hb
        replace ha := ha.below hb
        replace hbf := hbf.trans (hb.mono hbf.size)
        clear hb
        have ev0 := hbv.c0
        have ev1 := hbv.c1
        have ev2 := hbv.c2
        have ea0 := hba.c0
        have ea1 := hba.c1
        have ea2 := hba.c2
        have ex0 := hbx.c0
        have ex1 := hbx.c1
        have ex2 := hbx.c2
        have ey0 := hby.c0
        have ey1 := hby.c1
        have ey2 := hby.c2
        go_wp2_with fail
        refine (vvalid_b k n c vb _ HVB (by omega)).mono ?_
        rintro e w11 ⟨rfl, hb⟩
        clear ev0 ev1 ev2 ea0 ea1 ea2 ex0 ex1 ex2 ey0 ey1 ey2
        replace hbv := hbv.kept hb
        replace hba := hba.kept hb
        replace hbx := hbx.kept hb
        replace hby := hby.kept hb
        replace hax := hax.below hb
        replace hay := hay.below hb
        replace ha := ha.below hb
        replace hbf := hbf.trans (hb.mono hbf.size)
        clear hb
        cases vb
        case false =>
          have HT : Hid ([33] = vtext k n c) := Lib.hid (vtext_bad HVB.out.symm).symm
          have ev0 := hbv.c0
          have ev1 := hbv.c1
          have ev2 := hbv.c2
          go_wp2_with fail
          refine (vtext_t k n c [33] _ HT (by omega) (by omega)).mono ?_
          rintro e w12 ⟨rfl, hb⟩
          clear ev0 ev1 ev2
          replace hbv := hbv.kept hb
          replace hba := hba.kept hb
          replace hbx := hbx.kept hb
          replace hby := hby.kept hb
          replace hax := hax.below hb
          replace hay := hay.below hb
          replace ha := ha.below hb
          replace hbf := hbf.trans (hb.mono hbf.size)
          clear hb
          go_wp2_with fail
          go_ret
          exact ⟨rfl, hbf⟩
        case true =>
          obtain ⟨T, hT⟩ : ∃ T, T = vtext k n c := ⟨_, rfl⟩
          have HT := Lib.hid hT
          have hbk := vback HVB.out.symm
          rw [← hT] at hbk
          have HK := Lib.hid hbk.2.1.symm
          have HN := Lib.hid hbk.2.2.1.symm
          have HG := Lib.hid hbk.2.2.2.symm
          have HD : Hid ((0 : Int) = vpc T) := Lib.hid hbk.1.symm
          have hTl : T.length ≤ 100000 := by rw [hT]; have := vtext_len k n c; omega
          have HL : Hid (¬ qcode T = 0 → T.length ≤ 1000) := Lib.hid (by rw [hT]; exact vvalid_len HVB.out.symm)
          clear hbk hT
          have ev0 := hbv.c0
          have ev1 := hbv.c1
          have ev2 := hbv.c2
          go_wp2_with fail
          refine (vtext_t k n c T _ HT (by omega) (by omega)).mono ?_
          rintro e w12 ⟨rfl, hb⟩
          clear ev0 ev1 ev2
          replace hbv := hbv.kept hb
          replace hba := hba.kept hb
          replace hbx := hbx.kept hb
          replace hby := hby.kept hb
          replace hax := hax.below hb
          replace hay := hay.below hb
          replace ha := ha.below hb
          replace hbf := hbf.trans (hb.mono hbf.size)
          clear hb
          have ev0 := hbv.c0
          have ev1 := hbv.c1
          have ev2 := hbv.c2
          go_wp2_with fail
          refine (vparse_b T n c k 0 _ HK HN HG HD (by omega) HL).mono ?_
          rintro e w13 ⟨rfl, hb⟩
          clear ev0 ev1 ev2
          replace hbv := hbv.kept hb
          replace hba := hba.kept hb
          replace hbx := hbx.kept hb
          replace hby := hby.kept hb
          replace hax := hax.below hb
          replace hay := hay.below hb
          replace ha := ha.below hb
          replace hbf := hbf.trans (hb.mono hbf.size)
          clear hb
          obtain ⟨w14, hwE⟩ : ∃ W, W = (w13.alloc (.cells #[.int .i64 k, .string ⟨n.toArray⟩, .string ⟨c.toArray⟩] 23)) := ⟨_, rfl⟩
          have hb : Below w13.heap.size w13 w14 := by rw [hwE]; exact ((Below.refl _ w13).alloc (Nat.le_refl _) _)
          obtain ⟨pz, hpz⟩ : ∃ p, p = w13.heap.size := ⟨_, rfl⟩
          have hbz : Box3 w14 pz (Value.int .i64 k) (Value.string ⟨n.toArray⟩) (Value.string ⟨c.toArray⟩) := by rw [hwE, hpz]; exact ⟨by go_simp, by go_simp, by go_simp, by go_simp, by go_simp, by go_simp⟩
          replace HP : Hid (w.heap.size ≤ pv ∧ pv < pa ∧ pa < px ∧ px < py ∧ py < pz) := Lib.hid (by have h1 := HP.out; have h9 := hbf.size; have h2y := hby.lt; omega)
          have HW := Lib.hid hwE; clear hwE
          go_upto_region 12 with fail
          rw [← HW.out, ← hpz]
          clear hpz HW
          replace hbv := hbv.kept hb
          replace hba := hba.kept hb
          replace hbx := hbx.kept hb
          replace hby := hby.kept hb
          replace hax := hax.below hb
          replace hay := hay.below hb
          replace ha := ha.below hb
          replace hbf := hbf.trans (hb.mono hbf.size)
          clear hb
          have ev0 := hbv.c0
          have ev1 := hbv.c1
          have ev2 := hbv.c2
          have ez0 := hbz.c0
          have ez1 := hbz.c1
          have ez2 := hbz.c2
          go_wp2_with fail
          go_ret
          exact ⟨rfl, hbf⟩
      case neg =>
        have hcb : (c1 == 0) = false := by rw [beq_eq_false_iff_ne]; exact hc0
        have ev0 := hbv.c0
        have ev1 := hbv.c1
        have ev2 := hbv.c2
        have ea0 := hba.c0
        have ea1 := hba.c1
        have ea2 := hba.c2
        go_wp2_with fail
        refine (vvalid_b k n c vb _ HVB (by omega)).mono ?_
        rintro e w6 ⟨rfl, hb⟩
        clear ev0 ev1 ev2 ea0 ea1 ea2
        replace hbv := hbv.kept hb
        replace hba := hba.kept hb
        replace hax := hax.below hb
        replace hay := hay.below hb
        replace ha := ha.below hb
        replace hbf := hbf.trans (hb.mono hbf.size)
        clear hb
        cases vb
        case false =>
          have HT : Hid ([33] = vtext k n c) := Lib.hid (vtext_bad HVB.out.symm).symm
          have ev0 := hbv.c0
          have ev1 := hbv.c1
          have ev2 := hbv.c2
          go_wp2_with fail
          refine (vtext_t k n c [33] _ HT (by omega) (by omega)).mono ?_
          rintro e w7 ⟨rfl, hb⟩
          clear ev0 ev1 ev2
          replace hbv := hbv.kept hb
          replace hba := hba.kept hb
          replace hax := hax.below hb
          replace hay := hay.below hb
          replace ha := ha.below hb
          replace hbf := hbf.trans (hb.mono hbf.size)
          clear hb
          go_wp2_with fail
          go_ret
          exact ⟨rfl, hbf⟩
        case true =>
          obtain ⟨T, hT⟩ : ∃ T, T = vtext k n c := ⟨_, rfl⟩
          have HT := Lib.hid hT
          have hbk := vback HVB.out.symm
          rw [← hT] at hbk
          have HK := Lib.hid hbk.2.1.symm
          have HN := Lib.hid hbk.2.2.1.symm
          have HG := Lib.hid hbk.2.2.2.symm
          have HD : Hid ((0 : Int) = vpc T) := Lib.hid hbk.1.symm
          have hTl : T.length ≤ 100000 := by rw [hT]; have := vtext_len k n c; omega
          have HL : Hid (¬ qcode T = 0 → T.length ≤ 1000) := Lib.hid (by rw [hT]; exact vvalid_len HVB.out.symm)
          clear hbk hT
          have ev0 := hbv.c0
          have ev1 := hbv.c1
          have ev2 := hbv.c2
          go_wp2_with fail
          refine (vtext_t k n c T _ HT (by omega) (by omega)).mono ?_
          rintro e w7 ⟨rfl, hb⟩
          clear ev0 ev1 ev2
          replace hbv := hbv.kept hb
          replace hba := hba.kept hb
          replace hax := hax.below hb
          replace hay := hay.below hb
          replace ha := ha.below hb
          replace hbf := hbf.trans (hb.mono hbf.size)
          clear hb
          have ev0 := hbv.c0
          have ev1 := hbv.c1
          have ev2 := hbv.c2
          go_wp2_with fail
          refine (vparse_b T n c k 0 _ HK HN HG HD (by omega) HL).mono ?_
          rintro e w8 ⟨rfl, hb⟩
          clear ev0 ev1 ev2
          replace hbv := hbv.kept hb
          replace hba := hba.kept hb
          replace hax := hax.below hb
          replace hay := hay.below hb
          replace ha := ha.below hb
          replace hbf := hbf.trans (hb.mono hbf.size)
          clear hb
          obtain ⟨w9, hwE⟩ : ∃ W, W = (w8.alloc (.cells #[.int .i64 k, .string ⟨n.toArray⟩, .string ⟨c.toArray⟩] 23)) := ⟨_, rfl⟩
          have hb : Below w8.heap.size w8 w9 := by rw [hwE]; exact ((Below.refl _ w8).alloc (Nat.le_refl _) _)
          obtain ⟨pz, hpz⟩ : ∃ p, p = w8.heap.size := ⟨_, rfl⟩
          have hbz : Box3 w9 pz (Value.int .i64 k) (Value.string ⟨n.toArray⟩) (Value.string ⟨c.toArray⟩) := by rw [hwE, hpz]; exact ⟨by go_simp, by go_simp, by go_simp, by go_simp, by go_simp, by go_simp⟩
          replace HP : Hid (w.heap.size ≤ pv ∧ pv < pa ∧ pa < pz) := Lib.hid (by have h1 := HP.out; have h9 := hbf.size; have h2a := hba.lt; omega)
          have HW := Lib.hid hwE; clear hwE
          go_upto_region 12 with fail
          rw [← HW.out, ← hpz]
          clear hpz HW
          replace hbv := hbv.kept hb
          replace hba := hba.kept hb
          replace hax := hax.below hb
          replace hay := hay.below hb
          replace ha := ha.below hb
          replace hbf := hbf.trans (hb.mono hbf.size)
          clear hb
          have ev0 := hbv.c0
          have ev1 := hbv.c1
          have ev2 := hbv.c2
          have ez0 := hbz.c0
          have ez1 := hbz.c1
          have ez2 := hbz.c2
          go_wp2_with fail
          go_ret
          exact ⟨rfl, hbf⟩

theorem valueBack_walk (v0 : Value) (a1 : ByteArray) (w : World) (hv : ValIn v0) (w1 : a1.size ≤ maxLen) :
    Calls Tryd.prog 4 #[v0, .string a1] w fun e w' => e = .returned (.bool true) ∧ Below w.heap.size w w' := by
  obtain ⟨k, n, c, rfl, hn, hc⟩ := hv
  obtain ⟨l, rfl⟩ : ∃ l : List UInt8, a1 = ⟨l.toArray⟩ := ⟨a1.data.toList, by simp⟩
  exact valueBack_main k n c l w hn hc

end Go.Proofs.YtfiednmcecpkpaaDoor
