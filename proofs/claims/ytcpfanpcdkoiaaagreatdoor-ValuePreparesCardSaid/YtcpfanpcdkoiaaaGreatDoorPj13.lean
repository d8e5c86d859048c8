/-
  Pj13: DecC (what is needed of them).
-/
import Derived.Test.YtcpfanpcdkoiaaaGreatDoorPj12
import Derived.Deep.DeepCutAuto
import Derived.WalkMore
import Derived.Laws.StructEq
set_option maxRecDepth 100000
set_option linter.unusedVariables false
set_option linter.unusedSimpArgs false

namespace Go.Proofs.YtcpfanpcdkoiaaaGreatDoor
open Go.RowKit


attribute [local go_sem] field_nat
theorem dcut_any (l : List UInt8) (w : World) (hl : l.length ≤ 1000) : Calls Tryz.prog 161 #[.string ⟨l.toArray⟩] w (CutPost w l) := by
 rcases h : hasE l with _ | _
 ·exact cut_no l w hl h
 ·exact cut_yes l w hl h
theorem cut_b (l A X : List UInt8) (s x is : Bool) (b : Nat) (w : World) (hl : l.length ≤ 1000) (hA : Hid (A = lall l)) (hX : Hid (X = xdig l)) (hs : Hid (s = sneg l)) (hx : Hid (x = xneg l)) (hi : Hid (is = litIs l)) (hb : Hid (b = (lbehind l).length)) :
  Calls Tryz.prog 161 #[.string ⟨l.toArray⟩] w fun e w' => e = .returned (.tuple #[.agg #[.bool s, .string ⟨A.toArray⟩, .int .i64 (b : Nat), .bool x, .string ⟨X.toArray⟩], .bool is]) ∧ Below w.heap.size w w' := by
 rw [hA.out, hX.out, hs.out, hx.out, hi.out, hb.out]
 exact dcut_any l w hl
theorem dsmall_yes (l : List UInt8) (n : Nat) (w : World) (hl : l.length ≤ 1000000000) (hd : l.all isDig = true) (hn : Hid (n = dnum l)) (h : n ≤ 400) :
  Calls Tryz.prog 162 #[.string ⟨l.toArray⟩] w fun e w' => e = .returned (.tuple #[.int .i64 n, .bool true]) ∧ Below w.heap.size w w' := by
 refine (dsmall_any l w hl hd).mono ?_
 rintro e w' ⟨m, rfl, hm, rfl⟩
 have h1 : dnum l ≤ 400 := by rw [← hn.out]; exact h
 rw [decide_eq_true h1, hm h1, hn.out]
 exact ⟨rfl, Below.refl _ _⟩
theorem dsmall_no (l : List UInt8) (w : World) (hl : l.length ≤ 1000000000) (hd : l.all isDig = true) (h : ¬ dnum l ≤ 400) :
  Calls Tryz.prog 162 #[.string ⟨l.toArray⟩] w fun e w' => ∃ n : Nat, e = .returned (.tuple #[.int .i64 n, .bool false]) ∧ Below w.heap.size w w' := by
 refine (dsmall_any l w hl hd).mono ?_
 rintro e w' ⟨m, rfl, hm, rfl⟩
 rw [decide_eq_false h]
 exact ⟨m, rfl, Below.refl _ _⟩
theorem trim0_b (l : List UInt8) (t : List UInt8) (w : World) (hl : l.length ≤ 1000000000) (ht : Hid (t = l.dropWhile (· == 48))) :
  Calls Tryz.prog 163 #[.string ⟨l.toArray⟩, .string ⟨#[48]⟩] w fun e w' => e = .returned (.string ⟨t.toArray⟩) ∧ Below w.heap.size w w' := by
 rw [ht.out]
 refine (trimLeft0_any l w hl).mono ?_
 rintro e w' ⟨rfl, rfl⟩
 exact ⟨rfl, Below.refl _ _⟩
theorem nparse_ok (l : List UInt8) (n : Nat) (w : World) (hl : l.length ≤ 1000000000) (h : Hid (pcode l = 0 ∧ pval l = n)) :
  Calls Tryz.prog 159 #[.string ⟨l.toArray⟩] w fun e w' => ∃ r, e = .returned (.tuple #[r, .int .i64 0]) ∧ NatIs w' r n ∧ Below w.heap.size w w' := by
 have := parse_any l w (by omega)
 rwa [h.out.1, h.out.2] at this
theorem limbs_ten (k : Nat) {K : Nat} (h : k < K) : (limbs (10 ^ k)).length ≤ K := limbs_pow10 (Nat.pow_lt_pow_right (by decide) h)
theorem litQ_zero (s : Bool) (k : Int) : litQ s 0 k = 0 := by
 unfold litQ
 split
 ·exact qOf_zero _ _
 ·rw [Nat.zero_mul]; exact qOf_zero _ _
theorem litQ_neg {s : Bool} {n : Nat} {k : Int} {m : Nat} (h : k < 0) (hm : m = k.natAbs) : litQ s n k = qOf s n (10 ^ m) := by
 unfold litQ; rw [if_pos h, hm]
theorem litQ_pos {s : Bool} {n : Nat} {k : Int} {m : Nat} (h : ¬ k < 0) (hm : m = k.natAbs) : litQ s n k = qOf s (n * 10 ^ m) 1 := by
 unfold litQ; rw [if_neg h, hm]
set_option maxHeartbeats 8000000 in
theorem lparse_any (l : List UInt8) (w : World) (hl : l.length ≤ 1000) : Calls Tryz.prog 94 #[.string ⟨l.toArray⟩] w (QPostC w (litVal l) (litCode l)) := by
 obtain ⟨A, hA⟩ : ∃ A, A = lall l := ⟨_, rfl⟩
 obtain ⟨X, hX⟩ : ∃ X, X = xdig l := ⟨_, rfl⟩
 obtain ⟨s9, hs⟩ : ∃ s, s = sneg l := ⟨_, rfl⟩
 obtain ⟨x9, hx⟩ : ∃ x, x = xneg l := ⟨_, rfl⟩
 obtain ⟨is, his⟩ : ∃ i, i = litIs l := ⟨_, rfl⟩
 obtain ⟨b, hb0⟩ : ∃ b, b = (lbehind l).length := ⟨_, rfl⟩
 obtain ⟨q, hq⟩ : ∃ q, q = litVal l := ⟨_, rfl⟩
 obtain ⟨c, hc⟩ : ∃ c, c = litCode l := ⟨_, rfl⟩
 rw [← hq, ← hc]
 have hlA : A.length ≤ 1000 := by rw [hA]; have h1 := lall_le l; have h2 := lman_le l; omega
 have hlX : X.length ≤ 2000 := by rw [hX]; have h1 := xdig_le l; omega
 have hbA : b ≤ A.length := by rw [hA, hb0]; exact lbehind_le l
 have HA := Lib.hid hA; clear hA
 have HX := Lib.hid hX; clear hX
 have HS := Lib.hid hs; clear hs
 have HN := Lib.hid hx; clear hx
 have HI := Lib.hid his; clear his
 have HB := Lib.hid hb0; clear hb0
 have HQ := Lib.hid hq; clear hq
 have HC := Lib.hid hc; clear hc
 obtain ⟨w0, hw0⟩ : ∃ w0, w0 = (w.alloc (.cells #[.bool false, .slice none 0 0, .slice none 0 0] 113)) := ⟨_, rfl⟩
 have hbf : Below w.heap.size w w0 := by rw [hw0]; exact ((Below.refl _ w).alloc (Nat.le_refl _) _)
 obtain ⟨pr, hpr⟩ : ∃ p, p = w.heap.size := ⟨_, rfl⟩
 have hbr : Box3 w0 pr (Value.bool false) (Value.slice none 0 0) (Value.slice none 0 0) := by rw [hw0, hpr]; exact ⟨by go_simp, by go_simp, by go_simp, by go_simp, by go_simp, by go_simp⟩
 have HP : Hid (w.heap.size ≤ pr) := Lib.hid (by omega)
 have HW := Lib.hid hw0; clear hw0
 go_enter Tryz.func94, Tryz.ntmps94
 go_upto_region 1 with fail
 rw [← HW.out, ← hpr]
 clear hpr HW
 go_wp2_with fail
 refine (cut_b l A X s9 x9 is b _ hl HA HX HS HN HI HB).mono ?_
 rintro e w1 ⟨rfl, hb⟩
 replace hbr := hbr.kept hb
 replace hbf := hbf.trans (hb.mono hbf.size)
 clear hb
 obtain ⟨w2, hwE⟩ : ∃ W, W = (w1.alloc (.cells #[.bool s9, .string ⟨A.toArray⟩, .int .i64 (b : Nat), .bool x9, .string ⟨X.toArray⟩] 200)) := ⟨_, rfl⟩
 have hb : Below w1.heap.size w1 w2 := by rw [hwE]; exact ((Below.refl _ w1).alloc (Nat.le_refl _) _)
 obtain ⟨pl, hpl⟩ : ∃ p, p = w1.heap.size := ⟨_, rfl⟩
 have hbl : Box5 w2 pl (Value.bool s9) (Value.string ⟨A.toArray⟩) (Value.int .i64 (b : Nat)) (Value.bool x9) (Value.string ⟨X.toArray⟩) := by rw [hwE, hpl]; exact ⟨by go_simp, by go_simp, by go_simp, by go_simp, by go_simp, by go_simp, by go_simp, by go_simp, by go_simp, by go_simp⟩
 replace HP : Hid (w.heap.size ≤ pr ∧ pr < pl) := Lib.hid (by have h1 := HP.out; have h9 := hbf.size; have h2r := hbr.lt; omega)
 have HW := Lib.hid hwE; clear hwE
 go_upto_region 2 with fail
 rw [← HW.out, ← hpl]
 clear hpl HW
 replace hbr := hbr.kept hb
 replace hbf := hbf.trans (hb.mono hbf.size)
 clear hb
 cases is
 case false =>
  have hc3 : c = 3 := by rw [HC.out]; unfold litCode; rw [← HI.out]; rfl
  have hq3 : q = 0 := by rw [HQ.out]; unfold litVal; rw [← HC.out, hc3]; rfl
  subst hc3; subst hq3
  have er0 := hbr.c0
  have fr0 := hbr.f0
  have er1 := hbr.c1
  have fr1 := hbr.f1
  have er2 := hbr.c2
  have fr2 := hbr.f2
  go_wp2_with fail
  exact end_qc rfl rfl rfl rfl hbr (show w.heap.size ≤ pr by have := HP.out; omega) (QIs.zero _) hbf
 case true =>
  have hp := litIs_parts HI.out.symm
  rw [← HA.out, ← HX.out] at hp
  obtain ⟨hp1, hp2, hp3, hp4⟩ := hp
  have HD := Lib.hid hp3
  have HDX := Lib.hid hp4
  clear hp1 hp2 hp3 hp4
  obtain ⟨n, hn⟩ : ∃ n, n = dnum X := ⟨_, rfl⟩
  have HNX := Lib.hid hn
  clear hn
  by_cases hn4 : n ≤ 400
  case neg =>
   have el0 := hbl.c0
   have el1 := hbl.c1
   have el2 := hbl.c2
   have el3 := hbl.c3
   have el4 := hbl.c4
   go_wp2_with fail
   refine (dsmall_no X _ (by omega) HDX.out (by rw [← HNX.out]; exact hn4)).mono ?_
   rintro e w3 ⟨n9, rfl, hb⟩
   clear el0 el1 el2 el3 el4
   replace hbr := hbr.kept hb
   replace hbl := hbl.kept hb
   replace hbf := hbf.trans (hb.mono hbf.size)
   clear hb
   have hc3 : c = 2 := by rw [HC.out]; unfold litCode; rw [← HI.out, if_pos rfl, ← HA.out, ← HX.out, ← HNX.out, if_pos (Or.inl (by omega))]
   have hq3 : q = 0 := by rw [HQ.out]; unfold litVal; rw [← HC.out, hc3]; rfl
   subst hc3; subst hq3
   have er0 := hbr.c0
   have fr0 := hbr.f0
   have er1 := hbr.c1
   have fr1 := hbr.f1
   have er2 := hbr.c2
   have fr2 := hbr.f2
   go_wp2_with fail
   exact end_qc rfl rfl rfl rfl hbr (show w.heap.size ≤ pr by have := HP.out; omega) (QIs.zero _) hbf
  case pos =>
   have el0 := hbl.c0
   have el1 := hbl.c1
   have el2 := hbl.c2
   have el3 := hbl.c3
   have el4 := hbl.c4
   go_wp2_with fail
   refine (dsmall_yes X n _ (by omega) HDX.out HNX hn4).mono ?_
   rintro e w3 ⟨rfl, hb⟩
   clear el0 el1 el2 el3 el4
   replace hbr := hbr.kept hb
   replace hbl := hbl.kept hb
   replace hbf := hbf.trans (hb.mono hbf.size)
   clear hb
   have el0 := hbl.c0
   have el1 := hbl.c1
   have el2 := hbl.c2
   have el3 := hbl.c3
   have el4 := hbl.c4
   clear el0 el1 el2 el3 el4
   by_cases hA4 : 400 < A.length
   case pos =>
    have el0 := hbl.c0
    have el1 := hbl.c1
    have el2 := hbl.c2
    have el3 := hbl.c3
    have el4 := hbl.c4
    have er0 := hbr.c0
    have fr0 := hbr.f0
    have er1 := hbr.c1
    have fr1 := hbr.f1
    have er2 := hbr.c2
    have fr2 := hbr.f2
    have hc3 : c = 2 := by rw [HC.out]; unfold litCode; rw [← HI.out, if_pos rfl, ← HA.out, ← HX.out, ← HNX.out, if_pos (Or.inr hA4)]
    have hq3 : q = 0 := by rw [HQ.out]; unfold litVal; rw [← HC.out, hc3]; rfl
    subst hc3; subst hq3
    go_wp2_with fail
    exact end_qc rfl rfl rfl rfl hbr (show w.heap.size ≤ pr by have := HP.out; omega) (QIs.zero _) hbf
   case neg =>
    have hc0 : c = 0 := by rw [HC.out]; exact litCode_ok HI.out.symm (by rw [← HX.out, ← HNX.out]; exact hn4) (by rw [← HA.out]; omega)
    have hq0 : q = litQ s9 (dnum A) (sg x9 n - (b : Int)) := by rw [HQ.out, litVal_of (HC.out.symm.trans hc0), HA.out, HS.out]; unfold expOf; rw [← HN.out, ← HX.out, ← HNX.out, ← HB.out]
    subst hc0
    have HQ0 := Lib.hid hq0
    clear hq0
    obtain ⟨E, hE⟩ : ∃ E : Int, E = sg x9 n - (b : Int) := ⟨_, rfl⟩
    rw [← hE] at HQ0
    have hE1 : -801 < E ∧ E < 801 := by rw [hE]; unfold sg; split <;> omega
    obtain ⟨hE2, hE3⟩ := hE1
    obtain ⟨T, hT⟩ : ∃ T, T = A.dropWhile (· == 48) := ⟨_, rfl⟩
    have HT := Lib.hid hT
    have hlT : T.length ≤ 1000 := by rw [hT]; have := (List.dropWhile_sublist (l := A) (· == 48)).length_le; omega
    clear hT
    cases x9
    case false =>
     have hE9 : (n : Int) - (b : Int) = E := hE.symm
     clear hE
     have el0 := hbl.c0
     have el1 := hbl.c1
     have el2 := hbl.c2
     have el3 := hbl.c3
     have el4 := hbl.c4
     go_wp2_with fail
     refine (trim0_b A T _ (by omega) HT).mono ?_
     rintro e w4 ⟨rfl, hb⟩
     clear el0 el1 el2 el3 el4
     replace hbr := hbr.kept hb
     replace hbl := hbl.kept hb
     replace hbf := hbf.trans (hb.mono hbf.size)
     clear hb
     by_cases hT0 : T = []
     case pos =>
      have hq3 : q = 0 := by rw [HQ0.out, (strip_num HD.out).2.1 (by rw [← HT.out]; exact hT0), litQ_zero]
      subst hT0; subst hq3
      have er0 := hbr.c0
      have fr0 := hbr.f0
      have er1 := hbr.c1
      have fr1 := hbr.f1
      have er2 := hbr.c2
      have fr2 := hbr.f2
      go_wp2_with fail
      exact end_qc rfl rfl rfl rfl hbr (show w.heap.size ≤ pr by have := HP.out; omega) (QIs.zero _) hbf
     case neg =>
      have hneT := nil_beq hT0
      obtain ⟨u, hu⟩ : ∃ u, u = dnum A := ⟨_, rfl⟩
      have HU : Hid (pcode T = 0 ∧ pval T = u) := Lib.hid (by rw [HT.out, hu]; exact pcode_strip HD.out (by omega) (by rw [← HT.out]; exact hT0))
      have hlu : (limbs u).length ≤ 1000 := by rw [hu]; exact limbs_dnum HD.out hlA
      rw [← hu] at HQ0
      clear hu
      have el0 := hbl.c0
      have el1 := hbl.c1
      have el2 := hbl.c2
      have el3 := hbl.c3
      have el4 := hbl.c4
      go_wp2_with fail
      refine (nparse_ok T u _ (by omega) HU).mono ?_
      rintro e w5 ⟨r9, rfl, hnu, hb⟩
      clear el0 el1 el2 el3 el4
      replace hbr := hbr.kept hb
      replace hbl := hbl.kept hb
      replace hbf := hbf.trans (hb.mono hbf.size)
      clear hb
      obtain ⟨uO, uL, uC, rfl⟩ := hnu.form
      clear hneT
      obtain ⟨w6, hwE⟩ : ∃ W, W = (w5.alloc (.cells #[.slice uO uL uC] 111)) := ⟨_, rfl⟩
      have hb : Below w5.heap.size w5 w6 := by rw [hwE]; exact ((Below.refl _ w5).alloc (Nat.le_refl _) _)
      obtain ⟨pn, hpn⟩ : ∃ p, p = w5.heap.size := ⟨_, rfl⟩
      have hbn : Box w6 pn (Value.slice uO uL uC) := by rw [hwE, hpn]; exact ⟨by go_simp, by go_simp, by simp <;> omega⟩
      replace HP : Hid (w.heap.size ≤ pr ∧ pr < pl ∧ pl < pn) := Lib.hid (by have h1 := HP.out; have h9 := hbf.size; have h2l := hbl.lt; omega)
      have HW := Lib.hid hwE; clear hwE
      go_upto_region 14 with fail
      rw [← HW.out, ← hpn]
      clear hpn HW
      replace hbr := hbr.kept hb
      replace hbl := hbl.kept hb
      replace hnu := hnu.below hb
      replace hbf := hbf.trans (hb.mono hbf.size)
      clear hb
      go_wp2_with fail
      refine (of_any 1 _ (by decide)).mono ?_
      rintro e w7 ⟨r9, rfl, hno, hb⟩
      replace hbr := hbr.kept hb
      replace hbl := hbl.kept hb
      replace hbn := hbn.kept hb
      replace hnu := hnu.below hb
      replace hbf := hbf.trans (hb.mono hbf.size)
      clear hb
      obtain ⟨oO, oL, oC, rfl⟩ := hno.form
      obtain ⟨w8, hwE⟩ : ∃ W, W = (w7.alloc (.cells #[.slice oO oL oC] 111)) := ⟨_, rfl⟩
      have hb : Below w7.heap.size w7 w8 := by rw [hwE]; exact ((Below.refl _ w7).alloc (Nat.le_refl _) _)
      obtain ⟨pd, hpd⟩ : ∃ p, p = w7.heap.size := ⟨_, rfl⟩
      have hbd : Box w8 pd (Value.slice oO oL oC) := by rw [hwE, hpd]; exact ⟨by go_simp, by go_simp, by simp <;> omega⟩
      replace HP : Hid (w.heap.size ≤ pr ∧ pr < pl ∧ pl < pn ∧ pn < pd) := Lib.hid (by have h1 := HP.out; have h9 := hbf.size; have h2n := hbn.lt; omega)
      have HW := Lib.hid hwE; clear hwE
      go_upto_region 15 with fail
      rw [← HW.out, ← hpd]
      clear hpd HW
      replace hbr := hbr.kept hb
      replace hbl := hbl.kept hb
      replace hbn := hbn.kept hb
      replace hnu := hnu.below hb
      replace hno := hno.below hb
      replace hbf := hbf.trans (hb.mono hbf.size)
      clear hb
      by_cases hEn : E < 0
      case pos =>
       obtain ⟨k, hk⟩ : ∃ k : Nat, -E = (k : Int) := ⟨(-E).toNat, by omega⟩
       have hkE : k = E.natAbs := by omega
       have HKE := Lib.hid hkE
       have hk9 : k < 2500 := by omega
       clear hkE
       have en := hbn.cell
       have ed := hbd.cell
       go_wp2_with fail
       refine (power_any k _ hk9).mono ?_
       rintro e w9 ⟨r9, rfl, hnp, hb⟩
       clear en ed
       replace hbr := hbr.kept hb
       replace hbl := hbl.kept hb
       replace hbn := hbn.kept hb
       replace hbd := hbd.kept hb
       replace hnu := hnu.below hb
       replace hno := hno.below hb
       replace hbf := hbf.trans (hb.mono hbf.size)
       clear hb
       obtain ⟨pO, pL, pC, rfl⟩ := hnp.form
       have en := hbn.cell
       have ed := hbd.cell
       have fd := hbd.free
       go_upto_region 18 with fail
       clear en ed fd
       obtain ⟨w10, hwE⟩ : ∃ W, W = w9.setCell ⟨pd, 0, none⟩ (Value.slice pO pL pC) := ⟨_, rfl⟩
       rw [← hwE]
       replace hnu := hnu.setS (u := (Value.slice pO pL pC)) hbd; rw [← hwE] at hnu
       replace hno := hno.setS (u := (Value.slice pO pL pC)) hbd; rw [← hwE] at hno
       replace hnp := hnp.setS (u := (Value.slice pO pL pC)) hbd; rw [← hwE] at hnp
       replace hbr := hbr.setOther (show pr ≠ pd by have := HP.out; omega) 0 (Value.slice pO pL pC); rw [← hwE] at hbr
       replace hbl := hbl.setOther (show pl ≠ pd by have := HP.out; omega) 0 (Value.slice pO pL pC); rw [← hwE] at hbl
       replace hbn := hbn.setOther (show pn ≠ pd by have := HP.out; omega) 0 (Value.slice pO pL pC); rw [← hwE] at hbn
       replace hbf := hbf.setCell (p := ⟨pd, 0, none⟩) (show w.heap.size ≤ pd by have := HP.out; omega) (Value.slice pO pL pC); rw [← hwE] at hbf
       replace hbd := hbd.set (Value.slice pO pL pC); rw [← hwE] at hbd; clear hwE
       have hq3 : q = qOf s9 u (10 ^ k) := by rw [HQ0.out]; exact litQ_neg hEn HKE.out
       subst hq3
       have el0 := hbl.c0
       have el1 := hbl.c1
       have el2 := hbl.c2
       have el3 := hbl.c3
       have el4 := hbl.c4
       have en := hbn.cell
       have ed := hbd.cell
       go_wp2_with fail
       refine (make_ok s9 _ _ (u) (10 ^ k) _ hnu hnp (by omega) (Nat.le_trans (limbs_ten k (K := 2500) hk9) (by decide)) (Nat.pow_pos (by decide))).mono ?_
       rintro e w11 hq9
       obtain ⟨vB, vxO, vxL, vxC, vyO, vyL, vyC, rfl, hS, hvx, hvy, hv, hb⟩ := hq9.out
       have HvS := Lib.hid hS; clear hS
       clear el0 el1 el2 el3 el4 en ed
       replace hbr := hbr.kept hb
       replace hbl := hbl.kept hb
       replace hbn := hbn.kept hb
       replace hbd := hbd.kept hb
       replace hnu := hnu.below hb
       replace hno := hno.below hb
       replace hnp := hnp.below hb
       replace hbf := hbf.trans (hb.mono hbf.size)
       clear hb
       obtain ⟨w12, hwE⟩ : ∃ W, W = (w11.alloc (.cells #[.bool vB, .slice vxO vxL vxC, .slice vyO vyL vyC] 113)) := ⟨_, rfl⟩
       have hb : Below w11.heap.size w11 w12 := by rw [hwE]; exact ((Below.refl _ w11).alloc (Nat.le_refl _) _)
       obtain ⟨pv, hpv⟩ : ∃ p, p = w11.heap.size := ⟨_, rfl⟩
       have hbv : Box3 w12 pv (Value.bool vB) (Value.slice vxO vxL vxC) (Value.slice vyO vyL vyC) := by rw [hwE, hpv]; exact ⟨by go_simp, by go_simp, by go_simp, by go_simp, by go_simp, by go_simp⟩
       replace HP : Hid (w.heap.size ≤ pr ∧ pr < pl ∧ pl < pn ∧ pn < pd ∧ pd < pv) := Lib.hid (by have h1 := HP.out; have h9 := hbf.size; have h2d := hbd.lt; omega)
       have HW := Lib.hid hwE; clear hwE
       go_upto_region 19 with fail
       rw [← HW.out, ← hpv]
       clear hpv HW
       replace hbr := hbr.kept hb
       replace hbl := hbl.kept hb
       replace hbn := hbn.kept hb
       replace hbd := hbd.kept hb
       replace hnu := hnu.below hb
       replace hno := hno.below hb
       replace hnp := hnp.below hb
       replace hvx := hvx.below hb
       replace hvy := hvy.below hb
       replace hv := hv.below hb
       replace hbf := hbf.trans (hb.mono hbf.size)
       clear hb
       have ev0 := hbv.c0
       have ev1 := hbv.c1
       have ev2 := hbv.c2
       have er0 := hbr.c0
       have fr0 := hbr.f0
       have er1 := hbr.c1
       have fr1 := hbr.f1
       have er2 := hbr.c2
       have fr2 := hbr.f2
       go_wp2_with fail
       exact end_qc rfl rfl rfl rfl hbr (show w.heap.size ≤ pr by have := HP.out; omega) hv hbf
      case neg =>
       obtain ⟨k, hk⟩ : ∃ k : Nat, E = (k : Int) := ⟨E.toNat, by omega⟩
       have hkE : k = E.natAbs := by omega
       have HKE := Lib.hid hkE
       have hk9 : k < 2500 := by omega
       have HEn := Lib.hid hEn
       clear hkE
       have en := hbn.cell
       go_wp2_with fail
       clear en
       refine wp_region_seqT (S := fun w' => Box w' pn (Value.slice uO uL uC)) [(true, 0), (true, 1), (false, 2), (false, 3)] (by kernel_rfl) (by kernel_rfl) (by kernel_rfl) (by kernel_rfl) (by kernel_rfl) (by kernel_rfl) (fun d _ _ _ _ h => by cases d <;> exact h) hbn.drew (fun _ => ?_)
       simp only [pickOps, List.append_eq, List.cons_append, List.nil_append, List.getElem?_toArray, List.getElem?_cons_succ, List.getElem?_cons_zero]
       have hb : Below w8.heap.size w8 w8.drew := (Below.refl _ _).drew
       generalize w8.drew = w9 at hb ⊢
       replace hbr := hbr.kept hb
       replace hbl := hbl.kept hb
       replace hbn := hbn.kept hb
       replace hbd := hbd.kept hb
       replace hnu := hnu.below hb
       replace hno := hno.below hb
       replace hbf := hbf.trans (hb.mono hbf.size)
       clear hb
       repeat (first | (refine seq_take (v := ?_) (by rfl) ?_ ?_; rotate_left; (· intro w hSw; (try dsimp only at hSw); obtain ⟨en, _, _⟩ := hSw; go_simp; all_goals with_reducible rfl); (try simp only [Act.put, List.setIfInBounds_toArray, List.set_cons_zero, List.set_cons_succ])) | (refine seq_leave (by rfl) ?_; (try simp only [Act.put, List.setIfInBounds_toArray, List.set_cons_zero, List.set_cons_succ])))
       refine seq_step (by rfl) (fun K hK => ?_)
       go_simp
       go_at_call 165
       (with_reducible refine (power_any k _ hk9).mono ?_)
       rintro e w10 ⟨r9, rfl, hnp, hb⟩
       obtain ⟨pO, pL, pC, rfl⟩ := hnp.form
       replace hbr := hbr.kept hb
       replace hbl := hbl.kept hb
       replace hbn := hbn.kept hb
       replace hbd := hbd.kept hb
       replace hnu := hnu.below hb
       replace hno := hno.below hb
       replace hbf := hbf.trans (hb.mono hbf.size)
       clear hb
       first | refine hK.out _ _ hbn (fun _ => ?_) | (go_wp2_with fail; refine hK.out _ _ hbn (fun _ => ?_))
       clear hK K
       (try simp only [Act.put, List.setIfInBounds_toArray, List.set_cons_zero, List.set_cons_succ])
       refine seq_step (by rfl) (fun K hK => ?_)
       go_simp
       go_at_call 150
       (with_reducible refine (mul_any _ _ u (10 ^ k) _ hnu hnp (by omega) (Nat.le_trans (limbs_ten k (K := 2500) hk9) (by decide))).mono ?_)
       rintro e w11 ⟨r9, rfl, hnm, hb⟩
       obtain ⟨mO, mL, mC, rfl⟩ := hnm.form
       replace hbr := hbr.kept hb
       replace hbl := hbl.kept hb
       replace hbn := hbn.kept hb
       replace hbd := hbd.kept hb
       replace hnu := hnu.below hb
       replace hno := hno.below hb
       replace hnp := hnp.below hb
       replace hbf := hbf.trans (hb.mono hbf.size)
       clear hb
       first | refine hK.out _ _ hbn (fun _ => ?_) | (go_wp2_with fail; refine hK.out _ _ hbn (fun _ => ?_))
       clear hK K
       (try simp only [Act.put, List.setIfInBounds_toArray, List.set_cons_zero, List.set_cons_succ])
       refine seq_end ?_
       refine tail_end rfl rfl ?_
       have en := hbn.cell
       have fn := hbn.free
       go_simp
       clear en fn
       obtain ⟨w12, hwE⟩ : ∃ W, W = w11.setCell ⟨pn, 0, none⟩ (Value.slice mO mL mC) := ⟨_, rfl⟩
       rw [← hwE]
       replace hnu := hnu.setS (u := (Value.slice mO mL mC)) hbn; rw [← hwE] at hnu
       replace hno := hno.setS (u := (Value.slice mO mL mC)) hbn; rw [← hwE] at hno
       replace hnp := hnp.setS (u := (Value.slice mO mL mC)) hbn; rw [← hwE] at hnp
       replace hnm := hnm.setS (u := (Value.slice mO mL mC)) hbn; rw [← hwE] at hnm
       replace hbr := hbr.setOther (show pr ≠ pn by have := HP.out; omega) 0 (Value.slice mO mL mC); rw [← hwE] at hbr
       replace hbl := hbl.setOther (show pl ≠ pn by have := HP.out; omega) 0 (Value.slice mO mL mC); rw [← hwE] at hbl
       replace hbd := hbd.setOther (show pd ≠ pn by have := HP.out; omega) 0 (Value.slice mO mL mC); rw [← hwE] at hbd
       replace hbf := hbf.setCell (p := ⟨pn, 0, none⟩) (show w.heap.size ≤ pn by have := HP.out; omega) (Value.slice mO mL mC); rw [← hwE] at hbf
       replace hbn := hbn.set (Value.slice mO mL mC); rw [← hwE] at hbn; clear hwE
       have hlm : (limbs (u * 10 ^ k)).length ≤ 1000000 := Nat.le_trans (limbs_mul hlu (limbs_ten k (K := 2500) hk9)) (by decide)
       have hq3 : q = qOf s9 (u * 10 ^ k) 1 := by rw [HQ0.out]; exact litQ_pos (by have := HEn.out; omega) HKE.out
       subst hq3
       have el0 := hbl.c0
       have el1 := hbl.c1
       have el2 := hbl.c2
       have el3 := hbl.c3
       have el4 := hbl.c4
       have en := hbn.cell
       have ed := hbd.cell
       go_wp2_with fail
       refine (make_ok s9 _ _ (u * 10 ^ k) (1) _ hnm hno hlm (Nat.le_trans (limbs_bound (by decide) (Nat.le_refl 1)) (by decide)) (by decide)).mono ?_
       rintro e w13 hq9
       obtain ⟨vB, vxO, vxL, vxC, vyO, vyL, vyC, rfl, hS, hvx, hvy, hv, hb⟩ := hq9.out
       have HvS := Lib.hid hS; clear hS
       clear el0 el1 el2 el3 el4 en ed
       replace hbr := hbr.kept hb
       replace hbl := hbl.kept hb
       replace hbn := hbn.kept hb
       replace hbd := hbd.kept hb
       replace hnu := hnu.below hb
       replace hno := hno.below hb
       replace hnp := hnp.below hb
       replace hnm := hnm.below hb
       replace hbf := hbf.trans (hb.mono hbf.size)
       clear hb
       obtain ⟨w14, hwE⟩ : ∃ W, W = (w13.alloc (.cells #[.bool vB, .slice vxO vxL vxC, .slice vyO vyL vyC] 113)) := ⟨_, rfl⟩
       have hb : Below w13.heap.size w13 w14 := by rw [hwE]; exact ((Below.refl _ w13).alloc (Nat.le_refl _) _)
       obtain ⟨pv, hpv⟩ : ∃ p, p = w13.heap.size := ⟨_, rfl⟩
       have hbv : Box3 w14 pv (Value.bool vB) (Value.slice vxO vxL vxC) (Value.slice vyO vyL vyC) := by rw [hwE, hpv]; exact ⟨by go_simp, by go_simp, by go_simp, by go_simp, by go_simp, by go_simp⟩
       replace HP : Hid (w.heap.size ≤ pr ∧ pr < pl ∧ pl < pn ∧ pn < pd ∧ pd < pv) := Lib.hid (by have h1 := HP.out; have h9 := hbf.size; have h2d := hbd.lt; omega)
       have HW := Lib.hid hwE; clear hwE
       go_upto_region 19 with fail
       rw [← HW.out, ← hpv]
       clear hpv HW
       replace hbr := hbr.kept hb
       replace hbl := hbl.kept hb
       replace hbn := hbn.kept hb
       replace hbd := hbd.kept hb
       replace hnu := hnu.below hb
       replace hno := hno.below hb
       replace hnp := hnp.below hb
       replace hnm := hnm.below hb
       replace hvx := hvx.below hb
       replace hvy := hvy.below hb
       replace hv := hv.below hb
       replace hbf := hbf.trans (hb.mono hbf.size)
       clear hb
       have ev0 := hbv.c0
       have ev1 := hbv.c1
       have ev2 := hbv.c2
       have er0 := hbr.c0
       have fr0 := hbr.f0
       have er1 := hbr.c1
       have fr1 := hbr.f1
       have er2 := hbr.c2
       have fr2 := hbr.f2
       go_wp2_with fail
       exact end_qc rfl rfl rfl rfl hbr (show w.heap.size ≤ pr by have := HP.out; omega) hv hbf
    case true =>
     have hE9 : -(n : Int) - (b : Int) = E := hE.symm
     clear hE
     have el0 := hbl.c0
     have el1 := hbl.c1
     have el2 := hbl.c2
     have el3 := hbl.c3
     have el4 := hbl.c4
     go_wp2_with fail
     refine (trim0_b A T _ (by omega) HT).mono ?_
     rintro e w4 ⟨rfl, hb⟩
     clear el0 el1 el2 el3 el4
     replace hbr := hbr.kept hb
     replace hbl := hbl.kept hb
     replace hbf := hbf.trans (hb.mono hbf.size)
     clear hb
     by_cases hT0 : T = []
     case pos =>
      have hq3 : q = 0 := by rw [HQ0.out, (strip_num HD.out).2.1 (by rw [← HT.out]; exact hT0), litQ_zero]
      subst hT0; subst hq3
      have er0 := hbr.c0
      have fr0 := hbr.f0
      have er1 := hbr.c1
      have fr1 := hbr.f1
      have er2 := hbr.c2
      have fr2 := hbr.f2
      go_wp2_with fail
      exact end_qc rfl rfl rfl rfl hbr (show w.heap.size ≤ pr by have := HP.out; omega) (QIs.zero _) hbf
     case neg =>
      have hneT := nil_beq hT0
      obtain ⟨u, hu⟩ : ∃ u, u = dnum A := ⟨_, rfl⟩
      have HU : Hid (pcode T = 0 ∧ pval T = u) := Lib.hid (by rw [HT.out, hu]; exact pcode_strip HD.out (by omega) (by rw [← HT.out]; exact hT0))
      have hlu : (limbs u).length ≤ 1000 := by rw [hu]; exact limbs_dnum HD.out hlA
      rw [← hu] at HQ0
      clear hu
      have el0 := hbl.c0
      have el1 := hbl.c1
      have el2 := hbl.c2
      have el3 := hbl.c3
      have el4 := hbl.c4
      go_wp2_with fail
      refine (nparse_ok T u _ (by omega) HU).mono ?_
      rintro e w5 ⟨r9, rfl, hnu, hb⟩
      clear el0 el1 el2 el3 el4
      replace hbr := hbr.kept hb
      replace hbl := hbl.kept hb
      replace hbf := hbf.trans (hb.mono hbf.size)
      clear hb
      obtain ⟨uO, uL, uC, rfl⟩ := hnu.form
      clear hneT
      obtain ⟨w6, hwE⟩ : ∃ W, W = (w5.alloc (.cells #[.slice uO uL uC] 111)) := ⟨_, rfl⟩
      have hb : Below w5.heap.size w5 w6 := by rw [hwE]; exact ((Below.refl _ w5).alloc (Nat.le_refl _) _)
      obtain ⟨pn, hpn⟩ : ∃ p, p = w5.heap.size := ⟨_, rfl⟩
      have hbn : Box w6 pn (Value.slice uO uL uC) := by rw [hwE, hpn]; exact ⟨by go_simp, by go_simp, by simp <;> omega⟩
      replace HP : Hid (w.heap.size ≤ pr ∧ pr < pl ∧ pl < pn) := Lib.hid (by have h1 := HP.out; have h9 := hbf.size; have h2l := hbl.lt; omega)
      have HW := Lib.hid hwE; clear hwE
      go_upto_region 14 with fail
      rw [← HW.out, ← hpn]
      clear hpn HW
      replace hbr := hbr.kept hb
      replace hbl := hbl.kept hb
      replace hnu := hnu.below hb
      replace hbf := hbf.trans (hb.mono hbf.size)
      clear hb
      go_wp2_with fail
      refine (of_any 1 _ (by decide)).mono ?_
      rintro e w7 ⟨r9, rfl, hno, hb⟩
      replace hbr := hbr.kept hb
      replace hbl := hbl.kept hb
      replace hbn := hbn.kept hb
      replace hnu := hnu.below hb
      replace hbf := hbf.trans (hb.mono hbf.size)
      clear hb
      obtain ⟨oO, oL, oC, rfl⟩ := hno.form
      obtain ⟨w8, hwE⟩ : ∃ W, W = (w7.alloc (.cells #[.slice oO oL oC] 111)) := ⟨_, rfl⟩
      have hb : Below w7.heap.size w7 w8 := by rw [hwE]; exact ((Below.refl _ w7).alloc (Nat.le_refl _) _)
      obtain ⟨pd, hpd⟩ : ∃ p, p = w7.heap.size := ⟨_, rfl⟩
      have hbd : Box w8 pd (Value.slice oO oL oC) := by rw [hwE, hpd]; exact ⟨by go_simp, by go_simp, by simp <;> omega⟩
      replace HP : Hid (w.heap.size ≤ pr ∧ pr < pl ∧ pl < pn ∧ pn < pd) := Lib.hid (by have h1 := HP.out; have h9 := hbf.size; have h2n := hbn.lt; omega)
      have HW := Lib.hid hwE; clear hwE
      go_upto_region 15 with fail
      rw [← HW.out, ← hpd]
      clear hpd HW
      replace hbr := hbr.kept hb
      replace hbl := hbl.kept hb
      replace hbn := hbn.kept hb
      replace hnu := hnu.below hb
      replace hno := hno.below hb
      replace hbf := hbf.trans (hb.mono hbf.size)
      clear hb
      by_cases hEn : E < 0
      case pos =>
       obtain ⟨k, hk⟩ : ∃ k : Nat, -E = (k : Int) := ⟨(-E).toNat, by omega⟩
       have hkE : k = E.natAbs := by omega
       have HKE := Lib.hid hkE
       have hk9 : k < 2500 := by omega
       clear hkE
       have en := hbn.cell
       have ed := hbd.cell
       go_wp2_with fail
       refine (power_any k _ hk9).mono ?_
       rintro e w9 ⟨r9, rfl, hnp, hb⟩
       clear en ed
       replace hbr := hbr.kept hb
       replace hbl := hbl.kept hb
       replace hbn := hbn.kept hb
       replace hbd := hbd.kept hb
       replace hnu := hnu.below hb
       replace hno := hno.below hb
       replace hbf := hbf.trans (hb.mono hbf.size)
       clear hb
       obtain ⟨pO, pL, pC, rfl⟩ := hnp.form
       have en := hbn.cell
       have ed := hbd.cell
       have fd := hbd.free
       go_upto_region 18 with fail
       clear en ed fd
       obtain ⟨w10, hwE⟩ : ∃ W, W = w9.setCell ⟨pd, 0, none⟩ (Value.slice pO pL pC) := ⟨_, rfl⟩
       rw [← hwE]
       replace hnu := hnu.setS (u := (Value.slice pO pL pC)) hbd; rw [← hwE] at hnu
       replace hno := hno.setS (u := (Value.slice pO pL pC)) hbd; rw [← hwE] at hno
       replace hnp := hnp.setS (u := (Value.slice pO pL pC)) hbd; rw [← hwE] at hnp
       replace hbr := hbr.setOther (show pr ≠ pd by have := HP.out; omega) 0 (Value.slice pO pL pC); rw [← hwE] at hbr
       replace hbl := hbl.setOther (show pl ≠ pd by have := HP.out; omega) 0 (Value.slice pO pL pC); rw [← hwE] at hbl
       replace hbn := hbn.setOther (show pn ≠ pd by have := HP.out; omega) 0 (Value.slice pO pL pC); rw [← hwE] at hbn
       replace hbf := hbf.setCell (p := ⟨pd, 0, none⟩) (show w.heap.size ≤ pd by have := HP.out; omega) (Value.slice pO pL pC); rw [← hwE] at hbf
       replace hbd := hbd.set (Value.slice pO pL pC); rw [← hwE] at hbd; clear hwE
       have hq3 : q = qOf s9 u (10 ^ k) := by rw [HQ0.out]; exact litQ_neg hEn HKE.out
       subst hq3
       have el0 := hbl.c0
       have el1 := hbl.c1
       have el2 := hbl.c2
       have el3 := hbl.c3
       have el4 := hbl.c4
       have en := hbn.cell
       have ed := hbd.cell
       go_wp2_with fail
       refine (make_ok s9 _ _ (u) (10 ^ k) _ hnu hnp (by omega) (Nat.le_trans (limbs_ten k (K := 2500) hk9) (by decide)) (Nat.pow_pos (by decide))).mono ?_
       rintro e w11 hq9
       obtain ⟨vB, vxO, vxL, vxC, vyO, vyL, vyC, rfl, hS, hvx, hvy, hv, hb⟩ := hq9.out
       have HvS := Lib.hid hS; clear hS
       clear el0 el1 el2 el3 el4 en ed
       replace hbr := hbr.kept hb
       replace hbl := hbl.kept hb
       replace hbn := hbn.kept hb
       replace hbd := hbd.kept hb
       replace hnu := hnu.below hb
       replace hno := hno.below hb
       replace hnp := hnp.below hb
       replace hbf := hbf.trans (hb.mono hbf.size)
       clear hb
       obtain ⟨w12, hwE⟩ : ∃ W, W = (w11.alloc (.cells #[.bool vB, .slice vxO vxL vxC, .slice vyO vyL vyC] 113)) := ⟨_, rfl⟩
       have hb : Below w11.heap.size w11 w12 := by rw [hwE]; exact ((Below.refl _ w11).alloc (Nat.le_refl _) _)
       obtain ⟨pv, hpv⟩ : ∃ p, p = w11.heap.size := ⟨_, rfl⟩
       have hbv : Box3 w12 pv (Value.bool vB) (Value.slice vxO vxL vxC) (Value.slice vyO vyL vyC) := by rw [hwE, hpv]; exact ⟨by go_simp, by go_simp, by go_simp, by go_simp, by go_simp, by go_simp⟩
       replace HP : Hid (w.heap.size ≤ pr ∧ pr < pl ∧ pl < pn ∧ pn < pd ∧ pd < pv) := Lib.hid (by have h1 := HP.out; have h9 := hbf.size; have h2d := hbd.lt; omega)
       have HW := Lib.hid hwE; clear hwE
       go_upto_region 19 with fail
       rw [← HW.out, ← hpv]
       clear hpv HW
       replace hbr := hbr.kept hb
       replace hbl := hbl.kept hb
       replace hbn := hbn.kept hb
       replace hbd := hbd.kept hb
       replace hnu := hnu.below hb
       replace hno := hno.below hb
       replace hnp := hnp.below hb
       replace hvx := hvx.below hb
       replace hvy := hvy.below hb
       replace hv := hv.below hb
       replace hbf := hbf.trans (hb.mono hbf.size)
       clear hb
       have ev0 := hbv.c0
       have ev1 := hbv.c1
       have ev2 := hbv.c2
       have er0 := hbr.c0
       have fr0 := hbr.f0
       have er1 := hbr.c1
       have fr1 := hbr.f1
       have er2 := hbr.c2
       have fr2 := hbr.f2
       go_wp2_with fail
       exact end_qc rfl rfl rfl rfl hbr (show w.heap.size ≤ pr by have := HP.out; omega) hv hbf
      case neg =>
       obtain ⟨k, hk⟩ : ∃ k : Nat, E = (k : Int) := ⟨E.toNat, by omega⟩
       have hkE : k = E.natAbs := by omega
       have HKE := Lib.hid hkE
       have hk9 : k < 2500 := by omega
       have HEn := Lib.hid hEn
       clear hkE
       have en := hbn.cell
       go_wp2_with fail
       clear en
       refine wp_region_seqT (S := fun w' => Box w' pn (Value.slice uO uL uC)) [(true, 0), (true, 1), (false, 2), (false, 3)] (by kernel_rfl) (by kernel_rfl) (by kernel_rfl) (by kernel_rfl) (by kernel_rfl) (by kernel_rfl) (fun d _ _ _ _ h => by cases d <;> exact h) hbn.drew (fun _ => ?_)
       simp only [pickOps, List.append_eq, List.cons_append, List.nil_append, List.getElem?_toArray, List.getElem?_cons_succ, List.getElem?_cons_zero]
       have hb : Below w8.heap.size w8 w8.drew := (Below.refl _ _).drew
       generalize w8.drew = w9 at hb ⊢
       replace hbr := hbr.kept hb
       replace hbl := hbl.kept hb
       replace hbn := hbn.kept hb
       replace hbd := hbd.kept hb
       replace hnu := hnu.below hb
       replace hno := hno.below hb
       replace hbf := hbf.trans (hb.mono hbf.size)
       clear hb
       repeat (first | (refine seq_take (v := ?_) (by rfl) ?_ ?_; rotate_left; (· intro w hSw; (try dsimp only at hSw); obtain ⟨en, _, _⟩ := hSw; go_simp; all_goals with_reducible rfl); (try simp only [Act.put, List.setIfInBounds_toArray, List.set_cons_zero, List.set_cons_succ])) | (refine seq_leave (by rfl) ?_; (try simp only [Act.put, List.setIfInBounds_toArray, List.set_cons_zero, List.set_cons_succ])))
       refine seq_step (by rfl) (fun K hK => ?_)
       go_simp
       go_at_call 165
       (with_reducible refine (power_any k _ hk9).mono ?_)
       rintro e w10 ⟨r9, rfl, hnp, hb⟩
       obtain ⟨pO, pL, pC, rfl⟩ := hnp.form
       replace hbr := hbr.kept hb
       replace hbl := hbl.kept hb
       replace hbn := hbn.kept hb
       replace hbd := hbd.kept hb
       replace hnu := hnu.below hb
       replace hno := hno.below hb
       replace hbf := hbf.trans (hb.mono hbf.size)
       clear hb
       first | refine hK.out _ _ hbn (fun _ => ?_) | (go_wp2_with fail; refine hK.out _ _ hbn (fun _ => ?_))
       clear hK K
       (try simp only [Act.put, List.setIfInBounds_toArray, List.set_cons_zero, List.set_cons_succ])
       refine seq_step (by rfl) (fun K hK => ?_)
       go_simp
       go_at_call 150
       (with_reducible refine (mul_any _ _ u (10 ^ k) _ hnu hnp (by omega) (Nat.le_trans (limbs_ten k (K := 2500) hk9) (by decide))).mono ?_)
       rintro e w11 ⟨r9, rfl, hnm, hb⟩
       obtain ⟨mO, mL, mC, rfl⟩ := hnm.form
       replace hbr := hbr.kept hb
       replace hbl := hbl.kept hb
       replace hbn := hbn.kept hb
       replace hbd := hbd.kept hb
       replace hnu := hnu.below hb
       replace hno := hno.below hb
       replace hnp := hnp.below hb
       replace hbf := hbf.trans (hb.mono hbf.size)
       clear hb
       first | refine hK.out _ _ hbn (fun _ => ?_) | (go_wp2_with fail; refine hK.out _ _ hbn (fun _ => ?_))
       clear hK K
       (try simp only [Act.put, List.setIfInBounds_toArray, List.set_cons_zero, List.set_cons_succ])
       refine seq_end ?_
       refine tail_end rfl rfl ?_
       have en := hbn.cell
       have fn := hbn.free
       go_simp
       clear en fn
       obtain ⟨w12, hwE⟩ : ∃ W, W = w11.setCell ⟨pn, 0, none⟩ (Value.slice mO mL mC) := ⟨_, rfl⟩
       rw [← hwE]
       replace hnu := hnu.setS (u := (Value.slice mO mL mC)) hbn; rw [← hwE] at hnu
       replace hno := hno.setS (u := (Value.slice mO mL mC)) hbn; rw [← hwE] at hno
       replace hnp := hnp.setS (u := (Value.slice mO mL mC)) hbn; rw [← hwE] at hnp
       replace hnm := hnm.setS (u := (Value.slice mO mL mC)) hbn; rw [← hwE] at hnm
       replace hbr := hbr.setOther (show pr ≠ pn by have := HP.out; omega) 0 (Value.slice mO mL mC); rw [← hwE] at hbr
       replace hbl := hbl.setOther (show pl ≠ pn by have := HP.out; omega) 0 (Value.slice mO mL mC); rw [← hwE] at hbl
       replace hbd := hbd.setOther (show pd ≠ pn by have := HP.out; omega) 0 (Value.slice mO mL mC); rw [← hwE] at hbd
       replace hbf := hbf.setCell (p := ⟨pn, 0, none⟩) (show w.heap.size ≤ pn by have := HP.out; omega) (Value.slice mO mL mC); rw [← hwE] at hbf
       replace hbn := hbn.set (Value.slice mO mL mC); rw [← hwE] at hbn; clear hwE
       have hlm : (limbs (u * 10 ^ k)).length ≤ 1000000 := Nat.le_trans (limbs_mul hlu (limbs_ten k (K := 2500) hk9)) (by decide)
       have hq3 : q = qOf s9 (u * 10 ^ k) 1 := by rw [HQ0.out]; exact litQ_pos (by have := HEn.out; omega) HKE.out
       subst hq3
       have el0 := hbl.c0
       have el1 := hbl.c1
       have el2 := hbl.c2
       have el3 := hbl.c3
       have el4 := hbl.c4
       have en := hbn.cell
       have ed := hbd.cell
       go_wp2_with fail
       refine (make_ok s9 _ _ (u * 10 ^ k) (1) _ hnm hno hlm (Nat.le_trans (limbs_bound (by decide) (Nat.le_refl 1)) (by decide)) (by decide)).mono ?_
       rintro e w13 hq9
       obtain ⟨vB, vxO, vxL, vxC, vyO, vyL, vyC, rfl, hS, hvx, hvy, hv, hb⟩ := hq9.out
       have HvS := Lib.hid hS; clear hS
       clear el0 el1 el2 el3 el4 en ed
       replace hbr := hbr.kept hb
       replace hbl := hbl.kept hb
       replace hbn := hbn.kept hb
       replace hbd := hbd.kept hb
       replace hnu := hnu.below hb
       replace hno := hno.below hb
       replace hnp := hnp.below hb
       replace hnm := hnm.below hb
       replace hbf := hbf.trans (hb.mono hbf.size)
       clear hb
       obtain ⟨w14, hwE⟩ : ∃ W, W = (w13.alloc (.cells #[.bool vB, .slice vxO vxL vxC, .slice vyO vyL vyC] 113)) := ⟨_, rfl⟩
       have hb : Below w13.heap.size w13 w14 := by rw [hwE]; exact ((Below.refl _ w13).alloc (Nat.le_refl _) _)
       obtain ⟨pv, hpv⟩ : ∃ p, p = w13.heap.size := ⟨_, rfl⟩
       have hbv : Box3 w14 pv (Value.bool vB) (Value.slice vxO vxL vxC) (Value.slice vyO vyL vyC) := by rw [hwE, hpv]; exact ⟨by go_simp, by go_simp, by go_simp, by go_simp, by go_simp, by go_simp⟩
       replace HP : Hid (w.heap.size ≤ pr ∧ pr < pl ∧ pl < pn ∧ pn < pd ∧ pd < pv) := Lib.hid (by have h1 := HP.out; have h9 := hbf.size; have h2d := hbd.lt; omega)
       have HW := Lib.hid hwE; clear hwE
       go_upto_region 19 with fail
       rw [← HW.out, ← hpv]
       clear hpv HW
       replace hbr := hbr.kept hb
       replace hbl := hbl.kept hb
       replace hbn := hbn.kept hb
       replace hbd := hbd.kept hb
       replace hnu := hnu.below hb
       replace hno := hno.below hb
       replace hnp := hnp.below hb
       replace hnm := hnm.below hb
       replace hvx := hvx.below hb
       replace hvy := hvy.below hb
       replace hv := hv.below hb
       replace hbf := hbf.trans (hb.mono hbf.size)
       clear hb
       have ev0 := hbv.c0
       have ev1 := hbv.c1
       have ev2 := hbv.c2
       have er0 := hbr.c0
       have fr0 := hbr.f0
       have er1 := hbr.c1
       have fr1 := hbr.f1
       have er2 := hbr.c2
       have fr2 := hbr.f2
       go_wp2_with fail
       exact end_qc rfl rfl rfl rfl hbr (show w.heap.size ≤ pr by have := HP.out; omega) hv hbf
end Go.Proofs.YtcpfanpcdkoiaaaGreatDoor
