/-
  Pj17: FldC FldD FldE SeqU (what is needed of them).
-/
import Derived.Test.YtcpfanpcdkoiaaaGreatDoorPj07
import Derived.Test.YtcpfanpcdkoiaaaGreatDoorPj09
import Derived.Test.YtcpfanpcdkoiaaaGreatDoorPj16
set_option maxRecDepth 100000
set_option linter.unusedVariables false
set_option linter.unusedSimpArgs false

namespace Go.Proofs.YtcpfanpcdkoiaaaGreatDoor
open Go.RowKit


attribute [local go_sem] field_nat
theorem boxF (w : World) (nm : List UInt8) (fk : Int) (vo : Option Addr) (vl vc : Nat) (rk : Int) (rn rc : List UInt8) (inv : Int) : ∃ w0, w0 = w.alloc (.cells #[.string ⟨nm.toArray⟩, .int .i64 fk, .slice vo vl vc, .int .i64 rk, .string ⟨rn.toArray⟩, .string ⟨rc.toArray⟩, .int .i64 inv] 32) ∧ Below w.heap.size w w0 ∧ w0.heap.size = w.heap.size + 1 ∧ ∃ p, p = w.heap.size ∧ BoxL w0 p [.string ⟨nm.toArray⟩, .int .i64 fk, .slice vo vl vc, .int .i64 rk, .string ⟨rn.toArray⟩, .string ⟨rc.toArray⟩, .int .i64 inv] :=
 ⟨_, rfl, (Below.refl _ w).alloc (Nat.le_refl _) _, by simp, _, rfl, BoxL.new w [.string ⟨nm.toArray⟩, .int .i64 fk, .slice vo vl vc, .int .i64 rk, .string ⟨rn.toArray⟩, .string ⟨rc.toArray⟩, .int .i64 inv] _⟩
theorem boxV (w : World) (k : Int) (n c : List UInt8) : ∃ w0, w0 = w.alloc (.cells #[.int .i64 k, .string ⟨n.toArray⟩, .string ⟨c.toArray⟩] 30) ∧ Below w.heap.size w w0 ∧ w0.heap.size = w.heap.size + 1 ∧ ∃ p, p = w.heap.size ∧ Box3 w0 p (.int .i64 k) (.string ⟨n.toArray⟩) (.string ⟨c.toArray⟩) :=
 ⟨_, rfl, (Below.refl _ w).alloc (Nat.le_refl _) _, by simp, _, rfl, ⟨by go_simp, by go_simp, by go_simp, by go_simp, by go_simp, by go_simp⟩⟩
set_option maxHeartbeats 1000000 in
theorem fit_any (x : FV) (k : Int) (n c : List UInt8) (b : Bool) (w : World) (hs : Strs w (.slice x.vo x.f.vals.length x.vc) x.f.vals) (HB : Hid (b = fitB x.f ⟨k, n, c⟩)) :
  Calls Tryz.prog 10 #[x.val, valV k n c] w fun e w' => e = .returned (.bool b) ∧ Below w.heap.size w w' := by
 obtain ⟨⟨nm, fk, vals, ⟨rk, rn, rc⟩, inv⟩, vo, vc⟩ := x
 dsimp only at hs
 show Calls Tryz.prog 10 #[.agg #[.string ⟨nm.toArray⟩, .int .i64 fk, .slice vo vals.length vc, .int .i64 rk, .string ⟨rn.toArray⟩, .string ⟨rc.toArray⟩, .int .i64 inv], valV k n c] w fun e w' => e = .returned (.bool b) ∧ Below w.heap.size w w'
 obtain ⟨w0, hw0, hb0, hz0, pf, hpf, hbx⟩ := boxF w nm fk vo vals.length vc rk rn rc inv
 obtain ⟨w1, hw1, hb1, hz1, pv, hpv, hbv⟩ := boxV w0 k n c
 have hbf : Below w.heap.size w w1 := hb0.trans (hb1.mono hb0.size)
 replace hbx := hbx.kept hb1
 replace hs := hs.below hbf
 have HS := Lib.hid hs
 have HW1 := Lib.hid hw1
 have HW0 := Lib.hid hw0
 have HPV : Hid (w.heap.size + 1 = pv) := Lib.hid (by rw [hpv, hz0])
 have HPF := Lib.hid hpf
 clear hs hw1 hw0 hpv hpf hb0 hb1 hz0 hz1
 go_enter Tryz.func10, Tryz.ntmps10
 go_upto_region 1 with fail
 rw [← HW0.out, ← HW1.out, HPV.out, ← HPF.out]
 clear HPV HPF HW1 HW0
 obtain ⟨f0, f1, f2, f3, f4, f5, f6⟩ := hbx.c7
 have v0 := hbv.c0
 have v1 := hbv.c1
 have v2 := hbv.c2
 clear hbx hbv f0 f3 f4 f5 f6 v1
 by_cases hk1 : k = 1
 ·subst hk1
  have HB2 : Hid (b = decide (fk = 1)) := Lib.hid (by rw [HB.out]; rfl)
  clear f2 v2
  by_cases hf1 : fk = 1
  ·subst hf1
   go_wp2_with fail
   go_ret
   exact ⟨ret_one (congrArg Value.bool (by rw [HB2.out]; rfl)), hbf⟩
  ·have hfb : (fk == 1) = false := by rw [beq_eq_false_iff_ne]; exact hf1
   have HB3 : Hid (b = false) := Lib.hid (by rw [HB2.out]; exact decide_eq_false hf1)
   go_wp2_with fail
   go_ret
   exact ⟨ret_one (congrArg Value.bool (by rw [HB3.out])), hbf⟩
 ·have hkb : (k == 1) = false := by rw [beq_eq_false_iff_ne]; exact hk1
  by_cases hk2 : k = 2
  ·subst hk2
   clear hkb
   by_cases hf2 : fk = 2
   ·subst hf2
    by_cases hvl : vals = []
    ·subst hvl
     have HB3 : Hid (b = true) := Lib.hid (by rw [HB.out]; rfl)
     go_wp2_with fail
     go_ret
     exact ⟨ret_one (congrArg Value.bool (by rw [HB3.out])), hbf⟩
    ·have hvz : (((vals.length : Nat) : Int) == 0) = false := by
      rw [beq_eq_false_iff_ne]
      have := List.length_pos_iff.2 hvl
      omega
     obtain ⟨m, hm⟩ : ∃ m, decide (c ∈ vals) = m := ⟨_, rfl⟩
     have HM := Lib.hid hm
     have HB3 : Hid (b = m) := Lib.hid (by rw [HB.out, ← hm]; unfold fitB; simp [hvl])
     clear hm
     go_wp2_with fail
     (with_reducible refine (cont_str _ vals c _ m HS.out HM).mono ?_)
     rintro e w2 ⟨rfl, hb2⟩
     have hbf2 := hbf.trans (hb2.mono hbf.size)
     clear f1 f2 v0 v2 hb2
     go_wp2_with fail
     go_ret
     exact ⟨ret_one (congrArg Value.bool (by rw [HB3.out])), hbf2⟩
   ·have hfb : (fk == 2) = false := by rw [beq_eq_false_iff_ne]; exact hf2
    have HB3 : Hid (b = false) := Lib.hid (by rw [HB.out]; unfold fitB; simp [hf2])
    go_wp2_with fail
    go_ret
    exact ⟨ret_one (congrArg Value.bool (by rw [HB3.out])), hbf⟩
  ·have hkb2 : (k == 2) = false := by rw [beq_eq_false_iff_ne]; exact hk2
   have HB3 : Hid (b = false) := Lib.hid (by rw [HB.out]; unfold fitB; simp [hk1, hk2])
   go_wp2_with fail
   go_ret
   exact ⟨ret_one (congrArg Value.bool (by rw [HB3.out])), hbf⟩
section
variable {fn : Func} {s : Nat} {act : Act} {w w9 : World} {b : Nat} {x y z u0 u1 u2 : Value}
theorem end_vb {t : Nat} {c : Bool} (hres : fn.results = #[.cell s 30, .tmp t]) (hp : act.tmps.getD s undef = .pointer (some ⟨b, 0, none⟩)) (hu : act.tmps.getD t undef = .bool c) (hd : act.defers = []) (hb : Box3 w9 b x y z) (hge : w.heap.size ≤ b) (hB : Below w.heap.size w w9) :
  bodyPost Tryz.prog fn (fun e w' => e = .returned (.tuple #[.agg #[u0, u1, u2], .bool c]) ∧ Below w.heap.size w w') .ret act (((w9.setCell ⟨b, 0, none⟩ u0).setCell ⟨b, 1, none⟩ u1).setCell ⟨b, 2, none⟩ u2) :=
 ret_val_tmp hres hp hu hb.set3 hd ⟨rfl, below_set3 hB hge⟩
end
def invP (f : F5) (v : V3) : V3 × Bool := match invV f v with | some u => (u, true) | none => (v0, false)
set_option maxHeartbeats 1000000 in
theorem invalid_any (x : FV) (k : Int) (n c : List UInt8) (uk : Int) (un uc : List UInt8) (b : Bool) (w : World) (HU : Hid (invP x.f ⟨k, n, c⟩ = (⟨uk, un, uc⟩, b))) :
  Calls Tryz.prog 40 #[x.val, valV k n c] w fun e w' => e = .returned (.tuple #[valV uk un uc, .bool b]) ∧ Below w.heap.size w w' := by
 obtain ⟨⟨nm, fk, vals, ⟨rk, rn, rc⟩, inv⟩, vo, vc⟩ := x
 show Calls Tryz.prog 40 #[.agg #[.string ⟨nm.toArray⟩, .int .i64 fk, .slice vo vals.length vc, .int .i64 rk, .string ⟨rn.toArray⟩, .string ⟨rc.toArray⟩, .int .i64 inv], valV k n c] w fun e w' => e = .returned (.tuple #[valV uk un uc, .bool b]) ∧ Below w.heap.size w w'
 obtain ⟨w0, hw0, hb0, hz0, pf, hpf, hbx⟩ := boxF w nm fk vo vals.length vc rk rn rc inv
 obtain ⟨w1, hw1, hb1, hz1, pv, hpv, hbv⟩ := boxV w0 k n c
 obtain ⟨w2, hw2, hb2, hz2, pr, hpr, hbr⟩ := boxV w1 0 [] []
 have hbf : Below w.heap.size w w2 := (hb0.trans (hb1.mono hb0.size)).trans (hb2.mono (Nat.le_trans hb0.size hb1.size))
 replace hbx := (hbx.kept hb1).kept hb2
 replace hbv := hbv.kept hb2
 have HP : Hid (w.heap.size ≤ pr) := Lib.hid (by rw [hpr]; omega)
 have HW2 := Lib.hid hw2
 have HW1 := Lib.hid hw1
 have HW0 := Lib.hid hw0
 have HPR : Hid (w.heap.size + 1 + 1 = pr) := Lib.hid (by rw [hpr, hz1, hz0])
 have HPV : Hid (w.heap.size + 1 = pv) := Lib.hid (by rw [hpv, hz0])
 have HPF := Lib.hid hpf
 clear hw2 hw1 hw0 hpr hpv hpf hb0 hb1 hb2 hz0 hz1 hz2
 go_enter Tryz.func40, Tryz.ntmps40
 go_upto_region 1 with fail
 rw [← HW0.out, ← HW1.out, ← HW2.out, HPR.out, HPV.out, ← HPF.out]
 clear HPV HPF HPR HW2 HW1 HW0
 obtain ⟨f0, f1, f2, f3, f4, f5, f6⟩ := hbx.c7
 have v0 := hbv.c0
 have v1 := hbv.c1
 have v2 := hbv.c2
 have er0 := hbr.c0
 have fr0 := hbr.f0
 have er1 := hbr.c1
 have fr1 := hbr.f1
 have er2 := hbr.c2
 have fr2 := hbr.f2
 clear hbx hbv f0 f2 f3 f4 f5
 by_cases hi3 : inv = 3
 ·subst hi3
  obtain ⟨rfl, rfl, rfl, rfl⟩ : uk = 0 ∧ un = [] ∧ uc = [] ∧ b = true := by
   have h := HU.out
   unfold invP invV at h
   simp [Go.Proofs.YtcpfanpcdkoiaaaGreatDoor.v0] at h
   exact ⟨h.1.1.symm, h.1.2.1, h.1.2.2, h.2⟩
  go_wp2_with fail
  exact end_vb rfl rfl rfl rfl hbr HP.out hbf
 ·have hib : (inv == 3) = false := by rw [beq_eq_false_iff_ne]; exact hi3
  by_cases hall : inv = 2 ∧ fk = 2 ∧ k = 2
  ·obtain ⟨rfl, rfl, rfl⟩ := hall
   obtain ⟨rfl, rfl, rfl, rfl⟩ : 2 = uk ∧ n = un ∧ c = uc ∧ true = b := by
    have h := HU.out
    unfold invP invV at h
    simp at h
    exact ⟨h.1.1, h.1.2.1, h.1.2.2, h.2.symm⟩
   clear hib
   go_wp2_with fail
   exact end_vb rfl rfl rfl rfl hbr HP.out hbf
  ·obtain ⟨rfl, rfl, rfl, rfl⟩ : uk = 0 ∧ un = [] ∧ uc = [] ∧ b = false := by
    have h := HU.out
    unfold invP invV at h
    rw [if_neg hi3, if_neg hall] at h
    simp [Go.Proofs.YtcpfanpcdkoiaaaGreatDoor.v0] at h
    exact ⟨h.1.1.symm, h.1.2.1, h.1.2.2, h.2⟩
   by_cases hi2 : inv = 2
   ·subst hi2
    clear hib
    by_cases hf2 : fk = 2
    ·subst hf2
     have hk2 : ¬ k = 2 := fun h => hall ⟨rfl, rfl, h⟩
     have hkb2 : (k == 2) = false := by rw [beq_eq_false_iff_ne]; exact hk2
     clear hall
     go_wp2_with fail
     exact end_vb rfl rfl rfl rfl hbr HP.out hbf
    ·have hfb : (fk == 2) = false := by rw [beq_eq_false_iff_ne]; exact hf2
     clear hall
     go_wp2_with fail
     exact end_vb rfl rfl rfl rfl hbr HP.out hbf
   ·have hib2 : (inv == 2) = false := by rw [beq_eq_false_iff_ne]; exact hi2
    clear hall
    go_wp2_with fail
    exact end_vb rfl rfl rfl rfl hbr HP.out hbf
end Go.Proofs.YtcpfanpcdkoiaaaGreatDoor

namespace Go.Proofs.YtcpfanpcdkoiaaaGreatDoor
open Go.RowKit


attribute [local go_sem] field_nat
theorem vvalid_h (k : Int) (n c : List UInt8) (b : Bool) (w : World) (HB : Hid (vvalid k n c = b)) (hnl : Hid (n.length ≤ 1000000)) : Calls Tryz.prog 37 #[valV k n c] w fun e w' => e = .returned (.bool b) ∧ Below w.heap.size w w' :=
 vvalid_b k n c b w (Lib.hid HB.out.symm) hnl.out
theorem decl_h (vo : Option Addr) (n vc : Nat) (ls : List (List UInt8)) (b : Bool) (w : World) (hn : Hid (n = ls.length)) (h : Strs w (.slice vo n vc) ls) (hr : Hid (b = (declB [] ls && decide (ls.length ≤ 100)))) :
  Calls Tryz.prog 36 #[.slice vo n vc] w fun e w' => e = .returned (.bool b) ∧ Below w.heap.size w w' := declared_any _ ls b w h hr
set_option maxHeartbeats 2000000 in
theorem validF_any (x : FV) (b : Bool) (w : World) (hs : Strs w (.slice x.vo x.f.vals.length x.vc) x.f.vals) (hrn : x.f.r.n.length ≤ 1000000) (HB : Hid (b = validF x.f)) :
    Calls Tryz.prog 8 #[x.val] w fun e w' => e = .returned (.bool b) ∧ Below w.heap.size w w' := by
  obtain ⟨f, vo, vc⟩ := x
  obtain ⟨nm, fk, vals, ⟨rk, rn, rc⟩, inv⟩ := f
  dsimp only at hs hrn HB
  show Calls Tryz.prog 8 #[.agg #[.string ⟨nm.toArray⟩, .int .i64 fk, .slice vo vals.length vc, .int .i64 rk, .string ⟨rn.toArray⟩, .string ⟨rc.toArray⟩, .int .i64 inv]] w fun e w' => e = .returned (.bool b) ∧ Below w.heap.size w w'
  obtain ⟨w0, hw0, hbf, hz0, pf, hpf, hbx⟩ := boxF w nm fk vo vals.length vc rk rn rc inv
  replace hs := hs.below hbf
  have HS := Lib.hid hs
  have HRN := Lib.hid hrn
  have HW0 := Lib.hid hw0
  have HPF := Lib.hid hpf
  clear hs hw0 hpf hz0 hrn
  go_enter Tryz.func8, Tryz.ntmps8
  go_upto_region 1 with fail
  rw [← HW0.out, ← HPF.out]
  clear HPF HW0
  obtain ⟨f0, f1, f2, f3, f4, f5, f6⟩ := hbx.c7
  by_cases q1 : nm.length < 1
  · have q1i : ((nm.length : Nat) : Int) < 1 := by omega
    have HB3 : Hid (b = false) := Lib.hid (by rw [HB.out]; unfold validF; rw [decide_eq_false (by dsimp only; omega)]; rfl)
    go_wp2_with fail
    go_ret
    exact ⟨ret_one (congrArg Value.bool (by rw [HB3.out])), hbf⟩
  · have q1i : ¬ ((nm.length : Nat) : Int) < 1 := by omega
    by_cases q2 : 60 < nm.length
    · have q2i : (60 : Int) < ((nm.length : Nat) : Int) := by omega
      have HB3 : Hid (b = false) := Lib.hid (by rw [HB.out]; unfold validF; rw [decide_eq_false (by dsimp only; omega)]; rfl)
      go_wp2_with fail
      go_ret
      exact ⟨ret_one (congrArg Value.bool (by rw [HB3.out])), hbf⟩
    · have q2i : ¬ (60 : Int) < ((nm.length : Nat) : Int) := by omega
      have HB1 : Hid (b = (decide (fk = 1 ∨ fk = 2) && (decide (inv = 1 ∨ inv = 2 ∨ inv = 3) && (decide (¬ (fk = 1 ∧ vals ≠ [])) && ((declB [] vals && decide (vals.length ≤ 100)) && (vvalid rk rn rc && (decide (rk = 0) || fitB ⟨nm, fk, vals, ⟨rk, rn, rc⟩, inv⟩ ⟨rk, rn, rc⟩))))))) := Lib.hid (by rw [HB.out]; unfold validF; dsimp only; rw [decide_eq_true (by omega), Bool.true_and])
      clear HB q1 q2
      by_cases hf : fk = 1 ∨ fk = 2
      · by_cases hi : inv = 1 ∨ inv = 2 ∨ inv = 3
        · have HB2 : Hid (b = (decide (¬ (fk = 1 ∧ vals ≠ [])) && ((declB [] vals && decide (vals.length ≤ 100)) && (vvalid rk rn rc && (decide (rk = 0) || fitB ⟨nm, fk, vals, ⟨rk, rn, rc⟩, inv⟩ ⟨rk, rn, rc⟩))))) := Lib.hid (by rw [HB1.out, decide_eq_true hf, decide_eq_true hi]; rfl)
          clear HB1
          obtain ⟨d, hd⟩ : ∃ d, d = (declB [] vals && decide (vals.length ≤ 100)) := ⟨_, rfl⟩
          obtain ⟨v, hv⟩ : ∃ v, vvalid rk rn rc = v := ⟨_, rfl⟩
          have HD := Lib.hid hd
          have HV := Lib.hid hv
          have hft : Hid (∀ (W : World) (c : Bool), Strs W (.slice vo vals.length vc) vals → Hid (c = fitB ⟨nm, fk, vals, ⟨rk, rn, rc⟩, inv⟩ ⟨rk, rn, rc⟩) → Calls Tryz.prog 10 #[.agg #[.string ⟨nm.toArray⟩, .int .i64 fk, .slice vo vals.length vc, .int .i64 rk, .string ⟨rn.toArray⟩, .string ⟨rc.toArray⟩, .int .i64 inv], valV rk rn rc] W fun e w' => e = .returned (.bool c) ∧ Below W.heap.size W w') := Lib.hid (fun W c h1 h2 => fit_any ⟨⟨nm, fk, vals, ⟨rk, rn, rc⟩, inv⟩, vo, vc⟩ rk rn rc c W h1 h2)
          obtain ⟨ft, hft2⟩ : ∃ ft, ft = fitB ⟨nm, fk, vals, ⟨rk, rn, rc⟩, inv⟩ ⟨rk, rn, rc⟩ := ⟨_, rfl⟩
          have HFT := Lib.hid hft2
          rw [← hd, hv, ← hft2] at HB2
          clear hd hv hft2
          obtain ⟨L, hL⟩ : ∃ L, L = vals.length := ⟨_, rfl⟩
          have HL := Lib.hid hL
          have HL0 : Hid (L = 0 ↔ vals = []) := Lib.hid (by rw [hL]; exact List.length_eq_zero_iff)
          have HSL : Hid (Strs w0 (.slice vo L vc) vals) := Lib.hid (by rw [hL]; exact HS.out)
          rw [← hL] at f2 hft
          rw [← hL] at hbx
          clear hL HS
          rcases hf with rfl | rfl <;> rcases hi with rfl | rfl | rfl
          all_goals
            first
            | (rcases Nat.eq_zero_or_pos L with h0 | h0
               · subst h0
                 have HB4 : Hid (b = (d && (v && (decide (rk = 0) || ft)))) := Lib.hid (by rw [HB2.out, HL0.out.1 rfl]; simp)
                 clear HB2 HL0
                 go_wp2_with fail
                 (with_reducible refine (decl_h vo _ vc vals d _ HL HSL.out HD).mono ?_)
                 rintro e w1 ⟨rfl, hb1⟩
                 replace hbx := hbx.kept hb1
                 have HS1 : Hid (Strs w1 (.slice vo 0 vc) vals) := Lib.hid (HSL.out.below hb1)
                 have hbf1 := hbf.trans (hb1.mono hbf.size)
                 clear f0 f1 f2 f3 f4 f5 f6 hb1 HSL
                 obtain ⟨f0, f1, f2, f3, f4, f5, f6⟩ := hbx.c7
                 cases d
                 · go_wp2_with fail
                   go_ret
                   exact ⟨ret_one (congrArg Value.bool (by rw [HB4.out]; rfl)), hbf1⟩
                 · go_wp2_with fail
                   (with_reducible refine (vvalid_h rk rn rc v _ HV HRN).mono ?_)
                   rintro e w2 ⟨rfl, hb2⟩
                   replace hbx := hbx.kept hb2
                   have HS2 : Hid (Strs w2 (.slice vo 0 vc) vals) := Lib.hid (HS1.out.below hb2)
                   have hbf2 := hbf1.trans (hb2.mono hbf1.size)
                   clear f0 f1 f2 f3 f4 f5 f6 hb2 HS1 hbf1
                   obtain ⟨f0, f1, f2, f3, f4, f5, f6⟩ := hbx.c7
                   cases v
                   · go_wp2_with fail
                     go_ret
                     exact ⟨ret_one (congrArg Value.bool (by rw [HB4.out]; rfl)), hbf2⟩
                   · by_cases hr0 : rk = 0
                     · subst hr0
                       go_wp2_with fail
                       go_ret
                       exact ⟨ret_one (congrArg Value.bool (by rw [HB4.out]; rfl)), hbf2⟩
                     · have hrb : (rk == 0) = false := by rw [beq_eq_false_iff_ne]; exact hr0
                       have HB5 : Hid (b = ft) := Lib.hid (by rw [HB4.out, decide_eq_false hr0]; simp)
                       clear HB4
                       go_wp2_with fail
                       (with_reducible refine (hft.out w2 ft HS2.out HFT).mono ?_)
                       rintro e w3 ⟨rfl, hb3⟩
                       have hbf3 := hbf2.trans (hb3.mono hbf2.size)
                       clear f0 f1 f2 f3 f4 f5 f6 hb3 hbx
                       go_wp2_with fail
                       go_ret
                       exact ⟨ret_one (congrArg Value.bool (by rw [HB5.out])), hbf3⟩
               · have h0i : (0 : Int) < ((L : Nat) : Int) := by omega
                 have HB4 : Hid (b = false) := Lib.hid (by rw [HB2.out, decide_eq_false (by simp; intro h9; rw [HL0.out.2 h9] at h0; omega)]; rfl)
                 clear HB2
                 go_wp2_with fail
                 go_ret
                 exact ⟨ret_one (congrArg Value.bool (by rw [HB4.out])), hbf⟩)
            | (have HB4 : Hid (b = (d && (v && (decide (rk = 0) || ft)))) := Lib.hid (by rw [HB2.out]; simp)
               clear HB2 HL0
               go_wp2_with fail
               (with_reducible refine (decl_h vo _ vc vals d _ HL HSL.out HD).mono ?_)
               rintro e w1 ⟨rfl, hb1⟩
               replace hbx := hbx.kept hb1
               have HS1 : Hid (Strs w1 (.slice vo L vc) vals) := Lib.hid (HSL.out.below hb1)
               have hbf1 := hbf.trans (hb1.mono hbf.size)
               clear f0 f1 f2 f3 f4 f5 f6 hb1 HSL
               obtain ⟨f0, f1, f2, f3, f4, f5, f6⟩ := hbx.c7
               cases d
               · go_wp2_with fail
                 go_ret
                 exact ⟨ret_one (congrArg Value.bool (by rw [HB4.out]; rfl)), hbf1⟩
               · go_wp2_with fail
                 (with_reducible refine (vvalid_h rk rn rc v _ HV HRN).mono ?_)
                 rintro e w2 ⟨rfl, hb2⟩
                 replace hbx := hbx.kept hb2
                 have HS2 : Hid (Strs w2 (.slice vo L vc) vals) := Lib.hid (HS1.out.below hb2)
                 have hbf2 := hbf1.trans (hb2.mono hbf1.size)
                 clear f0 f1 f2 f3 f4 f5 f6 hb2 HS1 hbf1
                 obtain ⟨f0, f1, f2, f3, f4, f5, f6⟩ := hbx.c7
                 cases v
                 · go_wp2_with fail
                   go_ret
                   exact ⟨ret_one (congrArg Value.bool (by rw [HB4.out]; rfl)), hbf2⟩
                 · by_cases hr0 : rk = 0
                   · subst hr0
                     go_wp2_with fail
                     go_ret
                     exact ⟨ret_one (congrArg Value.bool (by rw [HB4.out]; rfl)), hbf2⟩
                   · have hrb : (rk == 0) = false := by rw [beq_eq_false_iff_ne]; exact hr0
                     have HB5 : Hid (b = ft) := Lib.hid (by rw [HB4.out, decide_eq_false hr0]; simp)
                     clear HB4
                     go_wp2_with fail
                     (with_reducible refine (hft.out w2 ft HS2.out HFT).mono ?_)
                     rintro e w3 ⟨rfl, hb3⟩
                     have hbf3 := hbf2.trans (hb3.mono hbf2.size)
                     clear f0 f1 f2 f3 f4 f5 f6 hb3 hbx
                     go_wp2_with fail
                     go_ret
                     exact ⟨ret_one (congrArg Value.bool (by rw [HB5.out])), hbf3⟩)
        · have hi1 : ¬ inv = 1 := fun h => hi (.inl h)
          have hi2 : ¬ inv = 2 := fun h => hi (.inr (.inl h))
          have hi3 : ¬ inv = 3 := fun h => hi (.inr (.inr h))
          have HB3 : Hid (b = false) := Lib.hid (by rw [HB1.out, decide_eq_false hi]; simp)
          have i1 : (inv != 1) = true := by rw [bne_iff_ne]; exact hi1
          have i2 : (inv != 2) = true := by rw [bne_iff_ne]; exact hi2
          have i3 : (inv != 3) = true := by rw [bne_iff_ne]; exact hi3
          clear HB1 hi
          rcases hf with rfl | rfl
          all_goals
            go_wp2_with fail
            go_ret
            exact ⟨ret_one (congrArg Value.bool (by rw [HB3.out])), hbf⟩
      · have HB3 : Hid (b = false) := Lib.hid (by rw [HB1.out, decide_eq_false hf]; rfl)
        have hf1 : ¬ fk = 1 := fun h => hf (.inl h)
        have hf2 : ¬ fk = 2 := fun h => hf (.inr h)
        have i1 : (fk != 1) = true := by rw [bne_iff_ne]; exact hf1
        have i2 : (fk != 2) = true := by rw [bne_iff_ne]; exact hf2
        clear HB1 hf
        go_wp2_with fail
        go_ret
        exact ⟨ret_one (congrArg Value.bool (by rw [HB3.out])), hbf⟩
end Go.Proofs.YtcpfanpcdkoiaaaGreatDoor

namespace Go.Proofs.YtcpfanpcdkoiaaaGreatDoor
open Go.RowKit


attribute [local go_sem] field_nat
theorem cells2 (w : World) (x y : Nat) : Cells .i64 (w.alloc (.cells #[.int .i64 (x : Int), .int .i64 (y : Int)] 3)) (some ⟨w.heap.size, 0, none⟩) [x, y] := by
 refine .inr ⟨_, 0, rfl, by simp, fun i hi => ?_⟩
 match i, hi with
 | 0, _ => go_simp
 | 1, _ => go_simp
theorem cells4 (w : World) (x y z t : Nat) : Cells .i64 (w.alloc (.cells #[.int .i64 (x : Int), .int .i64 (y : Int), .int .i64 (z : Int), .int .i64 (t : Int)] 3)) (some ⟨w.heap.size, 0, none⟩) [x, y, z, t] := by
 refine .inr ⟨_, 0, rfl, by simp, fun i hi => ?_⟩
 match i, hi with
 | 0, _ => go_simp
 | 1, _ => go_simp
 | 2, _ => go_simp
 | 3, _ => go_simp
theorem room_z2 (n z : Int) (ao : Option Addr) (x y : Nat) (w : World) (hn : -1 ≤ n) (hn2 : n ≤ 1000000000) (hc : Cells .i64 w ao [x, y]) (hz : Hid (z = roomL n [x, y])) :
  Calls Tryz.prog 31 #[.int .i64 n, .slice ao 2 2] w fun e w' => e = .returned (.int .i64 z) ∧ Below w.heap.size w w' := room_z n z ao 2 [x, y] w hn hn2 hc (by simp) hz
theorem room_z4 (n z : Int) (ao : Option Addr) (x y t u : Nat) (w : World) (hn : -1 ≤ n) (hn2 : n ≤ 1000000000) (hc : Cells .i64 w ao [x, y, t, u]) (hz : Hid (z = roomL n [x, y, t, u])) :
  Calls Tryz.prog 31 #[.int .i64 n, .slice ao 4 4] w fun e w' => e = .returned (.int .i64 z) ∧ Below w.heap.size w w' := room_z n z ao 4 [x, y, t, u] w hn hn2 hc (by simp) hz
structure BigF (f : F5) : Prop where
 nm : f.nm.length ≤ 9223372036854775807
 rn : f.r.n.length ≤ 9223372036854775807
 rc : f.r.c.length ≤ 9223372036854775807
 vl : ∀ l ∈ f.vals, l.length ≤ 9223372036854775807
theorem strsR_range : ∀ (ls : List (List UInt8)) {n : Int}, -1 ≤ n → n ≤ 1000000000 → -1 ≤ strsR n ls ∧ strsR n ls ≤ 1000000000 := by
 intro ls
 induction ls with
 | nil => intro n h1 h2; exact ⟨h1, h2⟩
 | cons s r ih =>
  intro n h1 h2
  unfold strsR
  split
  ·exact ⟨h1, h2⟩
  ·have := roomL_range [1, s.length] h1 h2
   exact ih this.1 this.2
theorem Strs.cellAt {w : World} {ao : Option Addr} {n c : Nat} {ls : List (List UInt8)} (h : Strs w (.slice ao n c) ls) {k : Nat} (hk : k < ls.length) : ∃ b off, ao = some ⟨b, off, none⟩ ∧ CellV w b (off + k) (.string ⟨(ls[k]?.getD []).toArray⟩) := by
 obtain ⟨ao', cap, e, h1, h2, h3⟩ := h
 cases e
 rcases h3 with h3 | ⟨b, off, h4, h5, h6⟩
 ·rw [h3] at hk; simp at hk
 ·exact ⟨b, off, h4, ⟨h6 k hk⟩⟩
theorem Strs.lenle {w : World} {ao : Option Addr} {n c : Nat} {ls : List (List UInt8)} (h : Strs w (.slice ao n c) ls) : n = ls.length ∧ ls.length ≤ 9223372036854775807 := by
 obtain ⟨ao', cap, e, h1, h2, h3⟩ := h
 cases e
 unfold maxLen at h2
 exact ⟨rfl, by omega⟩
set_option maxHeartbeats 2000000 in
theorem fieldsBk_any (ao : Option Addr) (cap : Nat) (xs : List FV) (b9 : Bool) (w : World) (hv : Flds w ao xs) (hlen : xs.length ≤ 9223372036854775807) (hl : ∀ x ∈ xs, BigF x.f) (HB : Hid (b9 = fieldsB (xs.map (·.f)))) : Calls Tryz.prog 5 #[.slice ao xs.length cap] w fun e w' => e = .returned (.bool b9) ∧ Below w.heap.size w w' := by
 obtain ⟨z9, hz9⟩ : ∃ z, z = fldsR 2000 (xs.map (·.f)) := ⟨_, rfl⟩
 have HZ9 := Lib.hid hz9
 have HB2 : Hid (b9 = decide (0 ≤ z9)) := Lib.hid (by rw [HB.out, hz9]; rfl)
 clear HB hz9
 have hbf : Below w.heap.size w w := Below.refl _ _
 go_enter Tryz.func5, Tryz.ntmps5
 go_wp2_with fail
 go_loopg [3, 4] xs.length (fun gg nv iv wr => ∃ (m : Int) (i : Nat), i + gg = xs.length ∧ nv = .int .i64 m ∧ iv = .int .i64 (i : Int) ∧ -1 ≤ m ∧ m ≤ 1000000000 ∧ Hid (fldsR m ((xs.map (·.f)).drop i) = z9) ∧ Flds wr ao xs ∧ Below w.heap.size w wr)
 case atStart => exact ⟨2000, 0, by omega, rfl, rfl, by omega, by omega, Lib.hid HZ9.out.symm, hv, hbf⟩
 clear hv hbf
 case round =>
  obtain ⟨m, i, hi, rfl, rfl, hq1, hq2, HR, hv, hbf⟩ := hrel
  by_cases hil : ¬ i < xs.length
  case pos =>
   have hre : m = z9 := by rw [← HR.out, List.drop_eq_nil_of_le (by simp; omega)]; rfl
   have HRE : Hid (b9 = decide (0 ≤ m)) := Lib.hid (by rw [HB2.out, hre])
   have hii : ¬ ((i : Nat) : Int) < ((xs.length : Nat) : Int) := by omega
   clear hre
   go_wp2_with fail
   go_ret
   exact ⟨ret_one (by rw [HRE.out]; rfl), hbf⟩
  case neg =>
   have hil9 : i < xs.length := by omega
   have hii : ((i : Nat) : Int) < ((xs.length : Nat) : Int) := by omega
   clear hil
   by_cases hmn : m < 0
   case pos =>
    have hre : m = z9 := by rw [← HR.out, fldsR_neg hmn]
    have HRE : Hid (b9 = false) := Lib.hid (by rw [HB2.out, ← hre]; exact decide_eq_false (by omega))
    have hmg : ¬ (0 : Int) ≤ m := by omega
    clear hre
    go_wp2_with fail
    go_ret
    exact ⟨ret_one (by rw [HRE.out]; rfl), hbf⟩
   case neg =>
    have hmg : (0 : Int) ≤ m := by omega
    obtain ⟨x, hx9⟩ : ∃ x, xs[i]? = some x := ⟨_, List.getElem?_eq_getElem hil9⟩
    have hmem : x ∈ xs := List.mem_of_getElem? hx9
    have hbig := hl x hmem
    have hdr := fldsR_drop (n := m) (fs := xs.map (·.f)) (i := i) (f := x.f) (by rw [List.getElem?_map, hx9]; rfl) hmn
    rw [hdr] at HR
    obtain ⟨b, off, rfl, hfa⟩ := hv.at hx9
    have hst := hv.2 x hmem
    obtain ⟨⟨nm, fk, vals, ⟨rk, rn, rc⟩, inv⟩, vo, vc⟩ := x
    obtain ⟨e0, _, e2, _, e4, e5, _⟩ := hfa.c7
    have h0 : CellV wr b (off + i * 7) (Value.string ⟨nm.toArray⟩) := ⟨e0⟩
    have h2 : CellV wr b (off + i * 7 + 2) (Value.slice vo vals.length vc) := ⟨e2⟩
    have h4 : CellV wr b (off + i * 7 + 4) (Value.string ⟨rn.toArray⟩) := ⟨e4⟩
    have h5 : CellV wr b (off + i * 7 + 5) (Value.string ⟨rc.toArray⟩) := ⟨e5⟩
    obtain ⟨hn1, hn2, hn3, hn4⟩ := hbig
    dsimp only at hn1 hn2 hn3 hn4 hst HR
    obtain ⟨z, hz⟩ : ∃ z, z = roomL m [4, nm.length, rn.length, rc.length] := ⟨_, rfl⟩
    have hzr := roomL_range [4, nm.length, rn.length, rc.length] hq1 hq2
    rw [← hz] at HR hzr
    have HZ := Lib.hid hz
    obtain ⟨hz1, hz2⟩ := hzr
    have hvl := hst.lenle.2
    have HN4 := Lib.hid hn4
    clear hdr hz hmem hx9 hfa e0 e2 e4 e5 hn4
    have hqi : (0 : Int) ≤ (i : Int) := by omega
    have q0 := h0.cell
    have q4 := h4.cell
    have q5 := h5.cell
    go_wp2_with fail
    clear q0 q4 q5

    refine wp_region_seq (S := fun w' => CellV w' b (off + i * 7) (Value.string ⟨nm.toArray⟩) ∧ CellV w' b (off + i * 7 + 4) (Value.string ⟨rn.toArray⟩) ∧ CellV w' b (off + i * 7 + 5) (Value.string ⟨rc.toArray⟩)) [(true, 0), (true, 1), (true, 2), (true, 3), (true, 4), (true, 5), (true, 6), (true, 7), (true, 8), (true, 9), (true, 10), (true, 11), (true, 12), (true, 13), (true, 14), (true, 15), (true, 16), (true, 17), (true, 18), (true, 19), (true, 20), (false, 21), (false, 22), (true, 23)] (by kernel_rfl) (by kernel_rfl) (by kernel_rfl) (by kernel_rfl) (by kernel_rfl) (fun d _ _ _ _ h => by cases d <;> exact h) ⟨h0.drew, h4.drew, h5.drew⟩ (fun _ => ?_)
    simp only [pickOps, List.append_eq, List.cons_append, List.nil_append, List.getElem?_toArray, List.getElem?_cons_succ, List.getElem?_cons_zero]
    have hb : Below wr.heap.size wr wr.drew := (Below.refl _ _).drew
    generalize wr.drew = wd at hb ⊢
    replace h0 := h0.kept hb
    replace h2 := h2.kept hb
    replace h4 := h4.kept hb
    replace h5 := h5.kept hb
    replace hst := hst.below hb
    replace hv := hv.below hb
    replace hbf := hbf.trans (hb.mono hbf.size)
    clear hb
    repeat (first | (refine seq_take (v := ?_) (by rfl) ?_ ?_; rotate_left; (· intro w hSw; (try dsimp only at hSw); obtain ⟨⟨q0⟩, ⟨q4⟩, ⟨q5⟩⟩ := hSw; go_simp; all_goals with_reducible rfl); (try simp only [Act.put, List.setIfInBounds_toArray, List.set_cons_zero, List.set_cons_succ])) | (refine seq_leave (by rfl) ?_; (try simp only [Act.put, List.setIfInBounds_toArray, List.set_cons_zero, List.set_cons_succ])))
    refine seq_step (by rfl) (fun K hK => ?_)
    go_simp
    obtain ⟨w2, hwE⟩ : ∃ W, W = wd.alloc (.cells #[.int .i64 4, .int .i64 (nm.length : Int), .int .i64 (rn.length : Int), .int .i64 (rc.length : Int)] 3) := ⟨_, rfl⟩
    have hb : Below wd.heap.size wd w2 := by rw [hwE]; exact (Below.refl _ _).alloc (Nat.le_refl _) _
    have hcs : Cells .i64 w2 (some ⟨wd.heap.size, 0, none⟩) [4, nm.length, rn.length, rc.length] := by rw [hwE]; exact cells4 _ 4 _ _ _
    rw [← hwE]
    clear hwE
    replace h0 := h0.kept hb
    replace h2 := h2.kept hb
    replace h4 := h4.kept hb
    replace h5 := h5.kept hb
    replace hst := hst.below hb
    replace hv := hv.below hb
    replace hbf := hbf.trans (hb.mono hbf.size)
    clear hb
    first | refine hK.out _ _ ⟨h0, h4, h5⟩ (fun _ => ?_) | (go_wp2_with fail; refine hK.out _ _ ⟨h0, h4, h5⟩ (fun _ => ?_))
    clear hK K
    (try simp only [Act.put, List.setIfInBounds_toArray, List.set_cons_zero, List.set_cons_succ])
    repeat (first | (refine seq_take (v := ?_) (by rfl) ?_ ?_; rotate_left; (· intro w hSw; (try dsimp only at hSw); obtain ⟨⟨q0⟩, ⟨q4⟩, ⟨q5⟩⟩ := hSw; go_simp; all_goals with_reducible rfl); (try simp only [Act.put, List.setIfInBounds_toArray, List.set_cons_zero, List.set_cons_succ])) | (refine seq_leave (by rfl) ?_; (try simp only [Act.put, List.setIfInBounds_toArray, List.set_cons_zero, List.set_cons_succ])))
    refine seq_step (by rfl) (fun K hK => ?_)
    go_simp
    go_at_call 31
    (with_reducible refine (room_z4 m z _ 4 nm.length rn.length rc.length _ hq1 hq2 hcs HZ).mono ?_)
    rintro e w3 ⟨rfl, hb⟩
    clear hcs
    replace h0 := h0.kept hb
    replace h2 := h2.kept hb
    replace h4 := h4.kept hb
    replace h5 := h5.kept hb
    replace hst := hst.below hb
    replace hv := hv.below hb
    replace hbf := hbf.trans (hb.mono hbf.size)
    clear hb
    first | refine hK.out _ _ ⟨h0, h4, h5⟩ (fun _ => ?_) | (go_wp2_with fail; refine hK.out _ _ ⟨h0, h4, h5⟩ (fun _ => ?_))
    clear hK K
    (try simp only [Act.put, List.setIfInBounds_toArray, List.set_cons_zero, List.set_cons_succ])
    repeat (first | (refine seq_take (v := ?_) (by rfl) ?_ ?_; rotate_left; (· intro w hSw; (try dsimp only at hSw); obtain ⟨⟨q0⟩, ⟨q4⟩, ⟨q5⟩⟩ := hSw; go_simp; all_goals with_reducible rfl); (try simp only [Act.put, List.setIfInBounds_toArray, List.set_cons_zero, List.set_cons_succ])) | (refine seq_leave (by rfl) ?_; (try simp only [Act.put, List.setIfInBounds_toArray, List.set_cons_zero, List.set_cons_succ])))
    refine seq_end ?_

    clear h0 h4 h5 hn1 hn2 hn3
    obtain ⟨Z, hZ⟩ : ∃ Z, Z = strsR z vals := ⟨_, rfl⟩
    rw [← hZ] at HR
    have hZr := strsR_range vals hz1 hz2
    rw [← hZ] at hZr
    have HZ2 := Lib.hid hZ
    clear hZ HZ
    go_wp2_with fail
    obtain ⟨go, hgo⟩ : ∃ go, go = gk := ⟨_, rfl⟩; subst hgo
    obtain ⟨w5, hw5⟩ : ∃ W, W = w3 := ⟨_, rfl⟩; subst hw5
    go_loopg [3, 5] vals.length (fun gg nv kv wr => ∃ (m : Int) (k : Nat), k + gg = vals.length ∧ nv = .int .i64 m ∧ kv = .int .i64 (k : Int) ∧ -1 ≤ m ∧ m ≤ 1000000000 ∧ Hid (strsR m (vals.drop k) = Z) ∧ CellV wr b (off + i * 7 + 2) (Value.slice vo vals.length vc) ∧ Strs wr (.slice vo vals.length vc) vals ∧ Flds wr (some ⟨b, off, none⟩) xs ∧ Below w.heap.size w wr)
    case atStart => exact ⟨z, 0, by omega, rfl, rfl, hz1, hz2, Lib.hid HZ2.out.symm, h2, hst, hv, hbf⟩
    clear h2 hst hv hbf HZ2 hz1 hz2
    case round =>
     obtain ⟨m2, k, hk, rfl, rfl, hy1, hy2, HR2, h2, hst, hv, hbf⟩ := hrel
     have c2 := h2.cell
     by_cases hkl : ¬ k < vals.length
     case pos =>
      have hre : m2 = Z := by rw [← HR2.out, List.drop_eq_nil_of_le (by omega)]; rfl
      have hkk : ¬ ((k : Nat) : Int) < ((vals.length : Nat) : Int) := by omega
      have HRE := Lib.hid hre
      clear hre
      go_wp2_with fail
      go_roundg (go - 1)
      case measure => omega
      case rel => exact ⟨m2, i + 1, by omega, rfl, by go_num, hy1, hy2, Lib.hid (by rw [HRE.out]; exact HR.out), hv, hbf⟩
     case neg =>
      have hkl9 : k < vals.length := by omega
      have hkk : ((k : Nat) : Int) < ((vals.length : Nat) : Int) := by omega
      clear hkl
      by_cases hm2 : m2 < 0
      case pos =>
       have hre : m2 = Z := by rw [← HR2.out, strsR_neg hm2]
       have hmg2 : ¬ (0 : Int) ≤ m2 := by omega
       have HRE := Lib.hid hre
       clear hre
       go_wp2_with fail
       go_roundg (go - 1)
       case measure => omega
       case rel => exact ⟨m2, i + 1, by omega, rfl, by go_num, hy1, hy2, Lib.hid (by rw [HRE.out]; exact HR.out), hv, hbf⟩
      case neg =>
       have hmg2 : (0 : Int) ≤ m2 := by omega
       have hdr := strsR_drop (n := m2) hkl9 hm2
       rw [hdr] at HR2
       obtain ⟨vb, voff, rfl, hcv⟩ := hst.cellAt hkl9
       have hsl : (vals[k]?.getD []).length ≤ 9223372036854775807 := by rw [List.getElem?_eq_getElem hkl9]; exact HN4.out _ (List.getElem_mem hkl9)
       obtain ⟨s, hs⟩ : ∃ s, s = vals[k]?.getD [] := ⟨_, rfl⟩
       rw [← hs] at HR2 hcv hsl
       obtain ⟨z2, hz⟩ : ∃ z, z = roomL m2 [1, s.length] := ⟨_, rfl⟩
       have hzr := roomL_range [1, s.length] hy1 hy2
       rw [← hz] at HR2 hzr
       have HZ := Lib.hid hz
       obtain ⟨hz1, hz2⟩ := hzr
       have cs := hcv.cell
       clear hdr hz hs
       have hqk : (0 : Int) ≤ (k : Int) := by omega
       have hcs : Cells .i64 (wr.alloc (.cells #[.int .i64 1, .int .i64 (s.length : Int)] 3)) (some ⟨wr.heap.size, 0, none⟩) [1, s.length] := cells2 wr 1 _
       go_wp2_with fail
       (with_reducible refine (room_z2 m2 z2 _ 1 s.length _ hy1 hy2 hcs HZ).mono ?_)
       rintro e w6 ⟨rfl, hb⟩
       have hb9 : Below wr.heap.size wr w6 := ((Below.refl _ wr).alloc (Nat.le_refl _) _).trans (hb.mono (by simp))
       replace h2 := h2.kept hb9
       replace hst := hst.below hb9
       replace hv := hv.below hb9
       replace hbf := hbf.trans (hb9.mono hbf.size)
       clear hb hb9 c2 cs hcv hcs
       go_wp2_with fail
       go_roundg (gk - 1)
       case measure => omega
       case rel => exact ⟨z2, k + 1, by omega, rfl, by go_num, hz1, hz2, HR2, h2, hst, hv, hbf⟩
end Go.Proofs.YtcpfanpcdkoiaaaGreatDoor
