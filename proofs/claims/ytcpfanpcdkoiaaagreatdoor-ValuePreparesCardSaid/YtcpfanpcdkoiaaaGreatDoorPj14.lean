/-
  Pj14: RefQ RefR MathT SeqB RatL CloN BookM (what is needed of them).
-/
import Derived.Test.YtcpfanpcdkoiaaaGreatDoorPj06
import Derived.Test.YtcpfanpcdkoiaaaGreatDoorPj07
import Derived.Test.YtcpfanpcdkoiaaaGreatDoorPj09
import Derived.Test.YtcpfanpcdkoiaaaGreatDoorPj10
import Derived.Shelf.Strconv.Clone
import Derived.Test.YtcpfanpcdkoiaaaGreatDoorProg
set_option maxRecDepth 100000
set_option linter.unusedVariables false
set_option linter.unusedSimpArgs false

namespace Go.Proofs.YtcpfanpcdkoiaaaGreatDoor
open Go.RowKit


attribute [local go_sem] field_nat
theorem trim_r (v : Value) (n : Nat) (w : World) (h : RIs w v n) : Calls Tryz.prog 169 #[v] w fun e w' => e = .returned v ∧ Below w.heap.size w w' :=
 (rtrim_same v n w h).mono fun e w' h => ⟨h.1, h.2 ▸ Below.refl _ _⟩
theorem RIs.len {w : World} {o : Option Addr} {l c n : Nat} (h : RIs w (.slice o l c) n) : l = (rlimbs n).length := by
 obtain ⟨ao, cap, h1, _⟩ := h.open
 injection h1
theorem rlimbs_mono {a b k : Nat} (hab : a ≤ b) (h : (rlimbs b).length ≤ k) : (rlimbs a).length ≤ k := Nat.le_trans (rlimbs_length_mono hab) h
set_option maxHeartbeats 1000000 in
theorem rmake_any (neg : Bool) (vn vd : Value) (n d : Nat) (w : World) (hn : RIs w vn n) (hd : RIs w vd d) (hln : (rlimbs n).length ≤ 1000000) (hld : (rlimbs d).length ≤ 1000000) (hd0 : 0 < d) :
  Calls Tryz.prog 109 #[.bool neg, vn, vd] w (RQPost w (qOf neg n d)) := by
 obtain ⟨nO, nL, nC, rfl⟩ := hn.form
 obtain ⟨dO, dL, dC, rfl⟩ := hd.form
 obtain ⟨w0, hw0⟩ : ∃ w0, w0 = (w.alloc (.cells #[.bool false, .slice none 0 0, .slice none 0 0] 98)) := ⟨_, rfl⟩
 have hbf : Below w.heap.size w w0 := by rw [hw0]; exact ((Below.refl _ w).alloc (Nat.le_refl _) _)
 obtain ⟨pr, hpr⟩ : ∃ p, p = w.heap.size := ⟨_, rfl⟩
 have hbr : Box3 w0 pr (Value.bool false) (Value.slice none 0 0) (Value.slice none 0 0) := by rw [hw0, hpr]; exact ⟨by go_simp, by go_simp, by go_simp, by go_simp, by go_simp, by go_simp⟩
 have HP : Hid (w.heap.size ≤ pr) := Lib.hid (by omega)
 replace hn := hn.below hbf
 replace hd := hd.below hbf
 have HW := Lib.hid hw0; clear hw0
 go_enter Tryz.func109, Tryz.ntmps109
 go_upto_region 1 with fail
 rw [← HW.out, ← hpr]
 clear hpr HW
 have HD := Lib.hid hd0; clear hd0
 go_wp2_with fail
 refine (trim_r _ n _ hn).mono ?_
 rintro e w1 ⟨rfl, hb⟩
 replace hbr := hbr.kept hb
 replace hn := hn.below hb
 replace hd := hd.below hb
 replace hbf := hbf.trans (hb.mono hbf.size)
 clear hb
 go_wp2_with fail
 refine (trim_r _ d _ hd).mono ?_
 rintro e w2 ⟨rfl, hb⟩
 replace hbr := hbr.kept hb
 replace hn := hn.below hb
 replace hd := hd.below hb
 replace hbf := hbf.trans (hb.mono hbf.size)
 clear hb
 go_wp2_with fail
 refine (rgcd_any _ _ n d _ hn hd hln hld).mono ?_
 rintro e w3 ⟨r9, rfl, hg, hb⟩
 replace hbr := hbr.kept hb
 replace hn := hn.below hb
 replace hd := hd.below hb
 replace hbf := hbf.trans (hb.mono hbf.size)
 clear hb
 obtain ⟨gO, gL, gC, rfl⟩ := hg.form
 have HG : Hid (0 < Nat.gcd n d) := Lib.hid (Nat.gcd_pos_of_pos_right _ HD.out)
 have hlg : (rlimbs (Nat.gcd n d)).length ≤ 1000000 := rlimbs_mono (Nat.gcd_le_right _ HD.out) hld
 go_wp2_with fail
 refine (rdivmod_any _ _ n (Nat.gcd n d) _ hn hg hln hlg HG.out).mono ?_
 rintro e w4 ⟨r9, s9, rfl, hx, hs, hb⟩
 replace hbr := hbr.kept hb
 replace hn := hn.below hb
 replace hd := hd.below hb
 replace hg := hg.below hb
 replace hbf := hbf.trans (hb.mono hbf.size)
 clear hb
 obtain ⟨xO, xL, xC, rfl⟩ := hx.form
 obtain ⟨sO, sL, sC, rfl⟩ := hs.form
 clear hs
 go_wp2_with fail
 refine (rdivmod_any _ _ d (Nat.gcd n d) _ hd hg hld hlg HG.out).mono ?_
 rintro e w5 ⟨r9, s9, rfl, hy, hs, hb⟩
 replace hbr := hbr.kept hb
 replace hn := hn.below hb
 replace hd := hd.below hb
 replace hg := hg.below hb
 replace hx := hx.below hb
 replace hbf := hbf.trans (hb.mono hbf.size)
 clear hb
 obtain ⟨yO, yL, yC, rfl⟩ := hy.form
 obtain ⟨tO, tL, tC, rfl⟩ := hs.form
 clear hs
 have hxl := hx.len
 have hx0 : decide ((0 : Int) < (xL : Int)) = decide (0 < n) := by
  rw [hxl]
  by_cases h0 : n = 0
  ·subst h0; simp [rlimbs_zero]
  ·have h1 : 0 < n / Nat.gcd n d := Nat.div_pos (Nat.gcd_le_left _ (by omega)) HG.out
   have h2 : rlimbs (n / Nat.gcd n d) ≠ [] := fun h => by have := rlimbs_eq_nil.1 h; omega
   have h3 : 0 < (rlimbs (n / Nat.gcd n d)).length := List.length_pos_iff.2 h2
   rw [decide_eq_true (by omega), decide_eq_true (by omega)]
 have HX := Lib.hid hx0; clear hx0 hxl
 cases neg
 case false =>
  have er0 := hbr.c0
  have fr0 := hbr.f0
  have er1 := hbr.c1
  have fr1 := hbr.f1
  have er2 := hbr.c2
  have fr2 := hbr.f2
  go_wp2_with fail
  exact end_r rfl rfl rfl hbr (show w.heap.size ≤ pr by have := HP.out; omega) (RQIs.made HD.out (by first | rfl | (rw [← HX.out]; simp)) hx hy) hbf
 case true =>
  have er0 := hbr.c0
  have fr0 := hbr.f0
  have er1 := hbr.c1
  have fr1 := hbr.f1
  have er2 := hbr.c2
  have fr2 := hbr.f2
  go_wp2_with fail
  exact end_r rfl rfl rfl hbr (show w.heap.size ≤ pr by have := HP.out; omega) (RQIs.made HD.out (by first | rfl | (rw [← HX.out]; simp)) hx hy) hbf
theorem qb_pf2 {a : Rat} (hs : Hid (false = decide (a < 0))) (h : ¬ a.den = 1) : ((⟨(str (dec a.num.natAbs)).toArray⟩ ++ ⟨#[47]⟩) ++ ⟨(str (dec a.den)).toArray⟩ : ByteArray) = ⟨(qtext a).toArray⟩ := by
 rw [← qb_pf hs h]; apply ByteArray.ext; simp
theorem qb_nf2 {a : Rat} (hs : Hid (true = decide (a < 0))) (h : ¬ a.den = 1) : (((⟨#[45]⟩ ++ ⟨(str (dec a.num.natAbs)).toArray⟩) ++ ⟨#[47]⟩) ++ ⟨(str (dec a.den)).toArray⟩ : ByteArray) = ⟨(qtext a).toArray⟩ := by
 rw [← qb_nf hs h]; apply ByteArray.ext; simp
set_option maxHeartbeats 1000000 in
theorem rqtext_any (va : Value) (a : Rat) (w : World) (ha : RQIs w va a) (hla : QB a 30000) :
  Calls Tryz.prog 74 #[va] w fun e w' => e = .returned (.string ⟨(qtext a).toArray⟩) ∧ Below w.heap.size w w' := by
 obtain ⟨aB, axO, axL, axC, ayO, ayL, ayC, rfl, hS, hax, hay⟩ := ha.form
 have HaS := Lib.hid hS; clear hS
 obtain ⟨w0, hw0⟩ : ∃ w0, w0 = (w.alloc (.cells #[.bool aB, .slice axO axL axC, .slice ayO ayL ayC] 98)) := ⟨_, rfl⟩
 have hbf : Below w.heap.size w w0 := by rw [hw0]; exact ((Below.refl _ w).alloc (Nat.le_refl _) _)
 obtain ⟨pa, hpa⟩ : ∃ p, p = w.heap.size := ⟨_, rfl⟩
 have hba : Box3 w0 pa (Value.bool aB) (Value.slice axO axL axC) (Value.slice ayO ayL ayC) := by rw [hw0, hpa]; exact ⟨by go_simp, by go_simp, by go_simp, by go_simp, by go_simp, by go_simp⟩
 have HP : Hid (w.heap.size ≤ pa) := Lib.hid (by omega)
 replace ha := ha.below hbf
 replace hax := hax.below hbf
 replace hay := hay.below hbf
 have HW := Lib.hid hw0; clear hw0
 go_enter Tryz.func74, Tryz.ntmps74
 go_upto_region 1 with fail
 rw [← HW.out, ← hpa]
 clear hpa HW
 have hla1 := hla.1
 have hla2 := hla.2
 have hr1 := rlimbs_of_limbs hla1
 have hr2 := rlimbs_of_limbs hla2
 have ea0 := hba.c0
 have ea1 := hba.c1
 have ea2 := hba.c2
 go_wp2_with fail
 refine (rtext_any _ a.num.natAbs _ hax (by omega)).mono ?_
 rintro e w1 ⟨rfl, hb⟩
 clear ea0 ea1 ea2
 replace hba := hba.kept hb
 replace ha := ha.below hb
 replace hax := hax.below hb
 replace hay := hay.below hb
 replace hbf := hbf.trans (hb.mono hbf.size)
 clear hb
 obtain ⟨T, hT⟩ : ∃ T, T = str (dec a.num.natAbs) := ⟨_, rfl⟩
 obtain ⟨D, hD⟩ : ∃ D, D = str (dec a.den) := ⟨_, rfl⟩
 rw [← hT]
 have hTl : T.length ≤ 300001 := by rw [hT]; exact dec_limbsK hla1 (by omega)
 have hDl : D.length ≤ 300001 := by rw [hD]; exact dec_limbsK hla2 (by omega)
 have HT := Lib.hid hT.symm; clear hT
 have HDD := Lib.hid hD.symm; clear hD
 have hcmp : (cmpI a.den 1 != 0) = !decide (a.den = 1) := by
  unfold cmpI; by_cases h1 : a.den < 1 <;> by_cases h2 : 1 < a.den <;> simp [h1, h2] <;> omega
 have HCM := Lib.hid hcmp; clear hcmp
 cases aB
 case false =>
  obtain ⟨w2, hwE⟩ : ∃ W, W = (w1.alloc (.cells #[.int .i64 1] 3)) := ⟨_, rfl⟩
  have hb : Below w1.heap.size w1 w2 := by rw [hwE]; exact ((Below.refl _ w1).alloc (Nat.le_refl _) _)
  obtain ⟨oP, hpo⟩ : ∃ p, p = w1.heap.size := ⟨_, rfl⟩
  have ho : RIs w2 (.slice (some ⟨oP, 0, none⟩) 1 1) 1 := by rw [hwE, hpo]; exact (one_is w1 (x := 1) (by omega) (by omega))
  have ea0 := hba.c0
  have ea1 := hba.c1
  have ea2 := hba.c2
  have HW := Lib.hid hwE; clear hwE
  go_wp2_with fail
  rw [← HW.out, ← hpo]
  clear hpo HW
  clear ea0 ea1 ea2
  replace hba := hba.kept hb
  replace ha := ha.below hb
  replace hax := hax.below hb
  replace hay := hay.below hb
  replace hbf := hbf.trans (hb.mono hbf.size)
  clear hb
  refine (rcmp_any _ _ a.den 1 _ hay ho).mono ?_
  rintro e w3 ⟨rfl, hb⟩
  replace hba := hba.kept hb
  replace ha := ha.below hb
  replace hax := hax.below hb
  replace hay := hay.below hb
  replace ho := ho.below hb
  replace hbf := hbf.trans (hb.mono hbf.size)
  clear hb
  by_cases h1 : a.den = 1
  case pos =>
   have hc0 : cmpI a.den 1 = 0 := by rw [h1]; rfl
   rw [hc0]
   have hq := qb_pw HaS h1
   rw [HT.out] at hq
   have HQ := Lib.hid hq; clear hq h1 hc0
   go_wp2_with fail
   go_ret
   exact ⟨ret_one (by rw [← HQ.out]; rfl), hbf⟩
  obtain ⟨c9, hc9⟩ : ∃ c, c = cmpI a.den 1 := ⟨_, rfl⟩
  rw [← hc9]
  have hcn : (c9 != 0) = true := by rw [hc9, HCM.out, decide_eq_false h1]; rfl
  have hcn2 : (c9 == 0) = false := by simpa using hcn
  have hcn3 : ¬ c9 = 0 := by simpa using hcn
  clear hc9
  have hq := qb_pf2 HaS h1
  rw [HT.out, HDD.out] at hq
  have HQ := Lib.hid hq; clear hq
  clear h1
  have ea0 := hba.c0
  have ea1 := hba.c1
  have ea2 := hba.c2
  go_wp2_with fail
  refine (rtext_any _ a.den _ hay (by omega)).mono ?_
  rintro e w4 ⟨rfl, hb⟩
  clear ea0 ea1 ea2
  replace hba := hba.kept hb
  replace ha := ha.below hb
  replace hax := hax.below hb
  replace hay := hay.below hb
  replace ho := ho.below hb
  replace hbf := hbf.trans (hb.mono hbf.size)
  clear hb
  rw [HDD.out]
  go_wp2_with fail
  go_ret
  exact ⟨ret_one (by rw [← HQ.out]; rfl), hbf⟩
 case true =>
  obtain ⟨w2, hwE⟩ : ∃ W, W = (w1.alloc (.cells #[.int .i64 1] 3)) := ⟨_, rfl⟩
  have hb : Below w1.heap.size w1 w2 := by rw [hwE]; exact ((Below.refl _ w1).alloc (Nat.le_refl _) _)
  obtain ⟨oP, hpo⟩ : ∃ p, p = w1.heap.size := ⟨_, rfl⟩
  have ho : RIs w2 (.slice (some ⟨oP, 0, none⟩) 1 1) 1 := by rw [hwE, hpo]; exact (one_is w1 (x := 1) (by omega) (by omega))
  have ea0 := hba.c0
  have ea1 := hba.c1
  have ea2 := hba.c2
  have HW := Lib.hid hwE; clear hwE
  go_wp2_with fail
  rw [← HW.out, ← hpo]
  clear hpo HW
  clear ea0 ea1 ea2
  replace hba := hba.kept hb
  replace ha := ha.below hb
  replace hax := hax.below hb
  replace hay := hay.below hb
  replace hbf := hbf.trans (hb.mono hbf.size)
  clear hb
  refine (rcmp_any _ _ a.den 1 _ hay ho).mono ?_
  rintro e w3 ⟨rfl, hb⟩
  replace hba := hba.kept hb
  replace ha := ha.below hb
  replace hax := hax.below hb
  replace hay := hay.below hb
  replace ho := ho.below hb
  replace hbf := hbf.trans (hb.mono hbf.size)
  clear hb
  by_cases h1 : a.den = 1
  case pos =>
   have hc0 : cmpI a.den 1 = 0 := by rw [h1]; rfl
   rw [hc0]
   have hq := qb_nw HaS h1
   rw [HT.out] at hq
   have HQ := Lib.hid hq; clear hq h1 hc0
   go_wp2_with fail
   go_ret
   exact ⟨ret_one (by rw [← HQ.out]; rfl), hbf⟩
  obtain ⟨c9, hc9⟩ : ∃ c, c = cmpI a.den 1 := ⟨_, rfl⟩
  rw [← hc9]
  have hcn : (c9 != 0) = true := by rw [hc9, HCM.out, decide_eq_false h1]; rfl
  have hcn2 : (c9 == 0) = false := by simpa using hcn
  have hcn3 : ¬ c9 = 0 := by simpa using hcn
  clear hc9
  have hq := qb_nf2 HaS h1
  rw [HT.out, HDD.out] at hq
  have HQ := Lib.hid hq; clear hq
  clear h1
  have ea0 := hba.c0
  have ea1 := hba.c1
  have ea2 := hba.c2
  go_wp2_with fail
  refine (rtext_any _ a.den _ hay (by omega)).mono ?_
  rintro e w4 ⟨rfl, hb⟩
  clear ea0 ea1 ea2
  replace hba := hba.kept hb
  replace ha := ha.below hb
  replace hax := hax.below hb
  replace hay := hay.below hb
  replace ho := ho.below hb
  replace hbf := hbf.trans (hb.mono hbf.size)
  clear hb
  rw [HDD.out]
  go_wp2_with fail
  go_ret
  exact ⟨ret_one (by rw [← HQ.out]; rfl), hbf⟩
end Go.Proofs.YtcpfanpcdkoiaaaGreatDoor

namespace Go.Proofs.YtcpfanpcdkoiaaaGreatDoor
open Go.RowKit


attribute [local go_sem] field_nat
theorem str3 : str (dec 3) = [51] := str_dec (l := [51]) (by decide)
theorem str2 : str (dec 2) = [50] := str_dec (l := [50]) (by decide)
theorem dec_small {n : Nat} (h : n < 10) : (dec n).length ≤ 1200 := Nat.le_trans (dec_le (k := 1) (by omega) (by decide)) (by omega)
theorem QB.small {neg : Bool} {n d k : Nat} (hn : n < 4294967296) (hd : d < 4294967296) (h0 : 0 < d) (hk : 1 ≤ k) : QB (qOf neg n d) k := QB.of _ (limbs_bound hn hk) (limbs_bound hd hk) h0
theorem QB.int {v : Int} {k : Nat} (h : v.natAbs < 18446744073709551616) (hk : 2 ≤ k) : QB (v : Rat) k := by
 have hl : (limbs v.natAbs).length ≤ k := Nat.le_trans (limbs_length_le (k := 2) (by omega)) hk
 rcases (show v < 0 ∨ 0 ≤ v by omega) with h0 | h0
 ·rw [← of_neg v h0]; exact QB.of _ hl (limbs_bound (by decide) (by omega)) (by decide)
 ·rw [← of_pos v h0]; exact QB.of _ hl (limbs_bound (by decide) (by omega)) (by decide)
end Go.Proofs.YtcpfanpcdkoiaaaGreatDoor

namespace Go.Proofs.YtcpfanpcdkoiaaaGreatDoor
open Go.RowKit

section
variable {ops : Array Oper}
structure Rel (ops : Array Oper) (listed : Array Bool) (m : Nat) : Prop where
 size : listed.size = ops.size
 bit : ∀ j, listed.getD j false = m.testBit j
theorem Rel.set {listed : Array Bool} {m i : Nat} (h : Rel ops listed m) (hi : i < ops.size) : Rel ops (listed.setIfInBounds i true) (m ||| 2 ^ i) := by
 refine ⟨by simpa using h.size, fun j => ?_⟩
 rw [Nat.testBit_or, Nat.testBit_two_pow, ← h.bit]
 simp only [Array.getD_eq_getD_getElem?, Array.getElem?_setIfInBounds]
 split
 ·rename_i e; subst e
  rw [if_pos (by rw [h.size]; exact hi)]; simp
 ·rename_i e; simp [e]
variable {P : Program} {Q : Exit → Act → World → Prop} {S : World → Prop}
end
end Go.Proofs.YtcpfanpcdkoiaaaGreatDoor

namespace Go.Proofs
open Go.Shelf
def Tryz.laysM316_ren : Go.Shelf.Ren := ⟨fun | 316 => 166 | n => n, fun | 9 => 9 | 3 => 3 | 4 => 4 | 37 => 214 | 0 => 0 | 127 => 248 | 5 => 5 | n => n, fun | n => n⟩
theorem Tryz.laysM316 : Go.Proofs.LaysM.n316 Tryz.prog Tryz.laysM316_ren := {
 mixed := by kernel_rfl
 f316 := Tryz.func166.trans (congrArg some (by kernel_rfl))
 t0 := Tryz.underlying0
 a0 := Tryz.isAgg0
 z0 := Tryz.sizeOf0
 v0 := Tryz.zeroValue0
 t3 := Tryz.underlying3
 a3 := Tryz.isAgg3
 z3 := Tryz.sizeOf3
 v3 := Tryz.zeroValue3
 t4 := Tryz.underlying4
 a4 := Tryz.isAgg4
 z4 := Tryz.sizeOf4
 v4 := Tryz.zeroValue4
 t9 := Tryz.underlying9
 a9 := Tryz.isAgg9
 z9 := Tryz.sizeOf9
 v9 := Tryz.zeroValue9
 t37 := Tryz.underlying214
 a37 := Tryz.isAgg214
 z37 := Tryz.sizeOf214
 v37 := Tryz.zeroValue214
 t127 := Tryz.underlying248
 a127 := Tryz.isAgg248
 z127 := Tryz.sizeOf248
 v127 := Tryz.zeroValue248
 t5 := Tryz.underlying5
 a5 := Tryz.isAgg5
 z5 := Tryz.sizeOf5
 v5 := Tryz.zeroValue5
 i0 := by kernel_rfl
 i3 := by kernel_rfl
 i4 := by kernel_rfl
 i5 := by kernel_rfl
 i9 := by kernel_rfl
 i37 := by kernel_rfl
 i127 := by kernel_rfl }
open Go.RowKit
theorem Tryz.stringslite_Clone (s : ByteArray) (w : World) (hlim : s.size ≤ 281474976710656) :
  Calls Tryz.prog 166 #[.string s] w fun e w' => e = .returned (.string s) ∧ Below w.heap.size w w' := Any.stringslite_Clone Tryz.laysM316 s w hlim
end Go.Proofs

namespace Go.Proofs.YtcpfanpcdkoiaaaGreatDoor
open Go.RowKit


def roomL : Int → List Nat → Int
 | n, [] => n
 | n, k :: ks => if n < 0 ∨ n < (k : Int) then -1 else roomL (n - k) ks
theorem roomL_drop {n : Int} {ks : List Nat} {i : Nat} (hi : i < ks.length) : roomL n (ks.drop i) = if n < 0 ∨ n < ((ks[i]?.getD 0 : Nat) : Int) then -1 else roomL (n - (ks[i]?.getD 0 : Nat)) (ks.drop (i + 1)) := by
 rw [List.drop_eq_getElem_cons hi, List.getElem?_eq_getElem hi]; rfl
set_option maxHeartbeats 1000000 in
theorem room_any (n : Int) (ao : Option Addr) (cap : Nat) (ks : List Nat) (w : World) (hn : -1 ≤ n) (hn2 : n ≤ 1000000000) (hc : Cells .i64 w ao ks) (hlen : ks.length ≤ 1000000) :
  Calls Tryz.prog 31 #[.int .i64 n, .slice ao ks.length cap] w fun e w' => e = .returned (.int .i64 (roomL n ks)) ∧ w = w' := by
 go_enter Tryz.func31, Tryz.ntmps31
 go_wp2_with fail
 go_loopg [0, 5] ks.length (fun gg nv iv wr => ∃ (m : Int) (i : Nat), i + gg = ks.length ∧ iv = .int .i64 (i : Int) ∧ nv = .int .i64 m ∧ -1 ≤ m ∧ m ≤ 1000000000 ∧ roomL m (ks.drop i) = roomL n ks ∧ w = wr)
 case atStart => exact ⟨n, 0, by omega, rfl, rfl, hn, hn2, rfl, rfl⟩
 case round =>
  obtain ⟨m, i, hi, rfl, rfl, hm1, hm2, hr, rfl⟩ := hrel
  by_cases hil : i < ks.length
  ·rcases hc with h | ⟨b, off, rfl, hb, hcell⟩
   ·rw [h] at hil; simp at hil
   have c1 := hcell i hil
   have hd := roomL_drop (n := m) hil
   rw [hd] at hr
   have q1 : (0 : Int) ≤ (i : Int) := by omega
   have q2 : (i : Int) < (ks.length : Int) := by omega
   generalize ks[i]?.getD 0 = k at *
   have HR := Lib.hid hr
   clear hr hd hcell
   by_cases hneg : m < 0
   ·have HN := Lib.hid (show roomL n ks = -1 by rw [← HR.out, if_pos (.inl hneg)])
    go_wp2_with fail
    go_ret
    exact ⟨ret_one (by rw [HN.out]; rfl), rfl⟩
   ·by_cases hlt : m < (k : Int)
    ·have HN := Lib.hid (show roomL n ks = -1 by rw [← HR.out, if_pos (.inr hlt)])
     go_wp2_with fail
     go_ret
     exact ⟨ret_one (by rw [HN.out]; rfl), rfl⟩
    ·have HN := Lib.hid (show roomL (m - k) (ks.drop (i + 1)) = roomL n ks by rw [← HR.out, if_neg (by omega)])
     go_wp2_with fail
     go_roundg (gk - 1)
     case measure => omega
     case rel => exact ⟨m - k, i + 1, by omega, by go_num, rfl, by omega, by omega, HN.out, rfl⟩
  ·have hd : ks.drop i = [] := List.drop_of_length_le (by omega)
   rw [hd] at hr
   have HR := Lib.hid hr
   clear hr hd
   go_wp2_with fail
   go_ret
   exact ⟨ret_one (by rw [← HR.out]; rfl), rfl⟩
end Go.Proofs.YtcpfanpcdkoiaaaGreatDoor
