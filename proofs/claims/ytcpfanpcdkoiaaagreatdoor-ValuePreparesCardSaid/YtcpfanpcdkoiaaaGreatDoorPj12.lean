/-
  Pj12: DecB (what is needed of them).
-/
import Derived.Test.YtcpfanpcdkoiaaaGreatDoorPj11
import Derived.Deep.DeepCutAuto
import Derived.WalkMore
import Derived.Laws.StructEq
set_option maxRecDepth 100000
set_option linter.unusedVariables false
set_option linter.unusedSimpArgs false

namespace Go.Proofs.YtcpfanpcdkoiaaaGreatDoor
open Go.RowKit


attribute [local go_sem] field_nat
theorem Box5.put0 {w : World} {b : Nat} {x0 x1 x2 x3 x4 : Value} (h : Box5 w b x0 x1 x2 x3 x4) (u : Value) : Box5 (w.setCell ⟨b, 0, none⟩ u) b u x1 x2 x3 x4 := by
 have e0 := h.c0
 have g0 := h.f0
 have e1 := h.c1
 have g1 := h.f1
 have e2 := h.c2
 have g2 := h.f2
 have e3 := h.c3
 have g3 := h.f3
 have e4 := h.c4
 have g4 := h.f4
 exact ⟨by go_simp, by go_simp, by go_simp, by go_simp, by go_simp, by go_simp, by go_simp, by go_simp, by go_simp, by go_simp⟩
theorem Box5.put1 {w : World} {b : Nat} {x0 x1 x2 x3 x4 : Value} (h : Box5 w b x0 x1 x2 x3 x4) (u : Value) : Box5 (w.setCell ⟨b, 1, none⟩ u) b x0 u x2 x3 x4 := by
 have e0 := h.c0
 have g0 := h.f0
 have e1 := h.c1
 have g1 := h.f1
 have e2 := h.c2
 have g2 := h.f2
 have e3 := h.c3
 have g3 := h.f3
 have e4 := h.c4
 have g4 := h.f4
 exact ⟨by go_simp, by go_simp, by go_simp, by go_simp, by go_simp, by go_simp, by go_simp, by go_simp, by go_simp, by go_simp⟩
theorem Box5.put2 {w : World} {b : Nat} {x0 x1 x2 x3 x4 : Value} (h : Box5 w b x0 x1 x2 x3 x4) (u : Value) : Box5 (w.setCell ⟨b, 2, none⟩ u) b x0 x1 u x3 x4 := by
 have e0 := h.c0
 have g0 := h.f0
 have e1 := h.c1
 have g1 := h.f1
 have e2 := h.c2
 have g2 := h.f2
 have e3 := h.c3
 have g3 := h.f3
 have e4 := h.c4
 have g4 := h.f4
 exact ⟨by go_simp, by go_simp, by go_simp, by go_simp, by go_simp, by go_simp, by go_simp, by go_simp, by go_simp, by go_simp⟩
theorem Box5.put3 {w : World} {b : Nat} {x0 x1 x2 x3 x4 : Value} (h : Box5 w b x0 x1 x2 x3 x4) (u : Value) : Box5 (w.setCell ⟨b, 3, none⟩ u) b x0 x1 x2 u x4 := by
 have e0 := h.c0
 have g0 := h.f0
 have e1 := h.c1
 have g1 := h.f1
 have e2 := h.c2
 have g2 := h.f2
 have e3 := h.c3
 have g3 := h.f3
 have e4 := h.c4
 have g4 := h.f4
 exact ⟨by go_simp, by go_simp, by go_simp, by go_simp, by go_simp, by go_simp, by go_simp, by go_simp, by go_simp, by go_simp⟩
theorem Box5.put4 {w : World} {b : Nat} {x0 x1 x2 x3 x4 : Value} (h : Box5 w b x0 x1 x2 x3 x4) (u : Value) : Box5 (w.setCell ⟨b, 4, none⟩ u) b x0 x1 x2 x3 u := by
 have e0 := h.c0
 have g0 := h.f0
 have e1 := h.c1
 have g1 := h.f1
 have e2 := h.c2
 have g2 := h.f2
 have e3 := h.c3
 have g3 := h.f3
 have e4 := h.c4
 have g4 := h.f4
 exact ⟨by go_simp, by go_simp, by go_simp, by go_simp, by go_simp, by go_simp, by go_simp, by go_simp, by go_simp, by go_simp⟩
theorem load_lit {w : World} {b : Nat} {x0 x1 x2 x3 x4 : Value} (h : Box5 w b x0 x1 x2 x3 x4) : (loadVar 200 ⟨b, 0, none⟩).run Tryz.prog w = .ok (.agg #[x0, x1, x2, x3, x4]) w := by
 have h0 := h.c0
 have h1 := h.c1
 have h2 := h.c2
 have h3 := h.c3
 have h4 := h.c4
 simp [go_sem, h0, h1, h2, h3, h4]
theorem ret_lit_tmp {fn : Func} {s t : Nat} {R : Ending → World → Prop} {a : Act} {w : World} {b : Nat} {x0 x1 x2 x3 x4 u : Value} (hres : fn.results = #[.cell s 200, .tmp t]) (hp : a.tmps.getD s undef = .pointer (some ⟨b, 0, none⟩)) (hu : a.tmps.getD t undef = u) (hc : Box5 w b x0 x1 x2 x3 x4) (hd : a.defers = []) (hR : R (.returned (.tuple #[.agg #[x0, x1, x2, x3, x4], u])) w) : bodyPost Tryz.prog fn R .ret a w := by
 refine bodyPost_ret (v := .tuple #[.agg #[x0, x1, x2, x3, x4], u]) ?_ hd hR
 rw [results_cell_tmp hres, hp, hu]
 simp [asAddr, load_lit hc]
theorem nil_beq {l : List UInt8} (h : l ≠ []) : (l == []) = false := by rw [beq_eq_false_iff_ne]; exact h
abbrev litV (l : List UInt8) : Value := .agg #[.bool (sneg l), .string ⟨(lall l).toArray⟩, .int .i64 ((lbehind l).length : Nat), .bool (xneg l), .string ⟨(xdig l).toArray⟩]
theorem lman_take (l : List UInt8) : (srest l).take (lman l).length = lman l := by
 have h : srest l = lman l ++ (srest l).dropWhile (fun c => !isE c) := (List.takeWhile_append_dropWhile).symm
 generalize (srest l).dropWhile (fun c => !isE c) = t at h
 rw [h]; simp
theorem noE_of {l : List UInt8} (h : hasE l = false) : lman l = srest l ∧ ∀ i, i < (srest l).length → isE ((srest l)[i]?.getD 0) = false := by
 have h1 : (srest l).all (fun c => !isE c) = true := by
  rw [List.all_eq_true]
  intro c hc
  have := List.any_eq_false.1 h c hc
  simpa using this
 refine ⟨(tw_all _ _ h1).1, fun i hi => ?_⟩
 have := List.all_eq_true.1 h1 _ (List.getElem_mem hi)
 rw [List.getElem?_eq_getElem hi]
 simpa using this
theorem lit_split {l : List UInt8} (h : hasE l = true) : ∃ c : UInt8, (lman l).length < (srest l).length ∧ isE ((srest l)[(lman l).length]?.getD 0) = true ∧ (∀ i, i < (lman l).length → isE ((srest l)[i]?.getD 0) = false) ∧ lexp l = (srest l).drop ((lman l).length + 1) := by
 unfold lexp lman hasE at *
 generalize srest l = s at *
 induction s with
 | nil => cases h
 | cons c s ih =>
  by_cases hc : isE c = true
  ·exact ⟨c, by simp [hc], by simp [hc], by simp [hc], by simp [hc]⟩
  ·have hc' : isE c = false := by simpa using hc
   simp only [List.any_cons, hc', Bool.false_or] at h
   obtain ⟨d, h1, h2, h3, h4⟩ := ih h
   have e1 : (c :: s).takeWhile (fun c => !isE c) = c :: s.takeWhile (fun c => !isE c) := by simp [List.takeWhile_cons, hc']
   have e2 : (c :: s).dropWhile (fun c => !isE c) = s.dropWhile (fun c => !isE c) := by simp [List.dropWhile_cons, hc']
   rw [e1, e2]
   refine ⟨d, by simp only [List.length_cons]; omega, by simpa using h2, ?_, by simpa using h4⟩
   intro i hi
   cases i with
   | zero => simpa using hc'
   | succ i => simpa using h3 i (by simp only [List.length_cons] at hi; omega)
theorem notE_bytes {c : UInt8} (h : isE c = false) : ((c.toNat : Int) == 101) = false ∧ ((c.toNat : Int) == 69) = false := by
 simp only [isE, Bool.or_eq_false_iff, beq_eq_false_iff_ne] at h
 refine ⟨?_, ?_⟩
 ·rw [beq_eq_false_iff_ne]; intro e; apply h.1; rw [← UInt8.toNat_inj]; show c.toNat = 101; omega
 ·rw [beq_eq_false_iff_ne]; intro e; apply h.2; rw [← UInt8.toNat_inj]; show c.toNat = 69; omega
theorem isE_two {c : UInt8} (h : isE c = true) : c = 101 ∨ c = 69 := by simpa [isE] using h
def CutPost (w : World) (l : List UInt8) (e : Ending) (w' : World) : Prop := e = .returned (.tuple #[litV l, .bool (litIs l)]) ∧ Below w.heap.size w w'
set_option maxHeartbeats 1000000 in
theorem cut_no (l : List UInt8) (w : World) (hl : l.length ≤ 1000) (hE : hasE l = false) : Calls Tryz.prog 161 #[.string ⟨l.toArray⟩] w (CutPost w l) := by
 have hsl := srest_le l
 have HE := Lib.hid hE; clear hE
 obtain ⟨w0, hw0⟩ : ∃ w0, w0 = (w.alloc (.cells #[.bool false, .string ⟨#[]⟩, .int .i64 0, .bool false, .string ⟨#[]⟩] 200)) := ⟨_, rfl⟩
 have hbf : Below w.heap.size w w0 := by rw [hw0]; exact ((Below.refl _ w).alloc (Nat.le_refl _) _)
 obtain ⟨pr, hpr⟩ : ∃ p, p = w.heap.size := ⟨_, rfl⟩
 have hbr : Box5 w0 pr (Value.bool false) (Value.string ⟨#[]⟩) (Value.int .i64 0) (Value.bool false) (Value.string ⟨#[]⟩) := by rw [hw0, hpr]; exact ⟨by go_simp, by go_simp, by go_simp, by go_simp, by go_simp, by go_simp, by go_simp, by go_simp, by go_simp, by go_simp⟩
 have HP : Hid (w.heap.size ≤ pr) := Lib.hid (by omega)
 have HW := Lib.hid hw0; clear hw0
 go_enter Tryz.func161, Tryz.ntmps161
 go_upto_region 1 with fail
 rw [← HW.out, ← hpr]
 clear hpr HW
 go_step3
 obtain ⟨w1, hwE⟩ : ∃ W, W = (w0.alloc (.cells #[.bool false, .string ⟨#[]⟩, .int .i64 0, .bool false, .string ⟨#[]⟩] 200)) := ⟨_, rfl⟩
 have hb : Below w0.heap.size w0 w1 := by rw [hwE]; exact ((Below.refl _ w0).alloc (Nat.le_refl _) _)
 obtain ⟨pl, hpl⟩ : ∃ p, p = w0.heap.size := ⟨_, rfl⟩
 have hbl : Box5 w1 pl (Value.bool false) (Value.string ⟨#[]⟩) (Value.int .i64 0) (Value.bool false) (Value.string ⟨#[]⟩) := by rw [hwE, hpl]; exact ⟨by go_simp, by go_simp, by go_simp, by go_simp, by go_simp, by go_simp, by go_simp, by go_simp, by go_simp, by go_simp⟩
 replace HP : Hid (w.heap.size ≤ pr ∧ pr < pl) := Lib.hid (by have h1 := HP.out; have h9 := hbf.size; have h2r := hbr.lt; omega)
 have HW := Lib.hid hwE; clear hwE
 go_wp2_with fail
 rw [← HW.out, ← hpl]
 clear hpl HW
 replace hbr := hbr.kept hb
 replace hbf := hbf.trans (hb.mono hbf.size)
 clear hb
 refine (sign_any l _ (by omega)).mono ?_
 rintro e w2 ⟨rfl, hb⟩
 replace hbr := hbr.kept hb
 replace hbl := hbl.kept hb
 replace hbf := hbf.trans (hb.mono hbf.size)
 clear hb
 have el0 := hbl.c0
 have fl0 := hbl.f0
 have el1 := hbl.c1
 have fl1 := hbl.f1
 have el2 := hbl.c2
 have fl2 := hbl.f2
 have el3 := hbl.c3
 have fl3 := hbl.f3
 have el4 := hbl.c4
 have fl4 := hbl.f4
 go_upto_region 3 with fail
 clear el0 fl0 el1 fl1 el2 fl2 el3 fl3 el4 fl4
 obtain ⟨w3, hwE⟩ : ∃ W, W = w2.setCell ⟨pl, 0, none⟩ (Value.bool (sneg l)) := ⟨_, rfl⟩
 rw [← hwE]
 replace hbr := hbr.setOther (show pr ≠ pl by have := HP.out; omega) 0 (Value.bool (sneg l)); rw [← hwE] at hbr
 replace hbf := hbf.setCell (p := ⟨pl, 0, none⟩) (show w.heap.size ≤ pl by have := HP.out; omega) (Value.bool (sneg l)); rw [← hwE] at hbf
 replace hbl := hbl.put0 (Value.bool (sneg l)); rw [← hwE] at hbl; clear hwE
 obtain ⟨s, hs⟩ : ∃ s, s = srest l := ⟨_, rfl⟩
 obtain ⟨m, hm⟩ : ∃ m, m = lman l := ⟨_, rfl⟩
 have HM := Lib.hid hm
 have HS := Lib.hid hs
 rw [← hs] at hsl ⊢
 have hml : m.length ≤ 9223372036854775807 := by rw [hm]; have := lman_le l; omega
 have hms : m = s := by rw [hm, hs]; exact (noE_of HE.out).1
 subst hms
 have HNE : Hid (∀ i, i < m.length → isE (m[i]?.getD 0) = false) := Lib.hid (by rw [hs]; exact (noE_of HE.out).2)
 have hx1 : (⟨m.toArray⟩ : ByteArray).extract 0 m.length = ⟨m.toArray⟩ := by rw [bytes_extract]; simp
 clear hm hs
 go_wp2_with fail
 go_step3
 (try go_wp2_with fail)
 go_loopg [5, 20] m.length (fun gg av iv wr => ∃ i : Nat, i + gg = m.length ∧ av = .int .i64 (m.length : Nat) ∧ iv = .int .i64 i ∧ w3 = wr)
 case atStart => exact ⟨0, by omega, rfl, rfl, rfl⟩
 case round =>
  obtain ⟨i, hi, rfl, rfl, rfl⟩ := hrel
  by_cases hil : i < m.length
  case pos =>
   have hil2 : i < m.length := by omega
   have hby := byte_at m i hil2 (by simpa [ByteArray.size] using hil2)
   have hne9 := notE_bytes (HNE.out i hil)
   obtain ⟨hn1, hn2⟩ := hne9
   generalize m[i]?.getD 0 = c at *
   go_wp2_with fail
   go_roundg (gk - 1)
   case measure => omega
   case rel => exact ⟨i + 1, by omega, rfl, by go_num, rfl⟩
  case neg =>
   obtain rfl : i = m.length := by omega
   have el0 := hbl.c0
   have el1 := hbl.c1
   have el2 := hbl.c2
   have el3 := hbl.c3
   have el4 := hbl.c4
   go_wp2_with fail
   refine (pcutat_any m _ hml).mono ?_
   rintro e w4 ⟨rfl, hb⟩
   clear el0 el1 el2 el3 el4
   replace hbr := hbr.kept hb
   replace hbl := hbl.kept hb
   replace hbf := hbf.trans (hb.mono hbf.size)
   clear hb
   obtain ⟨a, ha⟩ : ∃ a, a = pAt m := ⟨_, rfl⟩
   obtain ⟨b9, hb9⟩ : ∃ b, b = pOn m := ⟨_, rfl⟩
   rw [← ha, ← hb9]
   have hA : lall l = a ++ b9 := by rw [ha, hb9, HM.out]; rfl
   have hB : (lbehind l).length = b9.length := by rw [hb9, HM.out]; rfl
   have HBL := Lib.hid hB
   have hlb : b9.length ≤ 100000 := by rw [← HBL.out]; have h1 := lbehind_le l; have h2 := lall_le l; have h3 := lman_le l; omega
   have hla : a.length ≤ 100000 := by have h1 : (lall l).length = a.length + b9.length := (by rw [hA, List.length_append]); have h2 := lall_le l; have h3 := lman_le l; omega
   clear ha hb9 hB
   obtain ⟨A, hA2⟩ : ∃ A, A = a ++ b9 := ⟨_, rfl⟩
   have hap : (⟨a.toArray⟩ ++ ⟨b9.toArray⟩ : ByteArray) = ⟨A.toArray⟩ := by rw [hA2]; exact bytes_append a b9
   rw [← hA2] at hA
   have HA := Lib.hid hA
   clear hA hA2
   have el0 := hbl.c0
   have fl0 := hbl.f0
   have el1 := hbl.c1
   have fl1 := hbl.f1
   have el2 := hbl.c2
   have fl2 := hbl.f2
   have el3 := hbl.c3
   have fl3 := hbl.f3
   have el4 := hbl.c4
   have fl4 := hbl.f4
   go_upto_region 14 with fail
   clear el0 fl0 el1 fl1 el2 fl2 el3 fl3 el4 fl4
   obtain ⟨w5, hwE⟩ : ∃ W, W = w4.setCell ⟨pl, 1, none⟩ (Value.string ⟨A.toArray⟩) := ⟨_, rfl⟩
   rw [← hwE]
   replace hbr := hbr.setOther (show pr ≠ pl by have := HP.out; omega) 1 (Value.string ⟨A.toArray⟩); rw [← hwE] at hbr
   replace hbf := hbf.setCell (p := ⟨pl, 1, none⟩) (show w.heap.size ≤ pl by have := HP.out; omega) (Value.string ⟨A.toArray⟩); rw [← hwE] at hbf
   replace hbl := hbl.put1 (Value.string ⟨A.toArray⟩); rw [← hwE] at hbl; clear hwE
   obtain ⟨w6, hwE⟩ : ∃ W, W = w5.setCell ⟨pl, 2, none⟩ (Value.int .i64 (b9.length : Nat)) := ⟨_, rfl⟩
   rw [← hwE]
   replace hbr := hbr.setOther (show pr ≠ pl by have := HP.out; omega) 2 (Value.int .i64 (b9.length : Nat)); rw [← hwE] at hbr
   replace hbf := hbf.setCell (p := ⟨pl, 2, none⟩) (show w.heap.size ≤ pl by have := HP.out; omega) (Value.int .i64 (b9.length : Nat)); rw [← hwE] at hbf
   replace hbl := hbl.put2 (Value.int .i64 (b9.length : Nat)); rw [← hwE] at hbl; clear hwE
   obtain ⟨w7, hwE⟩ : ∃ W, W = w6.setCell ⟨pl, 4, none⟩ (Value.string ⟨#[48]⟩) := ⟨_, rfl⟩
   rw [← hwE]
   replace hbr := hbr.setOther (show pr ≠ pl by have := HP.out; omega) 4 (Value.string ⟨#[48]⟩); rw [← hwE] at hbr
   replace hbf := hbf.setCell (p := ⟨pl, 4, none⟩) (show w.heap.size ≤ pl by have := HP.out; omega) (Value.string ⟨#[48]⟩); rw [← hwE] at hbf
   replace hbl := hbl.put4 (Value.string ⟨#[48]⟩); rw [← hwE] at hbl; clear hwE
   have hlA : A.length ≤ 100000 := by rw [← HA.out]; have h2 := lall_le l; have h3 := lman_le l; omega
   obtain ⟨X, hX⟩ : ∃ X : List UInt8, X = [48] := ⟨_, rfl⟩
   have hx0 : (⟨#[48]⟩ : ByteArray) = ⟨X.toArray⟩ := by rw [hX]
   have hxd : xdig l = X := by rw [hX]; unfold xdig; rw [HE.out]; rfl
   have HXD := Lib.hid hxd
   have HXN : Hid (xneg l = false) := Lib.hid (by unfold xneg; rw [HE.out]; rfl)
   have hlX : X.length ≤ 100000 := by rw [hX]; decide
   rw [hx0] at hbl
   clear hxd hx0 hX
   go_upto_region 16 with fail
   clear hap
   by_cases h1 : A = []
   case pos =>
    have HIS : Hid (litIs l = false) := Lib.hid (by unfold litIs; rw [HA.out, h1]; rfl)
    subst h1
    refine wp_region_seq (S := fun w' => Box5 w' pl (Value.bool (sneg l)) (Value.string ⟨(List.nil : List UInt8).toArray⟩) (Value.int .i64 (b9.length : Nat)) (Value.bool false) (Value.string ⟨X.toArray⟩)) [(true, 0), (true, 1), (true, 2), (true, 3), (true, 4), (true, 5), (true, 6), (true, 7), (true, 8), (true, 9), (true, 10), (true, 11), (false, 12), (true, 13), (true, 14), (true, 15), (true, 16), (false, 17), (true, 18), (false, 19), (true, 20)] (by kernel_rfl) (by kernel_rfl) (by kernel_rfl) (by kernel_rfl) (by kernel_rfl) (fun d _ _ _ _ h => by cases d <;> exact h) hbl.drew (fun _ => ?_)
    simp only [pickOps, List.append_eq, List.cons_append, List.nil_append, List.getElem?_toArray, List.getElem?_cons_succ, List.getElem?_cons_zero]
    have hb : Below w7.heap.size w7 w7.drew := (Below.refl _ _).drew
    generalize w7.drew = w8 at hb ⊢
    replace hbr := hbr.kept hb
    replace hbl := hbl.kept hb
    replace hbf := hbf.trans (hb.mono hbf.size)
    clear hb
    repeat (first | (refine seq_take (v := ?_) (by rfl) ?_ ?_; rotate_left; (· intro w hSw; (try dsimp only at hSw); obtain ⟨el0, el1, el2, el3, el4, _, _, _, _, _⟩ := hSw; go_simp; all_goals with_reducible rfl); (try simp only [Act.put, List.setIfInBounds_toArray, List.set_cons_zero, List.set_cons_succ])) | (refine seq_leave (by rfl) ?_; (try simp only [Act.put, List.setIfInBounds_toArray, List.set_cons_zero, List.set_cons_succ])))
    refine seq_pass (by rfl) hbl ?_
    (try simp only [Act.put, List.setIfInBounds_toArray, List.set_cons_zero, List.set_cons_succ])
    repeat (first | (refine seq_take (v := ?_) (by rfl) ?_ ?_; rotate_left; (· intro w hSw; (try dsimp only at hSw); obtain ⟨el0, el1, el2, el3, el4, _, _, _, _, _⟩ := hSw; go_simp; all_goals with_reducible rfl); (try simp only [Act.put, List.setIfInBounds_toArray, List.set_cons_zero, List.set_cons_succ])) | (refine seq_leave (by rfl) ?_; (try simp only [Act.put, List.setIfInBounds_toArray, List.set_cons_zero, List.set_cons_succ])))
    refine seq_pass (by rfl) hbl ?_
    (try simp only [Act.put, List.setIfInBounds_toArray, List.set_cons_zero, List.set_cons_succ])
    repeat (first | (refine seq_take (v := ?_) (by rfl) ?_ ?_; rotate_left; (· intro w hSw; (try dsimp only at hSw); obtain ⟨el0, el1, el2, el3, el4, _, _, _, _, _⟩ := hSw; go_simp; all_goals with_reducible rfl); (try simp only [Act.put, List.setIfInBounds_toArray, List.set_cons_zero, List.set_cons_succ])) | (refine seq_leave (by rfl) ?_; (try simp only [Act.put, List.setIfInBounds_toArray, List.set_cons_zero, List.set_cons_succ])))
    refine seq_step (by rfl) (fun K hK => ?_)
    have er0 := hbr.c0
    have fr0 := hbr.f0
    have er1 := hbr.c1
    have fr1 := hbr.f1
    have er2 := hbr.c2
    have fr2 := hbr.f2
    have er3 := hbr.c3
    have fr3 := hbr.f3
    have er4 := hbr.c4
    have fr4 := hbr.f4
    go_simp
    clear er0 fr0 er1 fr1 er2 fr2 er3 fr3 er4 fr4
    obtain ⟨w9, hwE⟩ : ∃ W, W = w8.setCell ⟨pr, 0, none⟩ (Value.bool (sneg l)) := ⟨_, rfl⟩
    rw [← hwE]
    replace hbl := hbl.setOther (show pl ≠ pr by have := HP.out; omega) 0 (Value.bool (sneg l)); rw [← hwE] at hbl
    replace hbf := hbf.setCell (p := ⟨pr, 0, none⟩) (show w.heap.size ≤ pr by have := HP.out; omega) (Value.bool (sneg l)); rw [← hwE] at hbf
    replace hbr := hbr.put0 (Value.bool (sneg l)); rw [← hwE] at hbr; clear hwE
    obtain ⟨w10, hwE⟩ : ∃ W, W = w9.setCell ⟨pr, 1, none⟩ (Value.string ⟨(List.nil : List UInt8).toArray⟩) := ⟨_, rfl⟩
    rw [← hwE]
    replace hbl := hbl.setOther (show pl ≠ pr by have := HP.out; omega) 1 (Value.string ⟨(List.nil : List UInt8).toArray⟩); rw [← hwE] at hbl
    replace hbf := hbf.setCell (p := ⟨pr, 1, none⟩) (show w.heap.size ≤ pr by have := HP.out; omega) (Value.string ⟨(List.nil : List UInt8).toArray⟩); rw [← hwE] at hbf
    replace hbr := hbr.put1 (Value.string ⟨(List.nil : List UInt8).toArray⟩); rw [← hwE] at hbr; clear hwE
    obtain ⟨w11, hwE⟩ : ∃ W, W = w10.setCell ⟨pr, 2, none⟩ (Value.int .i64 (b9.length : Nat)) := ⟨_, rfl⟩
    rw [← hwE]
    replace hbl := hbl.setOther (show pl ≠ pr by have := HP.out; omega) 2 (Value.int .i64 (b9.length : Nat)); rw [← hwE] at hbl
    replace hbf := hbf.setCell (p := ⟨pr, 2, none⟩) (show w.heap.size ≤ pr by have := HP.out; omega) (Value.int .i64 (b9.length : Nat)); rw [← hwE] at hbf
    replace hbr := hbr.put2 (Value.int .i64 (b9.length : Nat)); rw [← hwE] at hbr; clear hwE
    obtain ⟨w12, hwE⟩ : ∃ W, W = w11.setCell ⟨pr, 3, none⟩ (Value.bool false) := ⟨_, rfl⟩
    rw [← hwE]
    replace hbl := hbl.setOther (show pl ≠ pr by have := HP.out; omega) 3 (Value.bool false); rw [← hwE] at hbl
    replace hbf := hbf.setCell (p := ⟨pr, 3, none⟩) (show w.heap.size ≤ pr by have := HP.out; omega) (Value.bool false); rw [← hwE] at hbf
    replace hbr := hbr.put3 (Value.bool false); rw [← hwE] at hbr; clear hwE
    obtain ⟨w13, hwE⟩ : ∃ W, W = w12.setCell ⟨pr, 4, none⟩ (Value.string ⟨X.toArray⟩) := ⟨_, rfl⟩
    rw [← hwE]
    replace hbl := hbl.setOther (show pl ≠ pr by have := HP.out; omega) 4 (Value.string ⟨X.toArray⟩); rw [← hwE] at hbl
    replace hbf := hbf.setCell (p := ⟨pr, 4, none⟩) (show w.heap.size ≤ pr by have := HP.out; omega) (Value.string ⟨X.toArray⟩); rw [← hwE] at hbf
    replace hbr := hbr.put4 (Value.string ⟨X.toArray⟩); rw [← hwE] at hbr; clear hwE
    first | refine hK.out _ _ hbl (fun _ => ?_) | (go_wp2_with fail; refine hK.out _ _ hbl (fun _ => ?_))
    clear hK K
    (try simp only [Act.put, List.setIfInBounds_toArray, List.set_cons_zero, List.set_cons_succ])
    repeat (first | (refine seq_take (v := ?_) (by rfl) ?_ ?_; rotate_left; (· intro w hSw; (try dsimp only at hSw); obtain ⟨el0, el1, el2, el3, el4, _, _, _, _, _⟩ := hSw; go_simp; all_goals with_reducible rfl); (try simp only [Act.put, List.setIfInBounds_toArray, List.set_cons_zero, List.set_cons_succ])) | (refine seq_leave (by rfl) ?_; (try simp only [Act.put, List.setIfInBounds_toArray, List.set_cons_zero, List.set_cons_succ])))
    refine seq_end ?_
    have er0 := hbr.c0
    have fr0 := hbr.f0
    have er1 := hbr.c1
    have fr1 := hbr.f1
    have er2 := hbr.c2
    have fr2 := hbr.f2
    have er3 := hbr.c3
    have fr3 := hbr.f3
    have er4 := hbr.c4
    have fr4 := hbr.f4
    go_wp2_with fail
    clear er0 fr0 er1 fr1 er2 fr2 er3 fr3 er4 fr4
    (try rw [Exit.noGoto_ret])
    refine ret_lit_tmp rfl rfl rfl hbr rfl ⟨?_, hbf⟩
    unfold litV
    rw [HIS.out, HA.out, HBL.out, HXD.out, HXN.out]
    (try rfl)
   case neg =>
    have hne1 := nil_beq h1
    by_cases h2 : X = []
    case pos =>
     have HIS : Hid (litIs l = false) := Lib.hid (by unfold litIs; rw [HXD.out, h2]; simp)
     subst h2
     refine wp_region_seq (S := fun w' => Box5 w' pl (Value.bool (sneg l)) (Value.string ⟨A.toArray⟩) (Value.int .i64 (b9.length : Nat)) (Value.bool false) (Value.string ⟨(List.nil : List UInt8).toArray⟩)) [(true, 0), (true, 1), (true, 2), (true, 3), (true, 4), (true, 5), (true, 6), (true, 7), (true, 8), (true, 9), (true, 10), (true, 11), (false, 12), (true, 13), (true, 14), (true, 15), (true, 16), (false, 17), (true, 18), (false, 19), (true, 20)] (by kernel_rfl) (by kernel_rfl) (by kernel_rfl) (by kernel_rfl) (by kernel_rfl) (fun d _ _ _ _ h => by cases d <;> exact h) hbl.drew (fun _ => ?_)
     simp only [pickOps, List.append_eq, List.cons_append, List.nil_append, List.getElem?_toArray, List.getElem?_cons_succ, List.getElem?_cons_zero]
     have hb : Below w7.heap.size w7 w7.drew := (Below.refl _ _).drew
     generalize w7.drew = w8 at hb ⊢
     replace hbr := hbr.kept hb
     replace hbl := hbl.kept hb
     replace hbf := hbf.trans (hb.mono hbf.size)
     clear hb
     repeat (first | (refine seq_take (v := ?_) (by rfl) ?_ ?_; rotate_left; (· intro w hSw; (try dsimp only at hSw); obtain ⟨el0, el1, el2, el3, el4, _, _, _, _, _⟩ := hSw; go_simp; all_goals with_reducible rfl); (try simp only [Act.put, List.setIfInBounds_toArray, List.set_cons_zero, List.set_cons_succ])) | (refine seq_leave (by rfl) ?_; (try simp only [Act.put, List.setIfInBounds_toArray, List.set_cons_zero, List.set_cons_succ])))
     refine seq_pass (by rfl) hbl ?_
     (try simp only [Act.put, List.setIfInBounds_toArray, List.set_cons_zero, List.set_cons_succ])
     repeat (first | (refine seq_take (v := ?_) (by rfl) ?_ ?_; rotate_left; (· intro w hSw; (try dsimp only at hSw); obtain ⟨el0, el1, el2, el3, el4, _, _, _, _, _⟩ := hSw; go_simp; all_goals with_reducible rfl); (try simp only [Act.put, List.setIfInBounds_toArray, List.set_cons_zero, List.set_cons_succ])) | (refine seq_leave (by rfl) ?_; (try simp only [Act.put, List.setIfInBounds_toArray, List.set_cons_zero, List.set_cons_succ])))
     refine seq_pass (by rfl) hbl ?_
     (try simp only [Act.put, List.setIfInBounds_toArray, List.set_cons_zero, List.set_cons_succ])
     repeat (first | (refine seq_take (v := ?_) (by rfl) ?_ ?_; rotate_left; (· intro w hSw; (try dsimp only at hSw); obtain ⟨el0, el1, el2, el3, el4, _, _, _, _, _⟩ := hSw; go_simp; all_goals with_reducible rfl); (try simp only [Act.put, List.setIfInBounds_toArray, List.set_cons_zero, List.set_cons_succ])) | (refine seq_leave (by rfl) ?_; (try simp only [Act.put, List.setIfInBounds_toArray, List.set_cons_zero, List.set_cons_succ])))
     refine seq_step (by rfl) (fun K hK => ?_)
     have er0 := hbr.c0
     have fr0 := hbr.f0
     have er1 := hbr.c1
     have fr1 := hbr.f1
     have er2 := hbr.c2
     have fr2 := hbr.f2
     have er3 := hbr.c3
     have fr3 := hbr.f3
     have er4 := hbr.c4
     have fr4 := hbr.f4
     go_simp
     clear er0 fr0 er1 fr1 er2 fr2 er3 fr3 er4 fr4
     obtain ⟨w9, hwE⟩ : ∃ W, W = w8.setCell ⟨pr, 0, none⟩ (Value.bool (sneg l)) := ⟨_, rfl⟩
     rw [← hwE]
     replace hbl := hbl.setOther (show pl ≠ pr by have := HP.out; omega) 0 (Value.bool (sneg l)); rw [← hwE] at hbl
     replace hbf := hbf.setCell (p := ⟨pr, 0, none⟩) (show w.heap.size ≤ pr by have := HP.out; omega) (Value.bool (sneg l)); rw [← hwE] at hbf
     replace hbr := hbr.put0 (Value.bool (sneg l)); rw [← hwE] at hbr; clear hwE
     obtain ⟨w10, hwE⟩ : ∃ W, W = w9.setCell ⟨pr, 1, none⟩ (Value.string ⟨A.toArray⟩) := ⟨_, rfl⟩
     rw [← hwE]
     replace hbl := hbl.setOther (show pl ≠ pr by have := HP.out; omega) 1 (Value.string ⟨A.toArray⟩); rw [← hwE] at hbl
     replace hbf := hbf.setCell (p := ⟨pr, 1, none⟩) (show w.heap.size ≤ pr by have := HP.out; omega) (Value.string ⟨A.toArray⟩); rw [← hwE] at hbf
     replace hbr := hbr.put1 (Value.string ⟨A.toArray⟩); rw [← hwE] at hbr; clear hwE
     obtain ⟨w11, hwE⟩ : ∃ W, W = w10.setCell ⟨pr, 2, none⟩ (Value.int .i64 (b9.length : Nat)) := ⟨_, rfl⟩
     rw [← hwE]
     replace hbl := hbl.setOther (show pl ≠ pr by have := HP.out; omega) 2 (Value.int .i64 (b9.length : Nat)); rw [← hwE] at hbl
     replace hbf := hbf.setCell (p := ⟨pr, 2, none⟩) (show w.heap.size ≤ pr by have := HP.out; omega) (Value.int .i64 (b9.length : Nat)); rw [← hwE] at hbf
     replace hbr := hbr.put2 (Value.int .i64 (b9.length : Nat)); rw [← hwE] at hbr; clear hwE
     obtain ⟨w12, hwE⟩ : ∃ W, W = w11.setCell ⟨pr, 3, none⟩ (Value.bool false) := ⟨_, rfl⟩
     rw [← hwE]
     replace hbl := hbl.setOther (show pl ≠ pr by have := HP.out; omega) 3 (Value.bool false); rw [← hwE] at hbl
     replace hbf := hbf.setCell (p := ⟨pr, 3, none⟩) (show w.heap.size ≤ pr by have := HP.out; omega) (Value.bool false); rw [← hwE] at hbf
     replace hbr := hbr.put3 (Value.bool false); rw [← hwE] at hbr; clear hwE
     obtain ⟨w13, hwE⟩ : ∃ W, W = w12.setCell ⟨pr, 4, none⟩ (Value.string ⟨(List.nil : List UInt8).toArray⟩) := ⟨_, rfl⟩
     rw [← hwE]
     replace hbl := hbl.setOther (show pl ≠ pr by have := HP.out; omega) 4 (Value.string ⟨(List.nil : List UInt8).toArray⟩); rw [← hwE] at hbl
     replace hbf := hbf.setCell (p := ⟨pr, 4, none⟩) (show w.heap.size ≤ pr by have := HP.out; omega) (Value.string ⟨(List.nil : List UInt8).toArray⟩); rw [← hwE] at hbf
     replace hbr := hbr.put4 (Value.string ⟨(List.nil : List UInt8).toArray⟩); rw [← hwE] at hbr; clear hwE
     first | refine hK.out _ _ hbl (fun _ => ?_) | (go_wp2_with fail; refine hK.out _ _ hbl (fun _ => ?_))
     clear hK K
     (try simp only [Act.put, List.setIfInBounds_toArray, List.set_cons_zero, List.set_cons_succ])
     repeat (first | (refine seq_take (v := ?_) (by rfl) ?_ ?_; rotate_left; (· intro w hSw; (try dsimp only at hSw); obtain ⟨el0, el1, el2, el3, el4, _, _, _, _, _⟩ := hSw; go_simp; all_goals with_reducible rfl); (try simp only [Act.put, List.setIfInBounds_toArray, List.set_cons_zero, List.set_cons_succ])) | (refine seq_leave (by rfl) ?_; (try simp only [Act.put, List.setIfInBounds_toArray, List.set_cons_zero, List.set_cons_succ])))
     refine seq_end ?_
     have er0 := hbr.c0
     have fr0 := hbr.f0
     have er1 := hbr.c1
     have fr1 := hbr.f1
     have er2 := hbr.c2
     have fr2 := hbr.f2
     have er3 := hbr.c3
     have fr3 := hbr.f3
     have er4 := hbr.c4
     have fr4 := hbr.f4
     go_wp2_with fail
     clear er0 fr0 er1 fr1 er2 fr2 er3 fr3 er4 fr4
     (try rw [Exit.noGoto_ret])
     refine ret_lit_tmp rfl rfl rfl hbr rfl ⟨?_, hbf⟩
     unfold litV
     rw [HIS.out, HA.out, HBL.out, HXD.out, HXN.out]
     (try rfl)
    case neg =>
     have hne2 := nil_beq h2
     obtain ⟨dA, hdA⟩ : ∃ b, b = A.all isDig := ⟨_, rfl⟩
     have HDA : Hid (A.all isDig = dA) := Lib.hid hdA.symm
     clear hdA
     cases dA
     case false =>
      have HIS : Hid (litIs l = false) := Lib.hid (by unfold litIs; rw [HA.out, HDA.out]; simp)
      refine wp_region_seq (S := fun w' => Box5 w' pl (Value.bool (sneg l)) (Value.string ⟨A.toArray⟩) (Value.int .i64 (b9.length : Nat)) (Value.bool false) (Value.string ⟨X.toArray⟩)) [(true, 0), (true, 1), (true, 2), (true, 3), (true, 4), (true, 5), (true, 6), (true, 7), (true, 8), (true, 9), (true, 10), (true, 11), (false, 12), (true, 13), (true, 14), (true, 15), (true, 16), (false, 17), (true, 18), (false, 19), (true, 20)] (by kernel_rfl) (by kernel_rfl) (by kernel_rfl) (by kernel_rfl) (by kernel_rfl) (fun d _ _ _ _ h => by cases d <;> exact h) hbl.drew (fun _ => ?_)
      simp only [pickOps, List.append_eq, List.cons_append, List.nil_append, List.getElem?_toArray, List.getElem?_cons_succ, List.getElem?_cons_zero]
      have hb : Below w7.heap.size w7 w7.drew := (Below.refl _ _).drew
      generalize w7.drew = w8 at hb ⊢
      replace hbr := hbr.kept hb
      replace hbl := hbl.kept hb
      replace hbf := hbf.trans (hb.mono hbf.size)
      clear hb
      repeat (first | (refine seq_take (v := ?_) (by rfl) ?_ ?_; rotate_left; (· intro w hSw; (try dsimp only at hSw); obtain ⟨el0, el1, el2, el3, el4, _, _, _, _, _⟩ := hSw; go_simp; all_goals with_reducible rfl); (try simp only [Act.put, List.setIfInBounds_toArray, List.set_cons_zero, List.set_cons_succ])) | (refine seq_leave (by rfl) ?_; (try simp only [Act.put, List.setIfInBounds_toArray, List.set_cons_zero, List.set_cons_succ])))
      refine seq_step (by rfl) (fun K hK => ?_)
      go_simp
      go_at_call 207
      (with_reducible refine (ddigits_b A false _ (by omega) HDA).mono ?_)
      rintro e w9 ⟨rfl, hb⟩
      replace hbr := hbr.kept hb
      replace hbl := hbl.kept hb
      replace hbf := hbf.trans (hb.mono hbf.size)
      clear hb
      first | refine hK.out _ _ hbl (fun _ => ?_) | (go_wp2_with fail; refine hK.out _ _ hbl (fun _ => ?_))
      clear hK K
      (try simp only [Act.put, List.setIfInBounds_toArray, List.set_cons_zero, List.set_cons_succ])
      repeat (first | (refine seq_take (v := ?_) (by rfl) ?_ ?_; rotate_left; (· intro w hSw; (try dsimp only at hSw); obtain ⟨el0, el1, el2, el3, el4, _, _, _, _, _⟩ := hSw; go_simp; all_goals with_reducible rfl); (try simp only [Act.put, List.setIfInBounds_toArray, List.set_cons_zero, List.set_cons_succ])) | (refine seq_leave (by rfl) ?_; (try simp only [Act.put, List.setIfInBounds_toArray, List.set_cons_zero, List.set_cons_succ])))
      refine seq_pass (by rfl) hbl ?_
      (try simp only [Act.put, List.setIfInBounds_toArray, List.set_cons_zero, List.set_cons_succ])
      repeat (first | (refine seq_take (v := ?_) (by rfl) ?_ ?_; rotate_left; (· intro w hSw; (try dsimp only at hSw); obtain ⟨el0, el1, el2, el3, el4, _, _, _, _, _⟩ := hSw; go_simp; all_goals with_reducible rfl); (try simp only [Act.put, List.setIfInBounds_toArray, List.set_cons_zero, List.set_cons_succ])) | (refine seq_leave (by rfl) ?_; (try simp only [Act.put, List.setIfInBounds_toArray, List.set_cons_zero, List.set_cons_succ])))
      refine seq_step (by rfl) (fun K hK => ?_)
      have er0 := hbr.c0
      have fr0 := hbr.f0
      have er1 := hbr.c1
      have fr1 := hbr.f1
      have er2 := hbr.c2
      have fr2 := hbr.f2
      have er3 := hbr.c3
      have fr3 := hbr.f3
      have er4 := hbr.c4
      have fr4 := hbr.f4
      go_simp
      clear er0 fr0 er1 fr1 er2 fr2 er3 fr3 er4 fr4
      obtain ⟨w10, hwE⟩ : ∃ W, W = w9.setCell ⟨pr, 0, none⟩ (Value.bool (sneg l)) := ⟨_, rfl⟩
      rw [← hwE]
      replace hbl := hbl.setOther (show pl ≠ pr by have := HP.out; omega) 0 (Value.bool (sneg l)); rw [← hwE] at hbl
      replace hbf := hbf.setCell (p := ⟨pr, 0, none⟩) (show w.heap.size ≤ pr by have := HP.out; omega) (Value.bool (sneg l)); rw [← hwE] at hbf
      replace hbr := hbr.put0 (Value.bool (sneg l)); rw [← hwE] at hbr; clear hwE
      obtain ⟨w11, hwE⟩ : ∃ W, W = w10.setCell ⟨pr, 1, none⟩ (Value.string ⟨A.toArray⟩) := ⟨_, rfl⟩
      rw [← hwE]
      replace hbl := hbl.setOther (show pl ≠ pr by have := HP.out; omega) 1 (Value.string ⟨A.toArray⟩); rw [← hwE] at hbl
      replace hbf := hbf.setCell (p := ⟨pr, 1, none⟩) (show w.heap.size ≤ pr by have := HP.out; omega) (Value.string ⟨A.toArray⟩); rw [← hwE] at hbf
      replace hbr := hbr.put1 (Value.string ⟨A.toArray⟩); rw [← hwE] at hbr; clear hwE
      obtain ⟨w12, hwE⟩ : ∃ W, W = w11.setCell ⟨pr, 2, none⟩ (Value.int .i64 (b9.length : Nat)) := ⟨_, rfl⟩
      rw [← hwE]
      replace hbl := hbl.setOther (show pl ≠ pr by have := HP.out; omega) 2 (Value.int .i64 (b9.length : Nat)); rw [← hwE] at hbl
      replace hbf := hbf.setCell (p := ⟨pr, 2, none⟩) (show w.heap.size ≤ pr by have := HP.out; omega) (Value.int .i64 (b9.length : Nat)); rw [← hwE] at hbf
      replace hbr := hbr.put2 (Value.int .i64 (b9.length : Nat)); rw [← hwE] at hbr; clear hwE
      obtain ⟨w13, hwE⟩ : ∃ W, W = w12.setCell ⟨pr, 3, none⟩ (Value.bool false) := ⟨_, rfl⟩
      rw [← hwE]
      replace hbl := hbl.setOther (show pl ≠ pr by have := HP.out; omega) 3 (Value.bool false); rw [← hwE] at hbl
      replace hbf := hbf.setCell (p := ⟨pr, 3, none⟩) (show w.heap.size ≤ pr by have := HP.out; omega) (Value.bool false); rw [← hwE] at hbf
      replace hbr := hbr.put3 (Value.bool false); rw [← hwE] at hbr; clear hwE
      obtain ⟨w14, hwE⟩ : ∃ W, W = w13.setCell ⟨pr, 4, none⟩ (Value.string ⟨X.toArray⟩) := ⟨_, rfl⟩
      rw [← hwE]
      replace hbl := hbl.setOther (show pl ≠ pr by have := HP.out; omega) 4 (Value.string ⟨X.toArray⟩); rw [← hwE] at hbl
      replace hbf := hbf.setCell (p := ⟨pr, 4, none⟩) (show w.heap.size ≤ pr by have := HP.out; omega) (Value.string ⟨X.toArray⟩); rw [← hwE] at hbf
      replace hbr := hbr.put4 (Value.string ⟨X.toArray⟩); rw [← hwE] at hbr; clear hwE
      first | refine hK.out _ _ hbl (fun _ => ?_) | (go_wp2_with fail; refine hK.out _ _ hbl (fun _ => ?_))
      clear hK K
      (try simp only [Act.put, List.setIfInBounds_toArray, List.set_cons_zero, List.set_cons_succ])
      repeat (first | (refine seq_take (v := ?_) (by rfl) ?_ ?_; rotate_left; (· intro w hSw; (try dsimp only at hSw); obtain ⟨el0, el1, el2, el3, el4, _, _, _, _, _⟩ := hSw; go_simp; all_goals with_reducible rfl); (try simp only [Act.put, List.setIfInBounds_toArray, List.set_cons_zero, List.set_cons_succ])) | (refine seq_leave (by rfl) ?_; (try simp only [Act.put, List.setIfInBounds_toArray, List.set_cons_zero, List.set_cons_succ])))
      refine seq_end ?_
      have er0 := hbr.c0
      have fr0 := hbr.f0
      have er1 := hbr.c1
      have fr1 := hbr.f1
      have er2 := hbr.c2
      have fr2 := hbr.f2
      have er3 := hbr.c3
      have fr3 := hbr.f3
      have er4 := hbr.c4
      have fr4 := hbr.f4
      go_wp2_with fail
      clear er0 fr0 er1 fr1 er2 fr2 er3 fr3 er4 fr4
      (try rw [Exit.noGoto_ret])
      refine ret_lit_tmp rfl rfl rfl hbr rfl ⟨?_, hbf⟩
      unfold litV
      rw [HIS.out, HA.out, HBL.out, HXD.out, HXN.out]
      (try rfl)
     case true =>
      obtain ⟨dX, hdX⟩ : ∃ b, b = X.all isDig := ⟨_, rfl⟩
      have HDX9 : Hid (X.all isDig = dX) := Lib.hid hdX.symm
      have HIS : Hid (litIs l = dX) := Lib.hid (by unfold litIs; rw [HA.out, HXD.out, HDA.out, hdX]; cases A with | nil => exact (h1 rfl).elim | cons => cases X with | nil => exact (h2 rfl).elim | cons => simp)
      clear hdX
      refine wp_region_seq (S := fun w' => Box5 w' pl (Value.bool (sneg l)) (Value.string ⟨A.toArray⟩) (Value.int .i64 (b9.length : Nat)) (Value.bool false) (Value.string ⟨X.toArray⟩)) [(true, 0), (true, 1), (true, 2), (true, 3), (true, 4), (true, 5), (true, 6), (true, 7), (true, 8), (true, 9), (true, 10), (true, 11), (false, 12), (true, 13), (true, 14), (true, 15), (true, 16), (false, 17), (true, 18), (false, 19), (true, 20)] (by kernel_rfl) (by kernel_rfl) (by kernel_rfl) (by kernel_rfl) (by kernel_rfl) (fun d _ _ _ _ h => by cases d <;> exact h) hbl.drew (fun _ => ?_)
      simp only [pickOps, List.append_eq, List.cons_append, List.nil_append, List.getElem?_toArray, List.getElem?_cons_succ, List.getElem?_cons_zero]
      have hb : Below w7.heap.size w7 w7.drew := (Below.refl _ _).drew
      generalize w7.drew = w8 at hb ⊢
      replace hbr := hbr.kept hb
      replace hbl := hbl.kept hb
      replace hbf := hbf.trans (hb.mono hbf.size)
      clear hb
      repeat (first | (refine seq_take (v := ?_) (by rfl) ?_ ?_; rotate_left; (· intro w hSw; (try dsimp only at hSw); obtain ⟨el0, el1, el2, el3, el4, _, _, _, _, _⟩ := hSw; go_simp; all_goals with_reducible rfl); (try simp only [Act.put, List.setIfInBounds_toArray, List.set_cons_zero, List.set_cons_succ])) | (refine seq_leave (by rfl) ?_; (try simp only [Act.put, List.setIfInBounds_toArray, List.set_cons_zero, List.set_cons_succ])))
      refine seq_step (by rfl) (fun K hK => ?_)
      go_simp
      go_at_call 207
      (with_reducible refine (ddigits_b A true _ (by omega) HDA).mono ?_)
      rintro e w9 ⟨rfl, hb⟩
      replace hbr := hbr.kept hb
      replace hbl := hbl.kept hb
      replace hbf := hbf.trans (hb.mono hbf.size)
      clear hb
      first | refine hK.out _ _ hbl (fun _ => ?_) | (go_wp2_with fail; refine hK.out _ _ hbl (fun _ => ?_))
      clear hK K
      (try simp only [Act.put, List.setIfInBounds_toArray, List.set_cons_zero, List.set_cons_succ])
      repeat (first | (refine seq_take (v := ?_) (by rfl) ?_ ?_; rotate_left; (· intro w hSw; (try dsimp only at hSw); obtain ⟨el0, el1, el2, el3, el4, _, _, _, _, _⟩ := hSw; go_simp; all_goals with_reducible rfl); (try simp only [Act.put, List.setIfInBounds_toArray, List.set_cons_zero, List.set_cons_succ])) | (refine seq_leave (by rfl) ?_; (try simp only [Act.put, List.setIfInBounds_toArray, List.set_cons_zero, List.set_cons_succ])))
      refine seq_step (by rfl) (fun K hK => ?_)
      go_simp
      go_at_call 207
      (with_reducible refine (ddigits_b X dX _ (by omega) HDX9).mono ?_)
      rintro e w10 ⟨rfl, hb⟩
      replace hbr := hbr.kept hb
      replace hbl := hbl.kept hb
      replace hbf := hbf.trans (hb.mono hbf.size)
      clear hb
      first | refine hK.out _ _ hbl (fun _ => ?_) | (go_wp2_with fail; refine hK.out _ _ hbl (fun _ => ?_))
      clear hK K
      (try simp only [Act.put, List.setIfInBounds_toArray, List.set_cons_zero, List.set_cons_succ])
      repeat (first | (refine seq_take (v := ?_) (by rfl) ?_ ?_; rotate_left; (· intro w hSw; (try dsimp only at hSw); obtain ⟨el0, el1, el2, el3, el4, _, _, _, _, _⟩ := hSw; go_simp; all_goals with_reducible rfl); (try simp only [Act.put, List.setIfInBounds_toArray, List.set_cons_zero, List.set_cons_succ])) | (refine seq_leave (by rfl) ?_; (try simp only [Act.put, List.setIfInBounds_toArray, List.set_cons_zero, List.set_cons_succ])))
      refine seq_step (by rfl) (fun K hK => ?_)
      have er0 := hbr.c0
      have fr0 := hbr.f0
      have er1 := hbr.c1
      have fr1 := hbr.f1
      have er2 := hbr.c2
      have fr2 := hbr.f2
      have er3 := hbr.c3
      have fr3 := hbr.f3
      have er4 := hbr.c4
      have fr4 := hbr.f4
      go_simp
      clear er0 fr0 er1 fr1 er2 fr2 er3 fr3 er4 fr4
      obtain ⟨w11, hwE⟩ : ∃ W, W = w10.setCell ⟨pr, 0, none⟩ (Value.bool (sneg l)) := ⟨_, rfl⟩
      rw [← hwE]
      replace hbl := hbl.setOther (show pl ≠ pr by have := HP.out; omega) 0 (Value.bool (sneg l)); rw [← hwE] at hbl
      replace hbf := hbf.setCell (p := ⟨pr, 0, none⟩) (show w.heap.size ≤ pr by have := HP.out; omega) (Value.bool (sneg l)); rw [← hwE] at hbf
      replace hbr := hbr.put0 (Value.bool (sneg l)); rw [← hwE] at hbr; clear hwE
      obtain ⟨w12, hwE⟩ : ∃ W, W = w11.setCell ⟨pr, 1, none⟩ (Value.string ⟨A.toArray⟩) := ⟨_, rfl⟩
      rw [← hwE]
      replace hbl := hbl.setOther (show pl ≠ pr by have := HP.out; omega) 1 (Value.string ⟨A.toArray⟩); rw [← hwE] at hbl
      replace hbf := hbf.setCell (p := ⟨pr, 1, none⟩) (show w.heap.size ≤ pr by have := HP.out; omega) (Value.string ⟨A.toArray⟩); rw [← hwE] at hbf
      replace hbr := hbr.put1 (Value.string ⟨A.toArray⟩); rw [← hwE] at hbr; clear hwE
      obtain ⟨w13, hwE⟩ : ∃ W, W = w12.setCell ⟨pr, 2, none⟩ (Value.int .i64 (b9.length : Nat)) := ⟨_, rfl⟩
      rw [← hwE]
      replace hbl := hbl.setOther (show pl ≠ pr by have := HP.out; omega) 2 (Value.int .i64 (b9.length : Nat)); rw [← hwE] at hbl
      replace hbf := hbf.setCell (p := ⟨pr, 2, none⟩) (show w.heap.size ≤ pr by have := HP.out; omega) (Value.int .i64 (b9.length : Nat)); rw [← hwE] at hbf
      replace hbr := hbr.put2 (Value.int .i64 (b9.length : Nat)); rw [← hwE] at hbr; clear hwE
      obtain ⟨w14, hwE⟩ : ∃ W, W = w13.setCell ⟨pr, 3, none⟩ (Value.bool false) := ⟨_, rfl⟩
      rw [← hwE]
      replace hbl := hbl.setOther (show pl ≠ pr by have := HP.out; omega) 3 (Value.bool false); rw [← hwE] at hbl
      replace hbf := hbf.setCell (p := ⟨pr, 3, none⟩) (show w.heap.size ≤ pr by have := HP.out; omega) (Value.bool false); rw [← hwE] at hbf
      replace hbr := hbr.put3 (Value.bool false); rw [← hwE] at hbr; clear hwE
      obtain ⟨w15, hwE⟩ : ∃ W, W = w14.setCell ⟨pr, 4, none⟩ (Value.string ⟨X.toArray⟩) := ⟨_, rfl⟩
      rw [← hwE]
      replace hbl := hbl.setOther (show pl ≠ pr by have := HP.out; omega) 4 (Value.string ⟨X.toArray⟩); rw [← hwE] at hbl
      replace hbf := hbf.setCell (p := ⟨pr, 4, none⟩) (show w.heap.size ≤ pr by have := HP.out; omega) (Value.string ⟨X.toArray⟩); rw [← hwE] at hbf
      replace hbr := hbr.put4 (Value.string ⟨X.toArray⟩); rw [← hwE] at hbr; clear hwE
      first | refine hK.out _ _ hbl (fun _ => ?_) | (go_wp2_with fail; refine hK.out _ _ hbl (fun _ => ?_))
      clear hK K
      (try simp only [Act.put, List.setIfInBounds_toArray, List.set_cons_zero, List.set_cons_succ])
      repeat (first | (refine seq_take (v := ?_) (by rfl) ?_ ?_; rotate_left; (· intro w hSw; (try dsimp only at hSw); obtain ⟨el0, el1, el2, el3, el4, _, _, _, _, _⟩ := hSw; go_simp; all_goals with_reducible rfl); (try simp only [Act.put, List.setIfInBounds_toArray, List.set_cons_zero, List.set_cons_succ])) | (refine seq_leave (by rfl) ?_; (try simp only [Act.put, List.setIfInBounds_toArray, List.set_cons_zero, List.set_cons_succ])))
      refine seq_end ?_
      have er0 := hbr.c0
      have fr0 := hbr.f0
      have er1 := hbr.c1
      have fr1 := hbr.f1
      have er2 := hbr.c2
      have fr2 := hbr.f2
      have er3 := hbr.c3
      have fr3 := hbr.f3
      have er4 := hbr.c4
      have fr4 := hbr.f4
      go_wp2_with fail
      clear er0 fr0 er1 fr1 er2 fr2 er3 fr3 er4 fr4
      (try rw [Exit.noGoto_ret])
      refine ret_lit_tmp rfl rfl rfl hbr rfl ⟨?_, hbf⟩
      unfold litV
      rw [HIS.out, HA.out, HBL.out, HXD.out, HXN.out]
      (try rfl)
set_option maxHeartbeats 8000000 in
theorem cut_yes (l : List UInt8) (w : World) (hl : l.length ≤ 1000) (hE : hasE l = true) : Calls Tryz.prog 161 #[.string ⟨l.toArray⟩] w (CutPost w l) := by
 have hsl := srest_le l
 have HE := Lib.hid hE; clear hE
 obtain ⟨w0, hw0⟩ : ∃ w0, w0 = (w.alloc (.cells #[.bool false, .string ⟨#[]⟩, .int .i64 0, .bool false, .string ⟨#[]⟩] 200)) := ⟨_, rfl⟩
 have hbf : Below w.heap.size w w0 := by rw [hw0]; exact ((Below.refl _ w).alloc (Nat.le_refl _) _)
 obtain ⟨pr, hpr⟩ : ∃ p, p = w.heap.size := ⟨_, rfl⟩
 have hbr : Box5 w0 pr (Value.bool false) (Value.string ⟨#[]⟩) (Value.int .i64 0) (Value.bool false) (Value.string ⟨#[]⟩) := by rw [hw0, hpr]; exact ⟨by go_simp, by go_simp, by go_simp, by go_simp, by go_simp, by go_simp, by go_simp, by go_simp, by go_simp, by go_simp⟩
 have HP : Hid (w.heap.size ≤ pr) := Lib.hid (by omega)
 have HW := Lib.hid hw0; clear hw0
 go_enter Tryz.func161, Tryz.ntmps161
 go_upto_region 1 with fail
 rw [← HW.out, ← hpr]
 clear hpr HW
 go_step3
 obtain ⟨w1, hwE⟩ : ∃ W, W = (w0.alloc (.cells #[.bool false, .string ⟨#[]⟩, .int .i64 0, .bool false, .string ⟨#[]⟩] 200)) := ⟨_, rfl⟩
 have hb : Below w0.heap.size w0 w1 := by rw [hwE]; exact ((Below.refl _ w0).alloc (Nat.le_refl _) _)
 obtain ⟨pl, hpl⟩ : ∃ p, p = w0.heap.size := ⟨_, rfl⟩
 have hbl : Box5 w1 pl (Value.bool false) (Value.string ⟨#[]⟩) (Value.int .i64 0) (Value.bool false) (Value.string ⟨#[]⟩) := by rw [hwE, hpl]; exact ⟨by go_simp, by go_simp, by go_simp, by go_simp, by go_simp, by go_simp, by go_simp, by go_simp, by go_simp, by go_simp⟩
 replace HP : Hid (w.heap.size ≤ pr ∧ pr < pl) := Lib.hid (by have h1 := HP.out; have h9 := hbf.size; have h2r := hbr.lt; omega)
 have HW := Lib.hid hwE; clear hwE
 go_wp2_with fail
 rw [← HW.out, ← hpl]
 clear hpl HW
 replace hbr := hbr.kept hb
 replace hbf := hbf.trans (hb.mono hbf.size)
 clear hb
 refine (sign_any l _ (by omega)).mono ?_
 rintro e w2 ⟨rfl, hb⟩
 replace hbr := hbr.kept hb
 replace hbl := hbl.kept hb
 replace hbf := hbf.trans (hb.mono hbf.size)
 clear hb
 have el0 := hbl.c0
 have fl0 := hbl.f0
 have el1 := hbl.c1
 have fl1 := hbl.f1
 have el2 := hbl.c2
 have fl2 := hbl.f2
 have el3 := hbl.c3
 have fl3 := hbl.f3
 have el4 := hbl.c4
 have fl4 := hbl.f4
 go_upto_region 3 with fail
 clear el0 fl0 el1 fl1 el2 fl2 el3 fl3 el4 fl4
 obtain ⟨w3, hwE⟩ : ∃ W, W = w2.setCell ⟨pl, 0, none⟩ (Value.bool (sneg l)) := ⟨_, rfl⟩
 rw [← hwE]
 replace hbr := hbr.setOther (show pr ≠ pl by have := HP.out; omega) 0 (Value.bool (sneg l)); rw [← hwE] at hbr
 replace hbf := hbf.setCell (p := ⟨pl, 0, none⟩) (show w.heap.size ≤ pl by have := HP.out; omega) (Value.bool (sneg l)); rw [← hwE] at hbf
 replace hbl := hbl.put0 (Value.bool (sneg l)); rw [← hwE] at hbl; clear hwE
 obtain ⟨s, hs⟩ : ∃ s, s = srest l := ⟨_, rfl⟩
 obtain ⟨m, hm⟩ : ∃ m, m = lman l := ⟨_, rfl⟩
 have HM := Lib.hid hm
 have HS := Lib.hid hs
 rw [← hs] at hsl ⊢
 have hml : m.length ≤ 9223372036854775807 := by rw [hm]; have := lman_le l; omega
 have hsp := lit_split HE.out
 rw [← hs, ← hm] at hsp
 obtain ⟨c9, hsp1, hsp2, hsp3, hsp4⟩ := hsp
 have HDX : Hid (lexp l = s.drop (m.length + 1)) := Lib.hid hsp4
 have hmlt : m.length < s.length := hsp1
 have hx1 : (⟨s.toArray⟩ : ByteArray).extract 0 m.length = ⟨m.toArray⟩ := by rw [bytes_extract, hm, hs, lman_take]; simp
 have HNE : Hid (∀ i, i < m.length → isE (s[i]?.getD 0) = false) := Lib.hid hsp3
 have HYE : Hid (isE (s[m.length]?.getD 0) = true) := Lib.hid hsp2
 clear hsp1 hsp2 hsp3 hsp4 hm hs
 have hk1 : ((m.length : Nat) : Int) ≤ ((s.length : Nat) : Int) := by omega
 have hk2 : (0 : Int) ≤ ((m.length : Nat) : Int) := by omega
 go_wp2_with fail
 go_step3
 (try go_wp2_with fail)
 go_loopg [5, 20] m.length (fun gg av iv wr => ∃ i : Nat, i + gg = m.length ∧ av = .int .i64 (s.length : Nat) ∧ iv = .int .i64 i ∧ w3 = wr)
 case atStart => exact ⟨0, by omega, rfl, rfl, rfl⟩
 case round =>
  obtain ⟨i, hi, rfl, rfl, rfl⟩ := hrel
  by_cases hil : i < m.length
  case pos =>
   have hil2 : i < s.length := by omega
   have hby := byte_at s i hil2 (by simpa [ByteArray.size] using hil2)
   have hne9 := notE_bytes (HNE.out i hil)
   obtain ⟨hn1, hn2⟩ := hne9
   generalize s[i]?.getD 0 = c at *
   go_wp2_with fail
   go_roundg (gk - 1)
   case measure => omega
   case rel => exact ⟨i + 1, by omega, rfl, by go_num, rfl⟩
  case neg =>
   obtain rfl : i = m.length := by omega
   have hby := byte_at s m.length hmlt (by simpa [ByteArray.size] using hmlt)
   have hye := HYE.out
   generalize s[m.length]?.getD 0 = c at hby hye
   rcases isE_two hye with hce | hce
   all_goals clear hye
   case inl =>
    subst hce
    have el0 := hbl.c0
    have el1 := hbl.c1
    have el2 := hbl.c2
    have el3 := hbl.c3
    have el4 := hbl.c4
    go_wp2_with fail
    refine (pcutat_any m _ hml).mono ?_
    rintro e w4 ⟨rfl, hb⟩
    clear el0 el1 el2 el3 el4
    replace hbr := hbr.kept hb
    replace hbl := hbl.kept hb
    replace hbf := hbf.trans (hb.mono hbf.size)
    clear hb
    obtain ⟨a, ha⟩ : ∃ a, a = pAt m := ⟨_, rfl⟩
    obtain ⟨b9, hb9⟩ : ∃ b, b = pOn m := ⟨_, rfl⟩
    rw [← ha, ← hb9]
    have hA : lall l = a ++ b9 := by rw [ha, hb9, HM.out]; rfl
    have hB : (lbehind l).length = b9.length := by rw [hb9, HM.out]; rfl
    have HBL := Lib.hid hB
    have hlb : b9.length ≤ 100000 := by rw [← HBL.out]; have h1 := lbehind_le l; have h2 := lall_le l; have h3 := lman_le l; omega
    have hla : a.length ≤ 100000 := by have h1 : (lall l).length = a.length + b9.length := (by rw [hA, List.length_append]); have h2 := lall_le l; have h3 := lman_le l; omega
    clear ha hb9 hB
    obtain ⟨A, hA2⟩ : ∃ A, A = a ++ b9 := ⟨_, rfl⟩
    have hap : (⟨a.toArray⟩ ++ ⟨b9.toArray⟩ : ByteArray) = ⟨A.toArray⟩ := by rw [hA2]; exact bytes_append a b9
    rw [← hA2] at hA
    have HA := Lib.hid hA
    clear hA hA2
    have el0 := hbl.c0
    have fl0 := hbl.f0
    have el1 := hbl.c1
    have fl1 := hbl.f1
    have el2 := hbl.c2
    have fl2 := hbl.f2
    have el3 := hbl.c3
    have fl3 := hbl.f3
    have el4 := hbl.c4
    have fl4 := hbl.f4
    go_upto_region 14 with fail
    clear el0 fl0 el1 fl1 el2 fl2 el3 fl3 el4 fl4
    obtain ⟨w5, hwE⟩ : ∃ W, W = w4.setCell ⟨pl, 1, none⟩ (Value.string ⟨A.toArray⟩) := ⟨_, rfl⟩
    rw [← hwE]
    replace hbr := hbr.setOther (show pr ≠ pl by have := HP.out; omega) 1 (Value.string ⟨A.toArray⟩); rw [← hwE] at hbr
    replace hbf := hbf.setCell (p := ⟨pl, 1, none⟩) (show w.heap.size ≤ pl by have := HP.out; omega) (Value.string ⟨A.toArray⟩); rw [← hwE] at hbf
    replace hbl := hbl.put1 (Value.string ⟨A.toArray⟩); rw [← hwE] at hbl; clear hwE
    obtain ⟨w6, hwE⟩ : ∃ W, W = w5.setCell ⟨pl, 2, none⟩ (Value.int .i64 (b9.length : Nat)) := ⟨_, rfl⟩
    rw [← hwE]
    replace hbr := hbr.setOther (show pr ≠ pl by have := HP.out; omega) 2 (Value.int .i64 (b9.length : Nat)); rw [← hwE] at hbr
    replace hbf := hbf.setCell (p := ⟨pl, 2, none⟩) (show w.heap.size ≤ pl by have := HP.out; omega) (Value.int .i64 (b9.length : Nat)); rw [← hwE] at hbf
    replace hbl := hbl.put2 (Value.int .i64 (b9.length : Nat)); rw [← hwE] at hbl; clear hwE
    obtain ⟨w7, hwE⟩ : ∃ W, W = w6.setCell ⟨pl, 4, none⟩ (Value.string ⟨#[48]⟩) := ⟨_, rfl⟩
    rw [← hwE]
    replace hbr := hbr.setOther (show pr ≠ pl by have := HP.out; omega) 4 (Value.string ⟨#[48]⟩); rw [← hwE] at hbr
    replace hbf := hbf.setCell (p := ⟨pl, 4, none⟩) (show w.heap.size ≤ pl by have := HP.out; omega) (Value.string ⟨#[48]⟩); rw [← hwE] at hbf
    replace hbl := hbl.put4 (Value.string ⟨#[48]⟩); rw [← hwE] at hbl; clear hwE
    have hlA : A.length ≤ 100000 := by rw [← HA.out]; have h2 := lall_le l; have h3 := lman_le l; omega
    obtain ⟨x, hx⟩ : ∃ x, x = lexp l := ⟨_, rfl⟩
    have hex : (⟨s.toArray⟩ : ByteArray).extract (m.length + 1) s.length = ⟨x.toArray⟩ := by rw [bytes_extract, List.take_length, hx, HDX.out]
    have hlx : x.length ≤ 9223372036854775807 := by rw [hx]; have := lexp_le l; omega
    have hxd : xdig l = srest x := by unfold xdig; rw [if_pos HE.out, hx]
    have hxn : xneg l = sneg x := by unfold xneg; rw [HE.out, hx]; rfl
    have HXN := Lib.hid hxn
    obtain ⟨X, hX⟩ : ∃ X, X = srest x := ⟨_, rfl⟩
    rw [← hX] at hxd
    have HXD := Lib.hid hxd
    clear hxn hxd
    have HXS := Lib.hid hX
    clear hX hx
    have hk3 : ((m.length : Nat) : Int) + 1 ≤ ((s.length : Nat) : Int) := by omega
    have hk4 : (0 : Int) ≤ ((m.length : Nat) : Int) + 1 := by omega
    have hk6 : (((m.length : Nat) : Int) + 1).toNat = m.length + 1 := by omega
    have hk5 : IntKind.i64.wrap (((m.length : Nat) : Int) + 1) = ((m.length : Nat) : Int) + 1 := by simp [IntKind.wrap, IntKind.bits, IntKind.signed]; omega
    have el0 := hbl.c0
    have el1 := hbl.c1
    have el2 := hbl.c2
    have el3 := hbl.c3
    have el4 := hbl.c4
    go_wp2_with fail
    refine (sign_any x _ hlx).mono ?_
    rintro e w8 ⟨rfl, hb⟩
    clear el0 el1 el2 el3 el4
    replace hbr := hbr.kept hb
    replace hbl := hbl.kept hb
    replace hbf := hbf.trans (hb.mono hbf.size)
    clear hb
    rw [← HXS.out]
    clear hex
    have el0 := hbl.c0
    have fl0 := hbl.f0
    have el1 := hbl.c1
    have fl1 := hbl.f1
    have el2 := hbl.c2
    have fl2 := hbl.f2
    have el3 := hbl.c3
    have fl3 := hbl.f3
    have el4 := hbl.c4
    have fl4 := hbl.f4
    go_upto_region 16 with fail
    clear el0 fl0 el1 fl1 el2 fl2 el3 fl3 el4 fl4
    obtain ⟨w9, hwE⟩ : ∃ W, W = w8.setCell ⟨pl, 4, none⟩ (Value.string ⟨X.toArray⟩) := ⟨_, rfl⟩
    rw [← hwE]
    replace hbr := hbr.setOther (show pr ≠ pl by have := HP.out; omega) 4 (Value.string ⟨X.toArray⟩); rw [← hwE] at hbr
    replace hbf := hbf.setCell (p := ⟨pl, 4, none⟩) (show w.heap.size ≤ pl by have := HP.out; omega) (Value.string ⟨X.toArray⟩); rw [← hwE] at hbf
    replace hbl := hbl.put4 (Value.string ⟨X.toArray⟩); rw [← hwE] at hbl; clear hwE
    obtain ⟨w10, hwE⟩ : ∃ W, W = w9.setCell ⟨pl, 3, none⟩ (Value.bool (sneg x)) := ⟨_, rfl⟩
    rw [← hwE]
    replace hbr := hbr.setOther (show pr ≠ pl by have := HP.out; omega) 3 (Value.bool (sneg x)); rw [← hwE] at hbr
    replace hbf := hbf.setCell (p := ⟨pl, 3, none⟩) (show w.heap.size ≤ pl by have := HP.out; omega) (Value.bool (sneg x)); rw [← hwE] at hbf
    replace hbl := hbl.put3 (Value.bool (sneg x)); rw [← hwE] at hbl; clear hwE
    have hlX : X.length ≤ 100000 := by rw [← HXD.out]; have := xdig_le l; omega
    clear hap
    by_cases h1 : A = []
    case pos =>
     have HIS : Hid (litIs l = false) := Lib.hid (by unfold litIs; rw [HA.out, h1]; rfl)
     subst h1
     refine wp_region_seq (S := fun w' => Box5 w' pl (Value.bool (sneg l)) (Value.string ⟨(List.nil : List UInt8).toArray⟩) (Value.int .i64 (b9.length : Nat)) (Value.bool (sneg x)) (Value.string ⟨X.toArray⟩)) [(true, 0), (true, 1), (true, 2), (true, 3), (true, 4), (true, 5), (true, 6), (true, 7), (true, 8), (true, 9), (true, 10), (true, 11), (false, 12), (true, 13), (true, 14), (true, 15), (true, 16), (false, 17), (true, 18), (false, 19), (true, 20)] (by kernel_rfl) (by kernel_rfl) (by kernel_rfl) (by kernel_rfl) (by kernel_rfl) (fun d _ _ _ _ h => by cases d <;> exact h) hbl.drew (fun _ => ?_)
     simp only [pickOps, List.append_eq, List.cons_append, List.nil_append, List.getElem?_toArray, List.getElem?_cons_succ, List.getElem?_cons_zero]
     have hb : Below w10.heap.size w10 w10.drew := (Below.refl _ _).drew
     generalize w10.drew = w11 at hb ⊢
     replace hbr := hbr.kept hb
     replace hbl := hbl.kept hb
     replace hbf := hbf.trans (hb.mono hbf.size)
     clear hb
     repeat (first | (refine seq_take (v := ?_) (by rfl) ?_ ?_; rotate_left; (· intro w hSw; (try dsimp only at hSw); obtain ⟨el0, el1, el2, el3, el4, _, _, _, _, _⟩ := hSw; go_simp; all_goals with_reducible rfl); (try simp only [Act.put, List.setIfInBounds_toArray, List.set_cons_zero, List.set_cons_succ])) | (refine seq_leave (by rfl) ?_; (try simp only [Act.put, List.setIfInBounds_toArray, List.set_cons_zero, List.set_cons_succ])))
     refine seq_pass (by rfl) hbl ?_
     (try simp only [Act.put, List.setIfInBounds_toArray, List.set_cons_zero, List.set_cons_succ])
     repeat (first | (refine seq_take (v := ?_) (by rfl) ?_ ?_; rotate_left; (· intro w hSw; (try dsimp only at hSw); obtain ⟨el0, el1, el2, el3, el4, _, _, _, _, _⟩ := hSw; go_simp; all_goals with_reducible rfl); (try simp only [Act.put, List.setIfInBounds_toArray, List.set_cons_zero, List.set_cons_succ])) | (refine seq_leave (by rfl) ?_; (try simp only [Act.put, List.setIfInBounds_toArray, List.set_cons_zero, List.set_cons_succ])))
     refine seq_pass (by rfl) hbl ?_
     (try simp only [Act.put, List.setIfInBounds_toArray, List.set_cons_zero, List.set_cons_succ])
     repeat (first | (refine seq_take (v := ?_) (by rfl) ?_ ?_; rotate_left; (· intro w hSw; (try dsimp only at hSw); obtain ⟨el0, el1, el2, el3, el4, _, _, _, _, _⟩ := hSw; go_simp; all_goals with_reducible rfl); (try simp only [Act.put, List.setIfInBounds_toArray, List.set_cons_zero, List.set_cons_succ])) | (refine seq_leave (by rfl) ?_; (try simp only [Act.put, List.setIfInBounds_toArray, List.set_cons_zero, List.set_cons_succ])))
     refine seq_step (by rfl) (fun K hK => ?_)
     have er0 := hbr.c0
     have fr0 := hbr.f0
     have er1 := hbr.c1
     have fr1 := hbr.f1
     have er2 := hbr.c2
     have fr2 := hbr.f2
     have er3 := hbr.c3
     have fr3 := hbr.f3
     have er4 := hbr.c4
     have fr4 := hbr.f4
     go_simp
     clear er0 fr0 er1 fr1 er2 fr2 er3 fr3 er4 fr4
     obtain ⟨w12, hwE⟩ : ∃ W, W = w11.setCell ⟨pr, 0, none⟩ (Value.bool (sneg l)) := ⟨_, rfl⟩
     rw [← hwE]
     replace hbl := hbl.setOther (show pl ≠ pr by have := HP.out; omega) 0 (Value.bool (sneg l)); rw [← hwE] at hbl
     replace hbf := hbf.setCell (p := ⟨pr, 0, none⟩) (show w.heap.size ≤ pr by have := HP.out; omega) (Value.bool (sneg l)); rw [← hwE] at hbf
     replace hbr := hbr.put0 (Value.bool (sneg l)); rw [← hwE] at hbr; clear hwE
     obtain ⟨w13, hwE⟩ : ∃ W, W = w12.setCell ⟨pr, 1, none⟩ (Value.string ⟨(List.nil : List UInt8).toArray⟩) := ⟨_, rfl⟩
     rw [← hwE]
     replace hbl := hbl.setOther (show pl ≠ pr by have := HP.out; omega) 1 (Value.string ⟨(List.nil : List UInt8).toArray⟩); rw [← hwE] at hbl
     replace hbf := hbf.setCell (p := ⟨pr, 1, none⟩) (show w.heap.size ≤ pr by have := HP.out; omega) (Value.string ⟨(List.nil : List UInt8).toArray⟩); rw [← hwE] at hbf
     replace hbr := hbr.put1 (Value.string ⟨(List.nil : List UInt8).toArray⟩); rw [← hwE] at hbr; clear hwE
     obtain ⟨w14, hwE⟩ : ∃ W, W = w13.setCell ⟨pr, 2, none⟩ (Value.int .i64 (b9.length : Nat)) := ⟨_, rfl⟩
     rw [← hwE]
     replace hbl := hbl.setOther (show pl ≠ pr by have := HP.out; omega) 2 (Value.int .i64 (b9.length : Nat)); rw [← hwE] at hbl
     replace hbf := hbf.setCell (p := ⟨pr, 2, none⟩) (show w.heap.size ≤ pr by have := HP.out; omega) (Value.int .i64 (b9.length : Nat)); rw [← hwE] at hbf
     replace hbr := hbr.put2 (Value.int .i64 (b9.length : Nat)); rw [← hwE] at hbr; clear hwE
     obtain ⟨w15, hwE⟩ : ∃ W, W = w14.setCell ⟨pr, 3, none⟩ (Value.bool (sneg x)) := ⟨_, rfl⟩
     rw [← hwE]
     replace hbl := hbl.setOther (show pl ≠ pr by have := HP.out; omega) 3 (Value.bool (sneg x)); rw [← hwE] at hbl
     replace hbf := hbf.setCell (p := ⟨pr, 3, none⟩) (show w.heap.size ≤ pr by have := HP.out; omega) (Value.bool (sneg x)); rw [← hwE] at hbf
     replace hbr := hbr.put3 (Value.bool (sneg x)); rw [← hwE] at hbr; clear hwE
     obtain ⟨w16, hwE⟩ : ∃ W, W = w15.setCell ⟨pr, 4, none⟩ (Value.string ⟨X.toArray⟩) := ⟨_, rfl⟩
     rw [← hwE]
     replace hbl := hbl.setOther (show pl ≠ pr by have := HP.out; omega) 4 (Value.string ⟨X.toArray⟩); rw [← hwE] at hbl
     replace hbf := hbf.setCell (p := ⟨pr, 4, none⟩) (show w.heap.size ≤ pr by have := HP.out; omega) (Value.string ⟨X.toArray⟩); rw [← hwE] at hbf
     replace hbr := hbr.put4 (Value.string ⟨X.toArray⟩); rw [← hwE] at hbr; clear hwE
     first | refine hK.out _ _ hbl (fun _ => ?_) | (go_wp2_with fail; refine hK.out _ _ hbl (fun _ => ?_))
     clear hK K
     (try simp only [Act.put, List.setIfInBounds_toArray, List.set_cons_zero, List.set_cons_succ])
     repeat (first | (refine seq_take (v := ?_) (by rfl) ?_ ?_; rotate_left; (· intro w hSw; (try dsimp only at hSw); obtain ⟨el0, el1, el2, el3, el4, _, _, _, _, _⟩ := hSw; go_simp; all_goals with_reducible rfl); (try simp only [Act.put, List.setIfInBounds_toArray, List.set_cons_zero, List.set_cons_succ])) | (refine seq_leave (by rfl) ?_; (try simp only [Act.put, List.setIfInBounds_toArray, List.set_cons_zero, List.set_cons_succ])))
     refine seq_end ?_
     have er0 := hbr.c0
     have fr0 := hbr.f0
     have er1 := hbr.c1
     have fr1 := hbr.f1
     have er2 := hbr.c2
     have fr2 := hbr.f2
     have er3 := hbr.c3
     have fr3 := hbr.f3
     have er4 := hbr.c4
     have fr4 := hbr.f4
     go_wp2_with fail
     clear er0 fr0 er1 fr1 er2 fr2 er3 fr3 er4 fr4
     (try rw [Exit.noGoto_ret])
     refine ret_lit_tmp rfl rfl rfl hbr rfl ⟨?_, hbf⟩
     unfold litV
     rw [HIS.out, HA.out, HBL.out, HXD.out, HXN.out]
     (try rfl)
    case neg =>
     have hne1 := nil_beq h1
     by_cases h2 : X = []
     case pos =>
      have HIS : Hid (litIs l = false) := Lib.hid (by unfold litIs; rw [HXD.out, h2]; simp)
      subst h2
      refine wp_region_seq (S := fun w' => Box5 w' pl (Value.bool (sneg l)) (Value.string ⟨A.toArray⟩) (Value.int .i64 (b9.length : Nat)) (Value.bool (sneg x)) (Value.string ⟨(List.nil : List UInt8).toArray⟩)) [(true, 0), (true, 1), (true, 2), (true, 3), (true, 4), (true, 5), (true, 6), (true, 7), (true, 8), (true, 9), (true, 10), (true, 11), (false, 12), (true, 13), (true, 14), (true, 15), (true, 16), (false, 17), (true, 18), (false, 19), (true, 20)] (by kernel_rfl) (by kernel_rfl) (by kernel_rfl) (by kernel_rfl) (by kernel_rfl) (fun d _ _ _ _ h => by cases d <;> exact h) hbl.drew (fun _ => ?_)
      simp only [pickOps, List.append_eq, List.cons_append, List.nil_append, List.getElem?_toArray, List.getElem?_cons_succ, List.getElem?_cons_zero]
      have hb : Below w10.heap.size w10 w10.drew := (Below.refl _ _).drew
      generalize w10.drew = w11 at hb ⊢
      replace hbr := hbr.kept hb
      replace hbl := hbl.kept hb
      replace hbf := hbf.trans (hb.mono hbf.size)
      clear hb
      repeat (first | (refine seq_take (v := ?_) (by rfl) ?_ ?_; rotate_left; (· intro w hSw; (try dsimp only at hSw); obtain ⟨el0, el1, el2, el3, el4, _, _, _, _, _⟩ := hSw; go_simp; all_goals with_reducible rfl); (try simp only [Act.put, List.setIfInBounds_toArray, List.set_cons_zero, List.set_cons_succ])) | (refine seq_leave (by rfl) ?_; (try simp only [Act.put, List.setIfInBounds_toArray, List.set_cons_zero, List.set_cons_succ])))
      refine seq_pass (by rfl) hbl ?_
      (try simp only [Act.put, List.setIfInBounds_toArray, List.set_cons_zero, List.set_cons_succ])
      repeat (first | (refine seq_take (v := ?_) (by rfl) ?_ ?_; rotate_left; (· intro w hSw; (try dsimp only at hSw); obtain ⟨el0, el1, el2, el3, el4, _, _, _, _, _⟩ := hSw; go_simp; all_goals with_reducible rfl); (try simp only [Act.put, List.setIfInBounds_toArray, List.set_cons_zero, List.set_cons_succ])) | (refine seq_leave (by rfl) ?_; (try simp only [Act.put, List.setIfInBounds_toArray, List.set_cons_zero, List.set_cons_succ])))
      refine seq_pass (by rfl) hbl ?_
      (try simp only [Act.put, List.setIfInBounds_toArray, List.set_cons_zero, List.set_cons_succ])
      repeat (first | (refine seq_take (v := ?_) (by rfl) ?_ ?_; rotate_left; (· intro w hSw; (try dsimp only at hSw); obtain ⟨el0, el1, el2, el3, el4, _, _, _, _, _⟩ := hSw; go_simp; all_goals with_reducible rfl); (try simp only [Act.put, List.setIfInBounds_toArray, List.set_cons_zero, List.set_cons_succ])) | (refine seq_leave (by rfl) ?_; (try simp only [Act.put, List.setIfInBounds_toArray, List.set_cons_zero, List.set_cons_succ])))
      refine seq_step (by rfl) (fun K hK => ?_)
      have er0 := hbr.c0
      have fr0 := hbr.f0
      have er1 := hbr.c1
      have fr1 := hbr.f1
      have er2 := hbr.c2
      have fr2 := hbr.f2
      have er3 := hbr.c3
      have fr3 := hbr.f3
      have er4 := hbr.c4
      have fr4 := hbr.f4
      go_simp
      clear er0 fr0 er1 fr1 er2 fr2 er3 fr3 er4 fr4
      obtain ⟨w12, hwE⟩ : ∃ W, W = w11.setCell ⟨pr, 0, none⟩ (Value.bool (sneg l)) := ⟨_, rfl⟩
      rw [← hwE]
      replace hbl := hbl.setOther (show pl ≠ pr by have := HP.out; omega) 0 (Value.bool (sneg l)); rw [← hwE] at hbl
      replace hbf := hbf.setCell (p := ⟨pr, 0, none⟩) (show w.heap.size ≤ pr by have := HP.out; omega) (Value.bool (sneg l)); rw [← hwE] at hbf
      replace hbr := hbr.put0 (Value.bool (sneg l)); rw [← hwE] at hbr; clear hwE
      obtain ⟨w13, hwE⟩ : ∃ W, W = w12.setCell ⟨pr, 1, none⟩ (Value.string ⟨A.toArray⟩) := ⟨_, rfl⟩
      rw [← hwE]
      replace hbl := hbl.setOther (show pl ≠ pr by have := HP.out; omega) 1 (Value.string ⟨A.toArray⟩); rw [← hwE] at hbl
      replace hbf := hbf.setCell (p := ⟨pr, 1, none⟩) (show w.heap.size ≤ pr by have := HP.out; omega) (Value.string ⟨A.toArray⟩); rw [← hwE] at hbf
      replace hbr := hbr.put1 (Value.string ⟨A.toArray⟩); rw [← hwE] at hbr; clear hwE
      obtain ⟨w14, hwE⟩ : ∃ W, W = w13.setCell ⟨pr, 2, none⟩ (Value.int .i64 (b9.length : Nat)) := ⟨_, rfl⟩
      rw [← hwE]
      replace hbl := hbl.setOther (show pl ≠ pr by have := HP.out; omega) 2 (Value.int .i64 (b9.length : Nat)); rw [← hwE] at hbl
      replace hbf := hbf.setCell (p := ⟨pr, 2, none⟩) (show w.heap.size ≤ pr by have := HP.out; omega) (Value.int .i64 (b9.length : Nat)); rw [← hwE] at hbf
      replace hbr := hbr.put2 (Value.int .i64 (b9.length : Nat)); rw [← hwE] at hbr; clear hwE
      obtain ⟨w15, hwE⟩ : ∃ W, W = w14.setCell ⟨pr, 3, none⟩ (Value.bool (sneg x)) := ⟨_, rfl⟩
      rw [← hwE]
      replace hbl := hbl.setOther (show pl ≠ pr by have := HP.out; omega) 3 (Value.bool (sneg x)); rw [← hwE] at hbl
      replace hbf := hbf.setCell (p := ⟨pr, 3, none⟩) (show w.heap.size ≤ pr by have := HP.out; omega) (Value.bool (sneg x)); rw [← hwE] at hbf
      replace hbr := hbr.put3 (Value.bool (sneg x)); rw [← hwE] at hbr; clear hwE
      obtain ⟨w16, hwE⟩ : ∃ W, W = w15.setCell ⟨pr, 4, none⟩ (Value.string ⟨(List.nil : List UInt8).toArray⟩) := ⟨_, rfl⟩
      rw [← hwE]
      replace hbl := hbl.setOther (show pl ≠ pr by have := HP.out; omega) 4 (Value.string ⟨(List.nil : List UInt8).toArray⟩); rw [← hwE] at hbl
      replace hbf := hbf.setCell (p := ⟨pr, 4, none⟩) (show w.heap.size ≤ pr by have := HP.out; omega) (Value.string ⟨(List.nil : List UInt8).toArray⟩); rw [← hwE] at hbf
      replace hbr := hbr.put4 (Value.string ⟨(List.nil : List UInt8).toArray⟩); rw [← hwE] at hbr; clear hwE
      first | refine hK.out _ _ hbl (fun _ => ?_) | (go_wp2_with fail; refine hK.out _ _ hbl (fun _ => ?_))
      clear hK K
      (try simp only [Act.put, List.setIfInBounds_toArray, List.set_cons_zero, List.set_cons_succ])
      repeat (first | (refine seq_take (v := ?_) (by rfl) ?_ ?_; rotate_left; (· intro w hSw; (try dsimp only at hSw); obtain ⟨el0, el1, el2, el3, el4, _, _, _, _, _⟩ := hSw; go_simp; all_goals with_reducible rfl); (try simp only [Act.put, List.setIfInBounds_toArray, List.set_cons_zero, List.set_cons_succ])) | (refine seq_leave (by rfl) ?_; (try simp only [Act.put, List.setIfInBounds_toArray, List.set_cons_zero, List.set_cons_succ])))
      refine seq_end ?_
      have er0 := hbr.c0
      have fr0 := hbr.f0
      have er1 := hbr.c1
      have fr1 := hbr.f1
      have er2 := hbr.c2
      have fr2 := hbr.f2
      have er3 := hbr.c3
      have fr3 := hbr.f3
      have er4 := hbr.c4
      have fr4 := hbr.f4
      go_wp2_with fail
      clear er0 fr0 er1 fr1 er2 fr2 er3 fr3 er4 fr4
      (try rw [Exit.noGoto_ret])
      refine ret_lit_tmp rfl rfl rfl hbr rfl ⟨?_, hbf⟩
      unfold litV
      rw [HIS.out, HA.out, HBL.out, HXD.out, HXN.out]
      (try rfl)
     case neg =>
      have hne2 := nil_beq h2
      obtain ⟨dA, hdA⟩ : ∃ b, b = A.all isDig := ⟨_, rfl⟩
      have HDA : Hid (A.all isDig = dA) := Lib.hid hdA.symm
      clear hdA
      cases dA
      case false =>
       have HIS : Hid (litIs l = false) := Lib.hid (by unfold litIs; rw [HA.out, HDA.out]; simp)
       refine wp_region_seq (S := fun w' => Box5 w' pl (Value.bool (sneg l)) (Value.string ⟨A.toArray⟩) (Value.int .i64 (b9.length : Nat)) (Value.bool (sneg x)) (Value.string ⟨X.toArray⟩)) [(true, 0), (true, 1), (true, 2), (true, 3), (true, 4), (true, 5), (true, 6), (true, 7), (true, 8), (true, 9), (true, 10), (true, 11), (false, 12), (true, 13), (true, 14), (true, 15), (true, 16), (false, 17), (true, 18), (false, 19), (true, 20)] (by kernel_rfl) (by kernel_rfl) (by kernel_rfl) (by kernel_rfl) (by kernel_rfl) (fun d _ _ _ _ h => by cases d <;> exact h) hbl.drew (fun _ => ?_)
       simp only [pickOps, List.append_eq, List.cons_append, List.nil_append, List.getElem?_toArray, List.getElem?_cons_succ, List.getElem?_cons_zero]
       have hb : Below w10.heap.size w10 w10.drew := (Below.refl _ _).drew
       generalize w10.drew = w11 at hb ⊢
       replace hbr := hbr.kept hb
       replace hbl := hbl.kept hb
       replace hbf := hbf.trans (hb.mono hbf.size)
       clear hb
       repeat (first | (refine seq_take (v := ?_) (by rfl) ?_ ?_; rotate_left; (· intro w hSw; (try dsimp only at hSw); obtain ⟨el0, el1, el2, el3, el4, _, _, _, _, _⟩ := hSw; go_simp; all_goals with_reducible rfl); (try simp only [Act.put, List.setIfInBounds_toArray, List.set_cons_zero, List.set_cons_succ])) | (refine seq_leave (by rfl) ?_; (try simp only [Act.put, List.setIfInBounds_toArray, List.set_cons_zero, List.set_cons_succ])))
       refine seq_step (by rfl) (fun K hK => ?_)
       go_simp
       go_at_call 207
       (with_reducible refine (ddigits_b A false _ (by omega) HDA).mono ?_)
       rintro e w12 ⟨rfl, hb⟩
       replace hbr := hbr.kept hb
       replace hbl := hbl.kept hb
       replace hbf := hbf.trans (hb.mono hbf.size)
       clear hb
       first | refine hK.out _ _ hbl (fun _ => ?_) | (go_wp2_with fail; refine hK.out _ _ hbl (fun _ => ?_))
       clear hK K
       (try simp only [Act.put, List.setIfInBounds_toArray, List.set_cons_zero, List.set_cons_succ])
       repeat (first | (refine seq_take (v := ?_) (by rfl) ?_ ?_; rotate_left; (· intro w hSw; (try dsimp only at hSw); obtain ⟨el0, el1, el2, el3, el4, _, _, _, _, _⟩ := hSw; go_simp; all_goals with_reducible rfl); (try simp only [Act.put, List.setIfInBounds_toArray, List.set_cons_zero, List.set_cons_succ])) | (refine seq_leave (by rfl) ?_; (try simp only [Act.put, List.setIfInBounds_toArray, List.set_cons_zero, List.set_cons_succ])))
       refine seq_pass (by rfl) hbl ?_
       (try simp only [Act.put, List.setIfInBounds_toArray, List.set_cons_zero, List.set_cons_succ])
       repeat (first | (refine seq_take (v := ?_) (by rfl) ?_ ?_; rotate_left; (· intro w hSw; (try dsimp only at hSw); obtain ⟨el0, el1, el2, el3, el4, _, _, _, _, _⟩ := hSw; go_simp; all_goals with_reducible rfl); (try simp only [Act.put, List.setIfInBounds_toArray, List.set_cons_zero, List.set_cons_succ])) | (refine seq_leave (by rfl) ?_; (try simp only [Act.put, List.setIfInBounds_toArray, List.set_cons_zero, List.set_cons_succ])))
       refine seq_step (by rfl) (fun K hK => ?_)
       have er0 := hbr.c0
       have fr0 := hbr.f0
       have er1 := hbr.c1
       have fr1 := hbr.f1
       have er2 := hbr.c2
       have fr2 := hbr.f2
       have er3 := hbr.c3
       have fr3 := hbr.f3
       have er4 := hbr.c4
       have fr4 := hbr.f4
       go_simp
       clear er0 fr0 er1 fr1 er2 fr2 er3 fr3 er4 fr4
       obtain ⟨w13, hwE⟩ : ∃ W, W = w12.setCell ⟨pr, 0, none⟩ (Value.bool (sneg l)) := ⟨_, rfl⟩
       rw [← hwE]
       replace hbl := hbl.setOther (show pl ≠ pr by have := HP.out; omega) 0 (Value.bool (sneg l)); rw [← hwE] at hbl
       replace hbf := hbf.setCell (p := ⟨pr, 0, none⟩) (show w.heap.size ≤ pr by have := HP.out; omega) (Value.bool (sneg l)); rw [← hwE] at hbf
       replace hbr := hbr.put0 (Value.bool (sneg l)); rw [← hwE] at hbr; clear hwE
       obtain ⟨w14, hwE⟩ : ∃ W, W = w13.setCell ⟨pr, 1, none⟩ (Value.string ⟨A.toArray⟩) := ⟨_, rfl⟩
       rw [← hwE]
       replace hbl := hbl.setOther (show pl ≠ pr by have := HP.out; omega) 1 (Value.string ⟨A.toArray⟩); rw [← hwE] at hbl
       replace hbf := hbf.setCell (p := ⟨pr, 1, none⟩) (show w.heap.size ≤ pr by have := HP.out; omega) (Value.string ⟨A.toArray⟩); rw [← hwE] at hbf
       replace hbr := hbr.put1 (Value.string ⟨A.toArray⟩); rw [← hwE] at hbr; clear hwE
       obtain ⟨w15, hwE⟩ : ∃ W, W = w14.setCell ⟨pr, 2, none⟩ (Value.int .i64 (b9.length : Nat)) := ⟨_, rfl⟩
       rw [← hwE]
       replace hbl := hbl.setOther (show pl ≠ pr by have := HP.out; omega) 2 (Value.int .i64 (b9.length : Nat)); rw [← hwE] at hbl
       replace hbf := hbf.setCell (p := ⟨pr, 2, none⟩) (show w.heap.size ≤ pr by have := HP.out; omega) (Value.int .i64 (b9.length : Nat)); rw [← hwE] at hbf
       replace hbr := hbr.put2 (Value.int .i64 (b9.length : Nat)); rw [← hwE] at hbr; clear hwE
       obtain ⟨w16, hwE⟩ : ∃ W, W = w15.setCell ⟨pr, 3, none⟩ (Value.bool (sneg x)) := ⟨_, rfl⟩
       rw [← hwE]
       replace hbl := hbl.setOther (show pl ≠ pr by have := HP.out; omega) 3 (Value.bool (sneg x)); rw [← hwE] at hbl
       replace hbf := hbf.setCell (p := ⟨pr, 3, none⟩) (show w.heap.size ≤ pr by have := HP.out; omega) (Value.bool (sneg x)); rw [← hwE] at hbf
       replace hbr := hbr.put3 (Value.bool (sneg x)); rw [← hwE] at hbr; clear hwE
       obtain ⟨w17, hwE⟩ : ∃ W, W = w16.setCell ⟨pr, 4, none⟩ (Value.string ⟨X.toArray⟩) := ⟨_, rfl⟩
       rw [← hwE]
       replace hbl := hbl.setOther (show pl ≠ pr by have := HP.out; omega) 4 (Value.string ⟨X.toArray⟩); rw [← hwE] at hbl
       replace hbf := hbf.setCell (p := ⟨pr, 4, none⟩) (show w.heap.size ≤ pr by have := HP.out; omega) (Value.string ⟨X.toArray⟩); rw [← hwE] at hbf
       replace hbr := hbr.put4 (Value.string ⟨X.toArray⟩); rw [← hwE] at hbr; clear hwE
       first | refine hK.out _ _ hbl (fun _ => ?_) | (go_wp2_with fail; refine hK.out _ _ hbl (fun _ => ?_))
       clear hK K
       (try simp only [Act.put, List.setIfInBounds_toArray, List.set_cons_zero, List.set_cons_succ])
       repeat (first | (refine seq_take (v := ?_) (by rfl) ?_ ?_; rotate_left; (· intro w hSw; (try dsimp only at hSw); obtain ⟨el0, el1, el2, el3, el4, _, _, _, _, _⟩ := hSw; go_simp; all_goals with_reducible rfl); (try simp only [Act.put, List.setIfInBounds_toArray, List.set_cons_zero, List.set_cons_succ])) | (refine seq_leave (by rfl) ?_; (try simp only [Act.put, List.setIfInBounds_toArray, List.set_cons_zero, List.set_cons_succ])))
       refine seq_end ?_
       have er0 := hbr.c0
       have fr0 := hbr.f0
       have er1 := hbr.c1
       have fr1 := hbr.f1
       have er2 := hbr.c2
       have fr2 := hbr.f2
       have er3 := hbr.c3
       have fr3 := hbr.f3
       have er4 := hbr.c4
       have fr4 := hbr.f4
       go_wp2_with fail
       clear er0 fr0 er1 fr1 er2 fr2 er3 fr3 er4 fr4
       (try rw [Exit.noGoto_ret])
       refine ret_lit_tmp rfl rfl rfl hbr rfl ⟨?_, hbf⟩
       unfold litV
       rw [HIS.out, HA.out, HBL.out, HXD.out, HXN.out]
       (try rfl)
      case true =>
       obtain ⟨dX, hdX⟩ : ∃ b, b = X.all isDig := ⟨_, rfl⟩
       have HDX9 : Hid (X.all isDig = dX) := Lib.hid hdX.symm
       have HIS : Hid (litIs l = dX) := Lib.hid (by unfold litIs; rw [HA.out, HXD.out, HDA.out, hdX]; cases A with | nil => exact (h1 rfl).elim | cons => cases X with | nil => exact (h2 rfl).elim | cons => simp)
       clear hdX
       refine wp_region_seq (S := fun w' => Box5 w' pl (Value.bool (sneg l)) (Value.string ⟨A.toArray⟩) (Value.int .i64 (b9.length : Nat)) (Value.bool (sneg x)) (Value.string ⟨X.toArray⟩)) [(true, 0), (true, 1), (true, 2), (true, 3), (true, 4), (true, 5), (true, 6), (true, 7), (true, 8), (true, 9), (true, 10), (true, 11), (false, 12), (true, 13), (true, 14), (true, 15), (true, 16), (false, 17), (true, 18), (false, 19), (true, 20)] (by kernel_rfl) (by kernel_rfl) (by kernel_rfl) (by kernel_rfl) (by kernel_rfl) (fun d _ _ _ _ h => by cases d <;> exact h) hbl.drew (fun _ => ?_)
       simp only [pickOps, List.append_eq, List.cons_append, List.nil_append, List.getElem?_toArray, List.getElem?_cons_succ, List.getElem?_cons_zero]
       have hb : Below w10.heap.size w10 w10.drew := (Below.refl _ _).drew
       generalize w10.drew = w11 at hb ⊢
       replace hbr := hbr.kept hb
       replace hbl := hbl.kept hb
       replace hbf := hbf.trans (hb.mono hbf.size)
       clear hb
       repeat (first | (refine seq_take (v := ?_) (by rfl) ?_ ?_; rotate_left; (· intro w hSw; (try dsimp only at hSw); obtain ⟨el0, el1, el2, el3, el4, _, _, _, _, _⟩ := hSw; go_simp; all_goals with_reducible rfl); (try simp only [Act.put, List.setIfInBounds_toArray, List.set_cons_zero, List.set_cons_succ])) | (refine seq_leave (by rfl) ?_; (try simp only [Act.put, List.setIfInBounds_toArray, List.set_cons_zero, List.set_cons_succ])))
       refine seq_step (by rfl) (fun K hK => ?_)
       go_simp
       go_at_call 207
       (with_reducible refine (ddigits_b A true _ (by omega) HDA).mono ?_)
       rintro e w12 ⟨rfl, hb⟩
       replace hbr := hbr.kept hb
       replace hbl := hbl.kept hb
       replace hbf := hbf.trans (hb.mono hbf.size)
       clear hb
       first | refine hK.out _ _ hbl (fun _ => ?_) | (go_wp2_with fail; refine hK.out _ _ hbl (fun _ => ?_))
       clear hK K
       (try simp only [Act.put, List.setIfInBounds_toArray, List.set_cons_zero, List.set_cons_succ])
       repeat (first | (refine seq_take (v := ?_) (by rfl) ?_ ?_; rotate_left; (· intro w hSw; (try dsimp only at hSw); obtain ⟨el0, el1, el2, el3, el4, _, _, _, _, _⟩ := hSw; go_simp; all_goals with_reducible rfl); (try simp only [Act.put, List.setIfInBounds_toArray, List.set_cons_zero, List.set_cons_succ])) | (refine seq_leave (by rfl) ?_; (try simp only [Act.put, List.setIfInBounds_toArray, List.set_cons_zero, List.set_cons_succ])))
       refine seq_step (by rfl) (fun K hK => ?_)
       go_simp
       go_at_call 207
       (with_reducible refine (ddigits_b X dX _ (by omega) HDX9).mono ?_)
       rintro e w13 ⟨rfl, hb⟩
       replace hbr := hbr.kept hb
       replace hbl := hbl.kept hb
       replace hbf := hbf.trans (hb.mono hbf.size)
       clear hb
       first | refine hK.out _ _ hbl (fun _ => ?_) | (go_wp2_with fail; refine hK.out _ _ hbl (fun _ => ?_))
       clear hK K
       (try simp only [Act.put, List.setIfInBounds_toArray, List.set_cons_zero, List.set_cons_succ])
       repeat (first | (refine seq_take (v := ?_) (by rfl) ?_ ?_; rotate_left; (· intro w hSw; (try dsimp only at hSw); obtain ⟨el0, el1, el2, el3, el4, _, _, _, _, _⟩ := hSw; go_simp; all_goals with_reducible rfl); (try simp only [Act.put, List.setIfInBounds_toArray, List.set_cons_zero, List.set_cons_succ])) | (refine seq_leave (by rfl) ?_; (try simp only [Act.put, List.setIfInBounds_toArray, List.set_cons_zero, List.set_cons_succ])))
       refine seq_step (by rfl) (fun K hK => ?_)
       have er0 := hbr.c0
       have fr0 := hbr.f0
       have er1 := hbr.c1
       have fr1 := hbr.f1
       have er2 := hbr.c2
       have fr2 := hbr.f2
       have er3 := hbr.c3
       have fr3 := hbr.f3
       have er4 := hbr.c4
       have fr4 := hbr.f4
       go_simp
       clear er0 fr0 er1 fr1 er2 fr2 er3 fr3 er4 fr4
       obtain ⟨w14, hwE⟩ : ∃ W, W = w13.setCell ⟨pr, 0, none⟩ (Value.bool (sneg l)) := ⟨_, rfl⟩
       rw [← hwE]
       replace hbl := hbl.setOther (show pl ≠ pr by have := HP.out; omega) 0 (Value.bool (sneg l)); rw [← hwE] at hbl
       replace hbf := hbf.setCell (p := ⟨pr, 0, none⟩) (show w.heap.size ≤ pr by have := HP.out; omega) (Value.bool (sneg l)); rw [← hwE] at hbf
       replace hbr := hbr.put0 (Value.bool (sneg l)); rw [← hwE] at hbr; clear hwE
       obtain ⟨w15, hwE⟩ : ∃ W, W = w14.setCell ⟨pr, 1, none⟩ (Value.string ⟨A.toArray⟩) := ⟨_, rfl⟩
       rw [← hwE]
       replace hbl := hbl.setOther (show pl ≠ pr by have := HP.out; omega) 1 (Value.string ⟨A.toArray⟩); rw [← hwE] at hbl
       replace hbf := hbf.setCell (p := ⟨pr, 1, none⟩) (show w.heap.size ≤ pr by have := HP.out; omega) (Value.string ⟨A.toArray⟩); rw [← hwE] at hbf
       replace hbr := hbr.put1 (Value.string ⟨A.toArray⟩); rw [← hwE] at hbr; clear hwE
       obtain ⟨w16, hwE⟩ : ∃ W, W = w15.setCell ⟨pr, 2, none⟩ (Value.int .i64 (b9.length : Nat)) := ⟨_, rfl⟩
       rw [← hwE]
       replace hbl := hbl.setOther (show pl ≠ pr by have := HP.out; omega) 2 (Value.int .i64 (b9.length : Nat)); rw [← hwE] at hbl
       replace hbf := hbf.setCell (p := ⟨pr, 2, none⟩) (show w.heap.size ≤ pr by have := HP.out; omega) (Value.int .i64 (b9.length : Nat)); rw [← hwE] at hbf
       replace hbr := hbr.put2 (Value.int .i64 (b9.length : Nat)); rw [← hwE] at hbr; clear hwE
       obtain ⟨w17, hwE⟩ : ∃ W, W = w16.setCell ⟨pr, 3, none⟩ (Value.bool (sneg x)) := ⟨_, rfl⟩
       rw [← hwE]
       replace hbl := hbl.setOther (show pl ≠ pr by have := HP.out; omega) 3 (Value.bool (sneg x)); rw [← hwE] at hbl
       replace hbf := hbf.setCell (p := ⟨pr, 3, none⟩) (show w.heap.size ≤ pr by have := HP.out; omega) (Value.bool (sneg x)); rw [← hwE] at hbf
       replace hbr := hbr.put3 (Value.bool (sneg x)); rw [← hwE] at hbr; clear hwE
       obtain ⟨w18, hwE⟩ : ∃ W, W = w17.setCell ⟨pr, 4, none⟩ (Value.string ⟨X.toArray⟩) := ⟨_, rfl⟩
       rw [← hwE]
       replace hbl := hbl.setOther (show pl ≠ pr by have := HP.out; omega) 4 (Value.string ⟨X.toArray⟩); rw [← hwE] at hbl
       replace hbf := hbf.setCell (p := ⟨pr, 4, none⟩) (show w.heap.size ≤ pr by have := HP.out; omega) (Value.string ⟨X.toArray⟩); rw [← hwE] at hbf
       replace hbr := hbr.put4 (Value.string ⟨X.toArray⟩); rw [← hwE] at hbr; clear hwE
       first | refine hK.out _ _ hbl (fun _ => ?_) | (go_wp2_with fail; refine hK.out _ _ hbl (fun _ => ?_))
       clear hK K
       (try simp only [Act.put, List.setIfInBounds_toArray, List.set_cons_zero, List.set_cons_succ])
       repeat (first | (refine seq_take (v := ?_) (by rfl) ?_ ?_; rotate_left; (· intro w hSw; (try dsimp only at hSw); obtain ⟨el0, el1, el2, el3, el4, _, _, _, _, _⟩ := hSw; go_simp; all_goals with_reducible rfl); (try simp only [Act.put, List.setIfInBounds_toArray, List.set_cons_zero, List.set_cons_succ])) | (refine seq_leave (by rfl) ?_; (try simp only [Act.put, List.setIfInBounds_toArray, List.set_cons_zero, List.set_cons_succ])))
       refine seq_end ?_
       have er0 := hbr.c0
       have fr0 := hbr.f0
       have er1 := hbr.c1
       have fr1 := hbr.f1
       have er2 := hbr.c2
       have fr2 := hbr.f2
       have er3 := hbr.c3
       have fr3 := hbr.f3
       have er4 := hbr.c4
       have fr4 := hbr.f4
       go_wp2_with fail
       clear er0 fr0 er1 fr1 er2 fr2 er3 fr3 er4 fr4
       (try rw [Exit.noGoto_ret])
       refine ret_lit_tmp rfl rfl rfl hbr rfl ⟨?_, hbf⟩
       unfold litV
       rw [HIS.out, HA.out, HBL.out, HXD.out, HXN.out]
       (try rfl)
   case inr =>
    subst hce
    have el0 := hbl.c0
    have el1 := hbl.c1
    have el2 := hbl.c2
    have el3 := hbl.c3
    have el4 := hbl.c4
    go_wp2_with fail
    refine (pcutat_any m _ hml).mono ?_
    rintro e w4 ⟨rfl, hb⟩
    clear el0 el1 el2 el3 el4
    replace hbr := hbr.kept hb
    replace hbl := hbl.kept hb
    replace hbf := hbf.trans (hb.mono hbf.size)
    clear hb
    obtain ⟨a, ha⟩ : ∃ a, a = pAt m := ⟨_, rfl⟩
    obtain ⟨b9, hb9⟩ : ∃ b, b = pOn m := ⟨_, rfl⟩
    rw [← ha, ← hb9]
    have hA : lall l = a ++ b9 := by rw [ha, hb9, HM.out]; rfl
    have hB : (lbehind l).length = b9.length := by rw [hb9, HM.out]; rfl
    have HBL := Lib.hid hB
    have hlb : b9.length ≤ 100000 := by rw [← HBL.out]; have h1 := lbehind_le l; have h2 := lall_le l; have h3 := lman_le l; omega
    have hla : a.length ≤ 100000 := by have h1 : (lall l).length = a.length + b9.length := (by rw [hA, List.length_append]); have h2 := lall_le l; have h3 := lman_le l; omega
    clear ha hb9 hB
    obtain ⟨A, hA2⟩ : ∃ A, A = a ++ b9 := ⟨_, rfl⟩
    have hap : (⟨a.toArray⟩ ++ ⟨b9.toArray⟩ : ByteArray) = ⟨A.toArray⟩ := by rw [hA2]; exact bytes_append a b9
    rw [← hA2] at hA
    have HA := Lib.hid hA
    clear hA hA2
    have el0 := hbl.c0
    have fl0 := hbl.f0
    have el1 := hbl.c1
    have fl1 := hbl.f1
    have el2 := hbl.c2
    have fl2 := hbl.f2
    have el3 := hbl.c3
    have fl3 := hbl.f3
    have el4 := hbl.c4
    have fl4 := hbl.f4
    go_upto_region 14 with fail
    clear el0 fl0 el1 fl1 el2 fl2 el3 fl3 el4 fl4
    obtain ⟨w5, hwE⟩ : ∃ W, W = w4.setCell ⟨pl, 1, none⟩ (Value.string ⟨A.toArray⟩) := ⟨_, rfl⟩
    rw [← hwE]
    replace hbr := hbr.setOther (show pr ≠ pl by have := HP.out; omega) 1 (Value.string ⟨A.toArray⟩); rw [← hwE] at hbr
    replace hbf := hbf.setCell (p := ⟨pl, 1, none⟩) (show w.heap.size ≤ pl by have := HP.out; omega) (Value.string ⟨A.toArray⟩); rw [← hwE] at hbf
    replace hbl := hbl.put1 (Value.string ⟨A.toArray⟩); rw [← hwE] at hbl; clear hwE
    obtain ⟨w6, hwE⟩ : ∃ W, W = w5.setCell ⟨pl, 2, none⟩ (Value.int .i64 (b9.length : Nat)) := ⟨_, rfl⟩
    rw [← hwE]
    replace hbr := hbr.setOther (show pr ≠ pl by have := HP.out; omega) 2 (Value.int .i64 (b9.length : Nat)); rw [← hwE] at hbr
    replace hbf := hbf.setCell (p := ⟨pl, 2, none⟩) (show w.heap.size ≤ pl by have := HP.out; omega) (Value.int .i64 (b9.length : Nat)); rw [← hwE] at hbf
    replace hbl := hbl.put2 (Value.int .i64 (b9.length : Nat)); rw [← hwE] at hbl; clear hwE
    obtain ⟨w7, hwE⟩ : ∃ W, W = w6.setCell ⟨pl, 4, none⟩ (Value.string ⟨#[48]⟩) := ⟨_, rfl⟩
    rw [← hwE]
    replace hbr := hbr.setOther (show pr ≠ pl by have := HP.out; omega) 4 (Value.string ⟨#[48]⟩); rw [← hwE] at hbr
    replace hbf := hbf.setCell (p := ⟨pl, 4, none⟩) (show w.heap.size ≤ pl by have := HP.out; omega) (Value.string ⟨#[48]⟩); rw [← hwE] at hbf
    replace hbl := hbl.put4 (Value.string ⟨#[48]⟩); rw [← hwE] at hbl; clear hwE
    have hlA : A.length ≤ 100000 := by rw [← HA.out]; have h2 := lall_le l; have h3 := lman_le l; omega
    obtain ⟨x, hx⟩ : ∃ x, x = lexp l := ⟨_, rfl⟩
    have hex : (⟨s.toArray⟩ : ByteArray).extract (m.length + 1) s.length = ⟨x.toArray⟩ := by rw [bytes_extract, List.take_length, hx, HDX.out]
    have hlx : x.length ≤ 9223372036854775807 := by rw [hx]; have := lexp_le l; omega
    have hxd : xdig l = srest x := by unfold xdig; rw [if_pos HE.out, hx]
    have hxn : xneg l = sneg x := by unfold xneg; rw [HE.out, hx]; rfl
    have HXN := Lib.hid hxn
    obtain ⟨X, hX⟩ : ∃ X, X = srest x := ⟨_, rfl⟩
    rw [← hX] at hxd
    have HXD := Lib.hid hxd
    clear hxn hxd
    have HXS := Lib.hid hX
    clear hX hx
    have hk3 : ((m.length : Nat) : Int) + 1 ≤ ((s.length : Nat) : Int) := by omega
    have hk4 : (0 : Int) ≤ ((m.length : Nat) : Int) + 1 := by omega
    have hk6 : (((m.length : Nat) : Int) + 1).toNat = m.length + 1 := by omega
    have hk5 : IntKind.i64.wrap (((m.length : Nat) : Int) + 1) = ((m.length : Nat) : Int) + 1 := by simp [IntKind.wrap, IntKind.bits, IntKind.signed]; omega
    have el0 := hbl.c0
    have el1 := hbl.c1
    have el2 := hbl.c2
    have el3 := hbl.c3
    have el4 := hbl.c4
    go_wp2_with fail
    refine (sign_any x _ hlx).mono ?_
    rintro e w8 ⟨rfl, hb⟩
    clear el0 el1 el2 el3 el4
    replace hbr := hbr.kept hb
    replace hbl := hbl.kept hb
    replace hbf := hbf.trans (hb.mono hbf.size)
    clear hb
    rw [← HXS.out]
    clear hex
    have el0 := hbl.c0
    have fl0 := hbl.f0
    have el1 := hbl.c1
    have fl1 := hbl.f1
    have el2 := hbl.c2
    have fl2 := hbl.f2
    have el3 := hbl.c3
    have fl3 := hbl.f3
    have el4 := hbl.c4
    have fl4 := hbl.f4
    go_upto_region 16 with fail
    clear el0 fl0 el1 fl1 el2 fl2 el3 fl3 el4 fl4
    obtain ⟨w9, hwE⟩ : ∃ W, W = w8.setCell ⟨pl, 4, none⟩ (Value.string ⟨X.toArray⟩) := ⟨_, rfl⟩
    rw [← hwE]
    replace hbr := hbr.setOther (show pr ≠ pl by have := HP.out; omega) 4 (Value.string ⟨X.toArray⟩); rw [← hwE] at hbr
    replace hbf := hbf.setCell (p := ⟨pl, 4, none⟩) (show w.heap.size ≤ pl by have := HP.out; omega) (Value.string ⟨X.toArray⟩); rw [← hwE] at hbf
    replace hbl := hbl.put4 (Value.string ⟨X.toArray⟩); rw [← hwE] at hbl; clear hwE
    obtain ⟨w10, hwE⟩ : ∃ W, W = w9.setCell ⟨pl, 3, none⟩ (Value.bool (sneg x)) := ⟨_, rfl⟩
    rw [← hwE]
    replace hbr := hbr.setOther (show pr ≠ pl by have := HP.out; omega) 3 (Value.bool (sneg x)); rw [← hwE] at hbr
    replace hbf := hbf.setCell (p := ⟨pl, 3, none⟩) (show w.heap.size ≤ pl by have := HP.out; omega) (Value.bool (sneg x)); rw [← hwE] at hbf
    replace hbl := hbl.put3 (Value.bool (sneg x)); rw [← hwE] at hbl; clear hwE
    have hlX : X.length ≤ 100000 := by rw [← HXD.out]; have := xdig_le l; omega
    clear hap
    by_cases h1 : A = []
    case pos =>
     have HIS : Hid (litIs l = false) := Lib.hid (by unfold litIs; rw [HA.out, h1]; rfl)
     subst h1
     refine wp_region_seq (S := fun w' => Box5 w' pl (Value.bool (sneg l)) (Value.string ⟨(List.nil : List UInt8).toArray⟩) (Value.int .i64 (b9.length : Nat)) (Value.bool (sneg x)) (Value.string ⟨X.toArray⟩)) [(true, 0), (true, 1), (true, 2), (true, 3), (true, 4), (true, 5), (true, 6), (true, 7), (true, 8), (true, 9), (true, 10), (true, 11), (false, 12), (true, 13), (true, 14), (true, 15), (true, 16), (false, 17), (true, 18), (false, 19), (true, 20)] (by kernel_rfl) (by kernel_rfl) (by kernel_rfl) (by kernel_rfl) (by kernel_rfl) (fun d _ _ _ _ h => by cases d <;> exact h) hbl.drew (fun _ => ?_)
     simp only [pickOps, List.append_eq, List.cons_append, List.nil_append, List.getElem?_toArray, List.getElem?_cons_succ, List.getElem?_cons_zero]
     have hb : Below w10.heap.size w10 w10.drew := (Below.refl _ _).drew
     generalize w10.drew = w11 at hb ⊢
     replace hbr := hbr.kept hb
     replace hbl := hbl.kept hb
     replace hbf := hbf.trans (hb.mono hbf.size)
     clear hb
     repeat (first | (refine seq_take (v := ?_) (by rfl) ?_ ?_; rotate_left; (· intro w hSw; (try dsimp only at hSw); obtain ⟨el0, el1, el2, el3, el4, _, _, _, _, _⟩ := hSw; go_simp; all_goals with_reducible rfl); (try simp only [Act.put, List.setIfInBounds_toArray, List.set_cons_zero, List.set_cons_succ])) | (refine seq_leave (by rfl) ?_; (try simp only [Act.put, List.setIfInBounds_toArray, List.set_cons_zero, List.set_cons_succ])))
     refine seq_pass (by rfl) hbl ?_
     (try simp only [Act.put, List.setIfInBounds_toArray, List.set_cons_zero, List.set_cons_succ])
     repeat (first | (refine seq_take (v := ?_) (by rfl) ?_ ?_; rotate_left; (· intro w hSw; (try dsimp only at hSw); obtain ⟨el0, el1, el2, el3, el4, _, _, _, _, _⟩ := hSw; go_simp; all_goals with_reducible rfl); (try simp only [Act.put, List.setIfInBounds_toArray, List.set_cons_zero, List.set_cons_succ])) | (refine seq_leave (by rfl) ?_; (try simp only [Act.put, List.setIfInBounds_toArray, List.set_cons_zero, List.set_cons_succ])))
     refine seq_pass (by rfl) hbl ?_
     (try simp only [Act.put, List.setIfInBounds_toArray, List.set_cons_zero, List.set_cons_succ])
     repeat (first | (refine seq_take (v := ?_) (by rfl) ?_ ?_; rotate_left; (· intro w hSw; (try dsimp only at hSw); obtain ⟨el0, el1, el2, el3, el4, _, _, _, _, _⟩ := hSw; go_simp; all_goals with_reducible rfl); (try simp only [Act.put, List.setIfInBounds_toArray, List.set_cons_zero, List.set_cons_succ])) | (refine seq_leave (by rfl) ?_; (try simp only [Act.put, List.setIfInBounds_toArray, List.set_cons_zero, List.set_cons_succ])))
     refine seq_step (by rfl) (fun K hK => ?_)
     have er0 := hbr.c0
     have fr0 := hbr.f0
     have er1 := hbr.c1
     have fr1 := hbr.f1
     have er2 := hbr.c2
     have fr2 := hbr.f2
     have er3 := hbr.c3
     have fr3 := hbr.f3
     have er4 := hbr.c4
     have fr4 := hbr.f4
     go_simp
     clear er0 fr0 er1 fr1 er2 fr2 er3 fr3 er4 fr4
     obtain ⟨w12, hwE⟩ : ∃ W, W = w11.setCell ⟨pr, 0, none⟩ (Value.bool (sneg l)) := ⟨_, rfl⟩
     rw [← hwE]
     replace hbl := hbl.setOther (show pl ≠ pr by have := HP.out; omega) 0 (Value.bool (sneg l)); rw [← hwE] at hbl
     replace hbf := hbf.setCell (p := ⟨pr, 0, none⟩) (show w.heap.size ≤ pr by have := HP.out; omega) (Value.bool (sneg l)); rw [← hwE] at hbf
     replace hbr := hbr.put0 (Value.bool (sneg l)); rw [← hwE] at hbr; clear hwE
     obtain ⟨w13, hwE⟩ : ∃ W, W = w12.setCell ⟨pr, 1, none⟩ (Value.string ⟨(List.nil : List UInt8).toArray⟩) := ⟨_, rfl⟩
     rw [← hwE]
     replace hbl := hbl.setOther (show pl ≠ pr by have := HP.out; omega) 1 (Value.string ⟨(List.nil : List UInt8).toArray⟩); rw [← hwE] at hbl
     replace hbf := hbf.setCell (p := ⟨pr, 1, none⟩) (show w.heap.size ≤ pr by have := HP.out; omega) (Value.string ⟨(List.nil : List UInt8).toArray⟩); rw [← hwE] at hbf
     replace hbr := hbr.put1 (Value.string ⟨(List.nil : List UInt8).toArray⟩); rw [← hwE] at hbr; clear hwE
     obtain ⟨w14, hwE⟩ : ∃ W, W = w13.setCell ⟨pr, 2, none⟩ (Value.int .i64 (b9.length : Nat)) := ⟨_, rfl⟩
     rw [← hwE]
     replace hbl := hbl.setOther (show pl ≠ pr by have := HP.out; omega) 2 (Value.int .i64 (b9.length : Nat)); rw [← hwE] at hbl
     replace hbf := hbf.setCell (p := ⟨pr, 2, none⟩) (show w.heap.size ≤ pr by have := HP.out; omega) (Value.int .i64 (b9.length : Nat)); rw [← hwE] at hbf
     replace hbr := hbr.put2 (Value.int .i64 (b9.length : Nat)); rw [← hwE] at hbr; clear hwE
     obtain ⟨w15, hwE⟩ : ∃ W, W = w14.setCell ⟨pr, 3, none⟩ (Value.bool (sneg x)) := ⟨_, rfl⟩
     rw [← hwE]
     replace hbl := hbl.setOther (show pl ≠ pr by have := HP.out; omega) 3 (Value.bool (sneg x)); rw [← hwE] at hbl
     replace hbf := hbf.setCell (p := ⟨pr, 3, none⟩) (show w.heap.size ≤ pr by have := HP.out; omega) (Value.bool (sneg x)); rw [← hwE] at hbf
     replace hbr := hbr.put3 (Value.bool (sneg x)); rw [← hwE] at hbr; clear hwE
     obtain ⟨w16, hwE⟩ : ∃ W, W = w15.setCell ⟨pr, 4, none⟩ (Value.string ⟨X.toArray⟩) := ⟨_, rfl⟩
     rw [← hwE]
     replace hbl := hbl.setOther (show pl ≠ pr by have := HP.out; omega) 4 (Value.string ⟨X.toArray⟩); rw [← hwE] at hbl
     replace hbf := hbf.setCell (p := ⟨pr, 4, none⟩) (show w.heap.size ≤ pr by have := HP.out; omega) (Value.string ⟨X.toArray⟩); rw [← hwE] at hbf
     replace hbr := hbr.put4 (Value.string ⟨X.toArray⟩); rw [← hwE] at hbr; clear hwE
     first | refine hK.out _ _ hbl (fun _ => ?_) | (go_wp2_with fail; refine hK.out _ _ hbl (fun _ => ?_))
     clear hK K
     (try simp only [Act.put, List.setIfInBounds_toArray, List.set_cons_zero, List.set_cons_succ])
     repeat (first | (refine seq_take (v := ?_) (by rfl) ?_ ?_; rotate_left; (· intro w hSw; (try dsimp only at hSw); obtain ⟨el0, el1, el2, el3, el4, _, _, _, _, _⟩ := hSw; go_simp; all_goals with_reducible rfl); (try simp only [Act.put, List.setIfInBounds_toArray, List.set_cons_zero, List.set_cons_succ])) | (refine seq_leave (by rfl) ?_; (try simp only [Act.put, List.setIfInBounds_toArray, List.set_cons_zero, List.set_cons_succ])))
     refine seq_end ?_
     have er0 := hbr.c0
     have fr0 := hbr.f0
     have er1 := hbr.c1
     have fr1 := hbr.f1
     have er2 := hbr.c2
     have fr2 := hbr.f2
     have er3 := hbr.c3
     have fr3 := hbr.f3
     have er4 := hbr.c4
     have fr4 := hbr.f4
     go_wp2_with fail
     clear er0 fr0 er1 fr1 er2 fr2 er3 fr3 er4 fr4
     (try rw [Exit.noGoto_ret])
     refine ret_lit_tmp rfl rfl rfl hbr rfl ⟨?_, hbf⟩
     unfold litV
     rw [HIS.out, HA.out, HBL.out, HXD.out, HXN.out]
     (try rfl)
    case neg =>
     have hne1 := nil_beq h1
     by_cases h2 : X = []
     case pos =>
      have HIS : Hid (litIs l = false) := Lib.hid (by unfold litIs; rw [HXD.out, h2]; simp)
      subst h2
      refine wp_region_seq (S := fun w' => Box5 w' pl (Value.bool (sneg l)) (Value.string ⟨A.toArray⟩) (Value.int .i64 (b9.length : Nat)) (Value.bool (sneg x)) (Value.string ⟨(List.nil : List UInt8).toArray⟩)) [(true, 0), (true, 1), (true, 2), (true, 3), (true, 4), (true, 5), (true, 6), (true, 7), (true, 8), (true, 9), (true, 10), (true, 11), (false, 12), (true, 13), (true, 14), (true, 15), (true, 16), (false, 17), (true, 18), (false, 19), (true, 20)] (by kernel_rfl) (by kernel_rfl) (by kernel_rfl) (by kernel_rfl) (by kernel_rfl) (fun d _ _ _ _ h => by cases d <;> exact h) hbl.drew (fun _ => ?_)
      simp only [pickOps, List.append_eq, List.cons_append, List.nil_append, List.getElem?_toArray, List.getElem?_cons_succ, List.getElem?_cons_zero]
      have hb : Below w10.heap.size w10 w10.drew := (Below.refl _ _).drew
      generalize w10.drew = w11 at hb ⊢
      replace hbr := hbr.kept hb
      replace hbl := hbl.kept hb
      replace hbf := hbf.trans (hb.mono hbf.size)
      clear hb
      repeat (first | (refine seq_take (v := ?_) (by rfl) ?_ ?_; rotate_left; (· intro w hSw; (try dsimp only at hSw); obtain ⟨el0, el1, el2, el3, el4, _, _, _, _, _⟩ := hSw; go_simp; all_goals with_reducible rfl); (try simp only [Act.put, List.setIfInBounds_toArray, List.set_cons_zero, List.set_cons_succ])) | (refine seq_leave (by rfl) ?_; (try simp only [Act.put, List.setIfInBounds_toArray, List.set_cons_zero, List.set_cons_succ])))
      refine seq_pass (by rfl) hbl ?_
      (try simp only [Act.put, List.setIfInBounds_toArray, List.set_cons_zero, List.set_cons_succ])
      repeat (first | (refine seq_take (v := ?_) (by rfl) ?_ ?_; rotate_left; (· intro w hSw; (try dsimp only at hSw); obtain ⟨el0, el1, el2, el3, el4, _, _, _, _, _⟩ := hSw; go_simp; all_goals with_reducible rfl); (try simp only [Act.put, List.setIfInBounds_toArray, List.set_cons_zero, List.set_cons_succ])) | (refine seq_leave (by rfl) ?_; (try simp only [Act.put, List.setIfInBounds_toArray, List.set_cons_zero, List.set_cons_succ])))
      refine seq_pass (by rfl) hbl ?_
      (try simp only [Act.put, List.setIfInBounds_toArray, List.set_cons_zero, List.set_cons_succ])
      repeat (first | (refine seq_take (v := ?_) (by rfl) ?_ ?_; rotate_left; (· intro w hSw; (try dsimp only at hSw); obtain ⟨el0, el1, el2, el3, el4, _, _, _, _, _⟩ := hSw; go_simp; all_goals with_reducible rfl); (try simp only [Act.put, List.setIfInBounds_toArray, List.set_cons_zero, List.set_cons_succ])) | (refine seq_leave (by rfl) ?_; (try simp only [Act.put, List.setIfInBounds_toArray, List.set_cons_zero, List.set_cons_succ])))
      refine seq_step (by rfl) (fun K hK => ?_)
      have er0 := hbr.c0
      have fr0 := hbr.f0
      have er1 := hbr.c1
      have fr1 := hbr.f1
      have er2 := hbr.c2
      have fr2 := hbr.f2
      have er3 := hbr.c3
      have fr3 := hbr.f3
      have er4 := hbr.c4
      have fr4 := hbr.f4
      go_simp
      clear er0 fr0 er1 fr1 er2 fr2 er3 fr3 er4 fr4
      obtain ⟨w12, hwE⟩ : ∃ W, W = w11.setCell ⟨pr, 0, none⟩ (Value.bool (sneg l)) := ⟨_, rfl⟩
      rw [← hwE]
      replace hbl := hbl.setOther (show pl ≠ pr by have := HP.out; omega) 0 (Value.bool (sneg l)); rw [← hwE] at hbl
      replace hbf := hbf.setCell (p := ⟨pr, 0, none⟩) (show w.heap.size ≤ pr by have := HP.out; omega) (Value.bool (sneg l)); rw [← hwE] at hbf
      replace hbr := hbr.put0 (Value.bool (sneg l)); rw [← hwE] at hbr; clear hwE
      obtain ⟨w13, hwE⟩ : ∃ W, W = w12.setCell ⟨pr, 1, none⟩ (Value.string ⟨A.toArray⟩) := ⟨_, rfl⟩
      rw [← hwE]
      replace hbl := hbl.setOther (show pl ≠ pr by have := HP.out; omega) 1 (Value.string ⟨A.toArray⟩); rw [← hwE] at hbl
      replace hbf := hbf.setCell (p := ⟨pr, 1, none⟩) (show w.heap.size ≤ pr by have := HP.out; omega) (Value.string ⟨A.toArray⟩); rw [← hwE] at hbf
      replace hbr := hbr.put1 (Value.string ⟨A.toArray⟩); rw [← hwE] at hbr; clear hwE
      obtain ⟨w14, hwE⟩ : ∃ W, W = w13.setCell ⟨pr, 2, none⟩ (Value.int .i64 (b9.length : Nat)) := ⟨_, rfl⟩
      rw [← hwE]
      replace hbl := hbl.setOther (show pl ≠ pr by have := HP.out; omega) 2 (Value.int .i64 (b9.length : Nat)); rw [← hwE] at hbl
      replace hbf := hbf.setCell (p := ⟨pr, 2, none⟩) (show w.heap.size ≤ pr by have := HP.out; omega) (Value.int .i64 (b9.length : Nat)); rw [← hwE] at hbf
      replace hbr := hbr.put2 (Value.int .i64 (b9.length : Nat)); rw [← hwE] at hbr; clear hwE
      obtain ⟨w15, hwE⟩ : ∃ W, W = w14.setCell ⟨pr, 3, none⟩ (Value.bool (sneg x)) := ⟨_, rfl⟩
      rw [← hwE]
      replace hbl := hbl.setOther (show pl ≠ pr by have := HP.out; omega) 3 (Value.bool (sneg x)); rw [← hwE] at hbl
      replace hbf := hbf.setCell (p := ⟨pr, 3, none⟩) (show w.heap.size ≤ pr by have := HP.out; omega) (Value.bool (sneg x)); rw [← hwE] at hbf
      replace hbr := hbr.put3 (Value.bool (sneg x)); rw [← hwE] at hbr; clear hwE
      obtain ⟨w16, hwE⟩ : ∃ W, W = w15.setCell ⟨pr, 4, none⟩ (Value.string ⟨(List.nil : List UInt8).toArray⟩) := ⟨_, rfl⟩
      rw [← hwE]
      replace hbl := hbl.setOther (show pl ≠ pr by have := HP.out; omega) 4 (Value.string ⟨(List.nil : List UInt8).toArray⟩); rw [← hwE] at hbl
      replace hbf := hbf.setCell (p := ⟨pr, 4, none⟩) (show w.heap.size ≤ pr by have := HP.out; omega) (Value.string ⟨(List.nil : List UInt8).toArray⟩); rw [← hwE] at hbf
      replace hbr := hbr.put4 (Value.string ⟨(List.nil : List UInt8).toArray⟩); rw [← hwE] at hbr; clear hwE
      first | refine hK.out _ _ hbl (fun _ => ?_) | (go_wp2_with fail; refine hK.out _ _ hbl (fun _ => ?_))
      clear hK K
      (try simp only [Act.put, List.setIfInBounds_toArray, List.set_cons_zero, List.set_cons_succ])
      repeat (first | (refine seq_take (v := ?_) (by rfl) ?_ ?_; rotate_left; (· intro w hSw; (try dsimp only at hSw); obtain ⟨el0, el1, el2, el3, el4, _, _, _, _, _⟩ := hSw; go_simp; all_goals with_reducible rfl); (try simp only [Act.put, List.setIfInBounds_toArray, List.set_cons_zero, List.set_cons_succ])) | (refine seq_leave (by rfl) ?_; (try simp only [Act.put, List.setIfInBounds_toArray, List.set_cons_zero, List.set_cons_succ])))
      refine seq_end ?_
      have er0 := hbr.c0
      have fr0 := hbr.f0
      have er1 := hbr.c1
      have fr1 := hbr.f1
      have er2 := hbr.c2
      have fr2 := hbr.f2
      have er3 := hbr.c3
      have fr3 := hbr.f3
      have er4 := hbr.c4
      have fr4 := hbr.f4
      go_wp2_with fail
      clear er0 fr0 er1 fr1 er2 fr2 er3 fr3 er4 fr4
      (try rw [Exit.noGoto_ret])
      refine ret_lit_tmp rfl rfl rfl hbr rfl ⟨?_, hbf⟩
      unfold litV
      rw [HIS.out, HA.out, HBL.out, HXD.out, HXN.out]
      (try rfl)
     case neg =>
      have hne2 := nil_beq h2
      obtain ⟨dA, hdA⟩ : ∃ b, b = A.all isDig := ⟨_, rfl⟩
      have HDA : Hid (A.all isDig = dA) := Lib.hid hdA.symm
      clear hdA
      cases dA
      case false =>
       have HIS : Hid (litIs l = false) := Lib.hid (by unfold litIs; rw [HA.out, HDA.out]; simp)
       refine wp_region_seq (S := fun w' => Box5 w' pl (Value.bool (sneg l)) (Value.string ⟨A.toArray⟩) (Value.int .i64 (b9.length : Nat)) (Value.bool (sneg x)) (Value.string ⟨X.toArray⟩)) [(true, 0), (true, 1), (true, 2), (true, 3), (true, 4), (true, 5), (true, 6), (true, 7), (true, 8), (true, 9), (true, 10), (true, 11), (false, 12), (true, 13), (true, 14), (true, 15), (true, 16), (false, 17), (true, 18), (false, 19), (true, 20)] (by kernel_rfl) (by kernel_rfl) (by kernel_rfl) (by kernel_rfl) (by kernel_rfl) (fun d _ _ _ _ h => by cases d <;> exact h) hbl.drew (fun _ => ?_)
       simp only [pickOps, List.append_eq, List.cons_append, List.nil_append, List.getElem?_toArray, List.getElem?_cons_succ, List.getElem?_cons_zero]
       have hb : Below w10.heap.size w10 w10.drew := (Below.refl _ _).drew
       generalize w10.drew = w11 at hb ⊢
       replace hbr := hbr.kept hb
       replace hbl := hbl.kept hb
       replace hbf := hbf.trans (hb.mono hbf.size)
       clear hb
       repeat (first | (refine seq_take (v := ?_) (by rfl) ?_ ?_; rotate_left; (· intro w hSw; (try dsimp only at hSw); obtain ⟨el0, el1, el2, el3, el4, _, _, _, _, _⟩ := hSw; go_simp; all_goals with_reducible rfl); (try simp only [Act.put, List.setIfInBounds_toArray, List.set_cons_zero, List.set_cons_succ])) | (refine seq_leave (by rfl) ?_; (try simp only [Act.put, List.setIfInBounds_toArray, List.set_cons_zero, List.set_cons_succ])))
       refine seq_step (by rfl) (fun K hK => ?_)
       go_simp
       go_at_call 207
       (with_reducible refine (ddigits_b A false _ (by omega) HDA).mono ?_)
       rintro e w12 ⟨rfl, hb⟩
       replace hbr := hbr.kept hb
       replace hbl := hbl.kept hb
       replace hbf := hbf.trans (hb.mono hbf.size)
       clear hb
       first | refine hK.out _ _ hbl (fun _ => ?_) | (go_wp2_with fail; refine hK.out _ _ hbl (fun _ => ?_))
       clear hK K
       (try simp only [Act.put, List.setIfInBounds_toArray, List.set_cons_zero, List.set_cons_succ])
       repeat (first | (refine seq_take (v := ?_) (by rfl) ?_ ?_; rotate_left; (· intro w hSw; (try dsimp only at hSw); obtain ⟨el0, el1, el2, el3, el4, _, _, _, _, _⟩ := hSw; go_simp; all_goals with_reducible rfl); (try simp only [Act.put, List.setIfInBounds_toArray, List.set_cons_zero, List.set_cons_succ])) | (refine seq_leave (by rfl) ?_; (try simp only [Act.put, List.setIfInBounds_toArray, List.set_cons_zero, List.set_cons_succ])))
       refine seq_pass (by rfl) hbl ?_
       (try simp only [Act.put, List.setIfInBounds_toArray, List.set_cons_zero, List.set_cons_succ])
       repeat (first | (refine seq_take (v := ?_) (by rfl) ?_ ?_; rotate_left; (· intro w hSw; (try dsimp only at hSw); obtain ⟨el0, el1, el2, el3, el4, _, _, _, _, _⟩ := hSw; go_simp; all_goals with_reducible rfl); (try simp only [Act.put, List.setIfInBounds_toArray, List.set_cons_zero, List.set_cons_succ])) | (refine seq_leave (by rfl) ?_; (try simp only [Act.put, List.setIfInBounds_toArray, List.set_cons_zero, List.set_cons_succ])))
       refine seq_step (by rfl) (fun K hK => ?_)
       have er0 := hbr.c0
       have fr0 := hbr.f0
       have er1 := hbr.c1
       have fr1 := hbr.f1
       have er2 := hbr.c2
       have fr2 := hbr.f2
       have er3 := hbr.c3
       have fr3 := hbr.f3
       have er4 := hbr.c4
       have fr4 := hbr.f4
       go_simp
       clear er0 fr0 er1 fr1 er2 fr2 er3 fr3 er4 fr4
       obtain ⟨w13, hwE⟩ : ∃ W, W = w12.setCell ⟨pr, 0, none⟩ (Value.bool (sneg l)) := ⟨_, rfl⟩
       rw [← hwE]
       replace hbl := hbl.setOther (show pl ≠ pr by have := HP.out; omega) 0 (Value.bool (sneg l)); rw [← hwE] at hbl
       replace hbf := hbf.setCell (p := ⟨pr, 0, none⟩) (show w.heap.size ≤ pr by have := HP.out; omega) (Value.bool (sneg l)); rw [← hwE] at hbf
       replace hbr := hbr.put0 (Value.bool (sneg l)); rw [← hwE] at hbr; clear hwE
       obtain ⟨w14, hwE⟩ : ∃ W, W = w13.setCell ⟨pr, 1, none⟩ (Value.string ⟨A.toArray⟩) := ⟨_, rfl⟩
       rw [← hwE]
       replace hbl := hbl.setOther (show pl ≠ pr by have := HP.out; omega) 1 (Value.string ⟨A.toArray⟩); rw [← hwE] at hbl
       replace hbf := hbf.setCell (p := ⟨pr, 1, none⟩) (show w.heap.size ≤ pr by have := HP.out; omega) (Value.string ⟨A.toArray⟩); rw [← hwE] at hbf
       replace hbr := hbr.put1 (Value.string ⟨A.toArray⟩); rw [← hwE] at hbr; clear hwE
       obtain ⟨w15, hwE⟩ : ∃ W, W = w14.setCell ⟨pr, 2, none⟩ (Value.int .i64 (b9.length : Nat)) := ⟨_, rfl⟩
       rw [← hwE]
       replace hbl := hbl.setOther (show pl ≠ pr by have := HP.out; omega) 2 (Value.int .i64 (b9.length : Nat)); rw [← hwE] at hbl
       replace hbf := hbf.setCell (p := ⟨pr, 2, none⟩) (show w.heap.size ≤ pr by have := HP.out; omega) (Value.int .i64 (b9.length : Nat)); rw [← hwE] at hbf
       replace hbr := hbr.put2 (Value.int .i64 (b9.length : Nat)); rw [← hwE] at hbr; clear hwE
       obtain ⟨w16, hwE⟩ : ∃ W, W = w15.setCell ⟨pr, 3, none⟩ (Value.bool (sneg x)) := ⟨_, rfl⟩
       rw [← hwE]
       replace hbl := hbl.setOther (show pl ≠ pr by have := HP.out; omega) 3 (Value.bool (sneg x)); rw [← hwE] at hbl
       replace hbf := hbf.setCell (p := ⟨pr, 3, none⟩) (show w.heap.size ≤ pr by have := HP.out; omega) (Value.bool (sneg x)); rw [← hwE] at hbf
       replace hbr := hbr.put3 (Value.bool (sneg x)); rw [← hwE] at hbr; clear hwE
       obtain ⟨w17, hwE⟩ : ∃ W, W = w16.setCell ⟨pr, 4, none⟩ (Value.string ⟨X.toArray⟩) := ⟨_, rfl⟩
       rw [← hwE]
       replace hbl := hbl.setOther (show pl ≠ pr by have := HP.out; omega) 4 (Value.string ⟨X.toArray⟩); rw [← hwE] at hbl
       replace hbf := hbf.setCell (p := ⟨pr, 4, none⟩) (show w.heap.size ≤ pr by have := HP.out; omega) (Value.string ⟨X.toArray⟩); rw [← hwE] at hbf
       replace hbr := hbr.put4 (Value.string ⟨X.toArray⟩); rw [← hwE] at hbr; clear hwE
       first | refine hK.out _ _ hbl (fun _ => ?_) | (go_wp2_with fail; refine hK.out _ _ hbl (fun _ => ?_))
       clear hK K
       (try simp only [Act.put, List.setIfInBounds_toArray, List.set_cons_zero, List.set_cons_succ])
       repeat (first | (refine seq_take (v := ?_) (by rfl) ?_ ?_; rotate_left; (· intro w hSw; (try dsimp only at hSw); obtain ⟨el0, el1, el2, el3, el4, _, _, _, _, _⟩ := hSw; go_simp; all_goals with_reducible rfl); (try simp only [Act.put, List.setIfInBounds_toArray, List.set_cons_zero, List.set_cons_succ])) | (refine seq_leave (by rfl) ?_; (try simp only [Act.put, List.setIfInBounds_toArray, List.set_cons_zero, List.set_cons_succ])))
       refine seq_end ?_
       have er0 := hbr.c0
       have fr0 := hbr.f0
       have er1 := hbr.c1
       have fr1 := hbr.f1
       have er2 := hbr.c2
       have fr2 := hbr.f2
       have er3 := hbr.c3
       have fr3 := hbr.f3
       have er4 := hbr.c4
       have fr4 := hbr.f4
       go_wp2_with fail
       clear er0 fr0 er1 fr1 er2 fr2 er3 fr3 er4 fr4
       (try rw [Exit.noGoto_ret])
       refine ret_lit_tmp rfl rfl rfl hbr rfl ⟨?_, hbf⟩
       unfold litV
       rw [HIS.out, HA.out, HBL.out, HXD.out, HXN.out]
       (try rfl)
      case true =>
       obtain ⟨dX, hdX⟩ : ∃ b, b = X.all isDig := ⟨_, rfl⟩
       have HDX9 : Hid (X.all isDig = dX) := Lib.hid hdX.symm
       have HIS : Hid (litIs l = dX) := Lib.hid (by unfold litIs; rw [HA.out, HXD.out, HDA.out, hdX]; cases A with | nil => exact (h1 rfl).elim | cons => cases X with | nil => exact (h2 rfl).elim | cons => simp)
       clear hdX
       refine wp_region_seq (S := fun w' => Box5 w' pl (Value.bool (sneg l)) (Value.string ⟨A.toArray⟩) (Value.int .i64 (b9.length : Nat)) (Value.bool (sneg x)) (Value.string ⟨X.toArray⟩)) [(true, 0), (true, 1), (true, 2), (true, 3), (true, 4), (true, 5), (true, 6), (true, 7), (true, 8), (true, 9), (true, 10), (true, 11), (false, 12), (true, 13), (true, 14), (true, 15), (true, 16), (false, 17), (true, 18), (false, 19), (true, 20)] (by kernel_rfl) (by kernel_rfl) (by kernel_rfl) (by kernel_rfl) (by kernel_rfl) (fun d _ _ _ _ h => by cases d <;> exact h) hbl.drew (fun _ => ?_)
       simp only [pickOps, List.append_eq, List.cons_append, List.nil_append, List.getElem?_toArray, List.getElem?_cons_succ, List.getElem?_cons_zero]
       have hb : Below w10.heap.size w10 w10.drew := (Below.refl _ _).drew
       generalize w10.drew = w11 at hb ⊢
       replace hbr := hbr.kept hb
       replace hbl := hbl.kept hb
       replace hbf := hbf.trans (hb.mono hbf.size)
       clear hb
       repeat (first | (refine seq_take (v := ?_) (by rfl) ?_ ?_; rotate_left; (· intro w hSw; (try dsimp only at hSw); obtain ⟨el0, el1, el2, el3, el4, _, _, _, _, _⟩ := hSw; go_simp; all_goals with_reducible rfl); (try simp only [Act.put, List.setIfInBounds_toArray, List.set_cons_zero, List.set_cons_succ])) | (refine seq_leave (by rfl) ?_; (try simp only [Act.put, List.setIfInBounds_toArray, List.set_cons_zero, List.set_cons_succ])))
       refine seq_step (by rfl) (fun K hK => ?_)
       go_simp
       go_at_call 207
       (with_reducible refine (ddigits_b A true _ (by omega) HDA).mono ?_)
       rintro e w12 ⟨rfl, hb⟩
       replace hbr := hbr.kept hb
       replace hbl := hbl.kept hb
       replace hbf := hbf.trans (hb.mono hbf.size)
       clear hb
       first | refine hK.out _ _ hbl (fun _ => ?_) | (go_wp2_with fail; refine hK.out _ _ hbl (fun _ => ?_))
       clear hK K
       (try simp only [Act.put, List.setIfInBounds_toArray, List.set_cons_zero, List.set_cons_succ])
       repeat (first | (refine seq_take (v := ?_) (by rfl) ?_ ?_; rotate_left; (· intro w hSw; (try dsimp only at hSw); obtain ⟨el0, el1, el2, el3, el4, _, _, _, _, _⟩ := hSw; go_simp; all_goals with_reducible rfl); (try simp only [Act.put, List.setIfInBounds_toArray, List.set_cons_zero, List.set_cons_succ])) | (refine seq_leave (by rfl) ?_; (try simp only [Act.put, List.setIfInBounds_toArray, List.set_cons_zero, List.set_cons_succ])))
       refine seq_step (by rfl) (fun K hK => ?_)
       go_simp
       go_at_call 207
       (with_reducible refine (ddigits_b X dX _ (by omega) HDX9).mono ?_)
       rintro e w13 ⟨rfl, hb⟩
       replace hbr := hbr.kept hb
       replace hbl := hbl.kept hb
       replace hbf := hbf.trans (hb.mono hbf.size)
       clear hb
       first | refine hK.out _ _ hbl (fun _ => ?_) | (go_wp2_with fail; refine hK.out _ _ hbl (fun _ => ?_))
       clear hK K
       (try simp only [Act.put, List.setIfInBounds_toArray, List.set_cons_zero, List.set_cons_succ])
       repeat (first | (refine seq_take (v := ?_) (by rfl) ?_ ?_; rotate_left; (· intro w hSw; (try dsimp only at hSw); obtain ⟨el0, el1, el2, el3, el4, _, _, _, _, _⟩ := hSw; go_simp; all_goals with_reducible rfl); (try simp only [Act.put, List.setIfInBounds_toArray, List.set_cons_zero, List.set_cons_succ])) | (refine seq_leave (by rfl) ?_; (try simp only [Act.put, List.setIfInBounds_toArray, List.set_cons_zero, List.set_cons_succ])))
       refine seq_step (by rfl) (fun K hK => ?_)
       have er0 := hbr.c0
       have fr0 := hbr.f0
       have er1 := hbr.c1
       have fr1 := hbr.f1
       have er2 := hbr.c2
       have fr2 := hbr.f2
       have er3 := hbr.c3
       have fr3 := hbr.f3
       have er4 := hbr.c4
       have fr4 := hbr.f4
       go_simp
       clear er0 fr0 er1 fr1 er2 fr2 er3 fr3 er4 fr4
       obtain ⟨w14, hwE⟩ : ∃ W, W = w13.setCell ⟨pr, 0, none⟩ (Value.bool (sneg l)) := ⟨_, rfl⟩
       rw [← hwE]
       replace hbl := hbl.setOther (show pl ≠ pr by have := HP.out; omega) 0 (Value.bool (sneg l)); rw [← hwE] at hbl
       replace hbf := hbf.setCell (p := ⟨pr, 0, none⟩) (show w.heap.size ≤ pr by have := HP.out; omega) (Value.bool (sneg l)); rw [← hwE] at hbf
       replace hbr := hbr.put0 (Value.bool (sneg l)); rw [← hwE] at hbr; clear hwE
       obtain ⟨w15, hwE⟩ : ∃ W, W = w14.setCell ⟨pr, 1, none⟩ (Value.string ⟨A.toArray⟩) := ⟨_, rfl⟩
       rw [← hwE]
       replace hbl := hbl.setOther (show pl ≠ pr by have := HP.out; omega) 1 (Value.string ⟨A.toArray⟩); rw [← hwE] at hbl
       replace hbf := hbf.setCell (p := ⟨pr, 1, none⟩) (show w.heap.size ≤ pr by have := HP.out; omega) (Value.string ⟨A.toArray⟩); rw [← hwE] at hbf
       replace hbr := hbr.put1 (Value.string ⟨A.toArray⟩); rw [← hwE] at hbr; clear hwE
       obtain ⟨w16, hwE⟩ : ∃ W, W = w15.setCell ⟨pr, 2, none⟩ (Value.int .i64 (b9.length : Nat)) := ⟨_, rfl⟩
       rw [← hwE]
       replace hbl := hbl.setOther (show pl ≠ pr by have := HP.out; omega) 2 (Value.int .i64 (b9.length : Nat)); rw [← hwE] at hbl
       replace hbf := hbf.setCell (p := ⟨pr, 2, none⟩) (show w.heap.size ≤ pr by have := HP.out; omega) (Value.int .i64 (b9.length : Nat)); rw [← hwE] at hbf
       replace hbr := hbr.put2 (Value.int .i64 (b9.length : Nat)); rw [← hwE] at hbr; clear hwE
       obtain ⟨w17, hwE⟩ : ∃ W, W = w16.setCell ⟨pr, 3, none⟩ (Value.bool (sneg x)) := ⟨_, rfl⟩
       rw [← hwE]
       replace hbl := hbl.setOther (show pl ≠ pr by have := HP.out; omega) 3 (Value.bool (sneg x)); rw [← hwE] at hbl
       replace hbf := hbf.setCell (p := ⟨pr, 3, none⟩) (show w.heap.size ≤ pr by have := HP.out; omega) (Value.bool (sneg x)); rw [← hwE] at hbf
       replace hbr := hbr.put3 (Value.bool (sneg x)); rw [← hwE] at hbr; clear hwE
       obtain ⟨w18, hwE⟩ : ∃ W, W = w17.setCell ⟨pr, 4, none⟩ (Value.string ⟨X.toArray⟩) := ⟨_, rfl⟩
       rw [← hwE]
       replace hbl := hbl.setOther (show pl ≠ pr by have := HP.out; omega) 4 (Value.string ⟨X.toArray⟩); rw [← hwE] at hbl
       replace hbf := hbf.setCell (p := ⟨pr, 4, none⟩) (show w.heap.size ≤ pr by have := HP.out; omega) (Value.string ⟨X.toArray⟩); rw [← hwE] at hbf
       replace hbr := hbr.put4 (Value.string ⟨X.toArray⟩); rw [← hwE] at hbr; clear hwE
       first | refine hK.out _ _ hbl (fun _ => ?_) | (go_wp2_with fail; refine hK.out _ _ hbl (fun _ => ?_))
       clear hK K
       (try simp only [Act.put, List.setIfInBounds_toArray, List.set_cons_zero, List.set_cons_succ])
       repeat (first | (refine seq_take (v := ?_) (by rfl) ?_ ?_; rotate_left; (· intro w hSw; (try dsimp only at hSw); obtain ⟨el0, el1, el2, el3, el4, _, _, _, _, _⟩ := hSw; go_simp; all_goals with_reducible rfl); (try simp only [Act.put, List.setIfInBounds_toArray, List.set_cons_zero, List.set_cons_succ])) | (refine seq_leave (by rfl) ?_; (try simp only [Act.put, List.setIfInBounds_toArray, List.set_cons_zero, List.set_cons_succ])))
       refine seq_end ?_
       have er0 := hbr.c0
       have fr0 := hbr.f0
       have er1 := hbr.c1
       have fr1 := hbr.f1
       have er2 := hbr.c2
       have fr2 := hbr.f2
       have er3 := hbr.c3
       have fr3 := hbr.f3
       have er4 := hbr.c4
       have fr4 := hbr.f4
       go_wp2_with fail
       clear er0 fr0 er1 fr1 er2 fr2 er3 fr3 er4 fr4
       (try rw [Exit.noGoto_ret])
       refine ret_lit_tmp rfl rfl rfl hbr rfl ⟨?_, hbf⟩
       unfold litV
       rw [HIS.out, HA.out, HBL.out, HXD.out, HXN.out]
       (try rfl)
end Go.Proofs.YtcpfanpcdkoiaaaGreatDoor
