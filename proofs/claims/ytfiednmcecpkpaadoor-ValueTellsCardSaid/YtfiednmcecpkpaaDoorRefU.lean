/-
  The document's Lit.
-/
import Derived.Test.YtfiednmcecpkpaaDoorRefS
import Derived.Test.YtfiednmcecpkpaaDoorMathU
import Derived.Test.YtfiednmcecpkpaaDoorRefT
import Derived.Deep.DeepCutAuto
import Derived.Deep.CutBlock
import Derived.WalkMore
import Derived.Laws.StructEq
namespace Go.Proofs.YtfiednmcecpkpaaDoor
open Go.RowKit
set_option linter.unusedVariables false
set_option linter.unusedSimpArgs false
attribute [local go_sem] field_nat

def sgq (u : List UInt8) : Bool := decide (u.head? = some 45 ∨ u.head? = some 43)
theorem sgq_no {u : List UInt8} (h : sgq u = false) : sneg u = false ∧ srest u = u := by
  have h1 : ¬ (u.head? = some 45 ∨ u.head? = some 43) := of_decide_eq_false h
  exact ⟨decide_eq_false (fun h2 => h1 (Or.inl h2)), by unfold srest; rw [if_neg h1]⟩
theorem sgq_yes {u : List UInt8} (h : sgq u = true) : srest u = u.tail := by
  have h1 : u.head? = some 45 ∨ u.head? = some 43 := of_decide_eq_true h
  unfold srest; rw [if_pos h1]
theorem sgq_step {l u : List UInt8} {i : Nat} (h : l.drop i = u) (hs : sgq u = true) : l.drop (i + 1) = srest u := by
  rw [sgq_yes hs, ← h, List.tail_drop]
theorem head_drop {l : List UInt8} {i : Nat} (h : i < l.length) : (l.drop i).head? = some (l[i]?.getD 0) := by
  rw [List.head?_drop, List.getElem?_eq_getElem h]; rfl
theorem drop_some {l u : List UInt8} {i : Nat} (h : l.drop i = u) (hs : sgq u = true) : i < l.length := by
  rcases Nat.lt_or_ge i l.length with h1 | h1
  · exact h1
  · rw [List.drop_eq_nil_of_le h1] at h
    rw [← h] at hs; cases hs
theorem byte_ne {c : UInt8} {k : UInt8} (h : ¬ c = k) : ((c.toNat : Int) == (k.toNat : Int)) = false := by
  rw [beq_eq_false_iff_ne]; intro e; apply h; rw [← UInt8.toNat_inj]; omega
theorem drop_cons {l : List UInt8} {i : Nat} (h : i < l.length) : l.drop i = l[i]?.getD 0 :: l.drop (i + 1) := by
  rw [List.drop_eq_getElem_cons h, List.getElem?_eq_getElem h]; rfl
theorem scan_digs (b : List UInt8) (pt : Bool) : (scanD b pt).1.all isDig = true := by
  induction b generalizing pt with
  | nil => rfl
  | cons c t ih =>
    unfold scanD
    by_cases h : isDig c = true
    · rw [if_pos h]; simp only [List.all_cons, h, Bool.true_and]; exact ih pt
    · rw [if_neg h]
      by_cases h2 : c = 46 ∧ pt = false
      · rw [if_pos h2]; exact ih true
      · rw [if_neg h2]; rfl
theorem scan_len (b : List UInt8) (pt : Bool) : (scanD b pt).1.length ≤ b.length ∧ (scanD b pt).2.1 ≤ (scanD b pt).1.length := by
  induction b generalizing pt with
  | nil => exact ⟨Nat.le_refl _, Nat.le_refl _⟩
  | cons c t ih =>
    unfold scanD
    by_cases h : isDig c = true
    · rw [if_pos h]
      have := ih pt
      simp only [List.length_cons]
      refine ⟨by omega, ?_⟩
      cases pt <;> simp <;> omega
    · rw [if_neg h]
      by_cases h2 : c = 46 ∧ pt = false
      · rw [if_pos h2]; have := ih true; simp only [List.length_cons]; omega
      · rw [if_neg h2]; simp
/-- What the reading has gathered, and what is still to come. -/
def ScanAt (l : List UInt8) (i B : Nat) (D : List UInt8) (pt : Bool) : Prop := D ++ (scanD (l.drop i) pt).1 = dDig l ∧ B + (scanD (l.drop i) pt).2.1 = dBeh l ∧ (scanD (l.drop i) pt).2.2 = dRest l
theorem ScanAt.start {l : List UInt8} {i : Nat} (h : l.drop i = srest l) : ScanAt l i 0 [] false := by
  unfold ScanAt; rw [h]; exact ⟨rfl, Nat.zero_add _, rfl⟩
theorem ScanAt.done {l : List UInt8} {i B : Nat} {D : List UInt8} {pt : Bool} (h : ScanAt l i B D pt) (hi : l.length ≤ i) : D = dDig l ∧ B = dBeh l ∧ l.drop i = dRest l := by
  have h2 := List.drop_eq_nil_of_le hi
  unfold ScanAt at h; rw [h2] at h ⊢
  simpa [scanD] using h
theorem ScanAt.dig {l : List UInt8} {i B : Nat} {D : List UInt8} {pt : Bool} {c : UInt8} (h : ScanAt l i B D pt) (hc : l.drop i = c :: l.drop (i + 1)) (hd : isDig c = true) : ScanAt l (i + 1) (B + (if pt = true then 1 else 0)) (D ++ [c]) pt := by
  unfold ScanAt at h ⊢
  rw [hc, scanD, if_pos hd] at h
  refine ⟨by rw [← h.1]; simp, ?_, h.2.2⟩
  rw [← h.2.1]
  show _ = B + ((if pt = true then 1 else 0) + _)
  omega
theorem ScanAt.point {l : List UInt8} {i B : Nat} {D : List UInt8} (h : ScanAt l i B D false) (hc : l.drop i = 46 :: l.drop (i + 1)) : ScanAt l (i + 1) B D true := by
  unfold ScanAt at h ⊢
  rw [hc, scanD, if_neg (by decide), if_pos ⟨rfl, rfl⟩] at h
  exact h
theorem ScanAt.stop {l : List UInt8} {i B : Nat} {D : List UInt8} {pt : Bool} {c : UInt8} (h : ScanAt l i B D pt) (hc : l.drop i = c :: l.drop (i + 1)) (hd : ¬ isDig c = true) (hp : ¬ (c = 46 ∧ pt = false)) : D = dDig l ∧ B = dBeh l ∧ l.drop i = dRest l := by
  unfold ScanAt at h
  rw [hc, scanD, if_neg hd, if_neg hp] at h
  rw [hc]
  simpa using h
theorem xdig_no {l : List UInt8} (h : hasE l = false) : xdig l = [48] ∧ xneg l = false := by
  constructor
  · unfold xdig; rw [h]; rfl
  · unfold xneg; rw [h]; rfl
theorem xdig_yes {l u : List UInt8} (h : hasE l = true) (hu : lexp l = u) : xdig l = srest u ∧ xneg l = sneg u := by
  constructor
  · unfold xdig; rw [if_pos h, hu]
  · unfold xneg; rw [h, hu]; rfl
theorem numOk_cons {c d : UInt8} {r : List UInt8} (h : (c :: d :: r).all isDig = true) (hc : ¬ c = 48) : numOk (c :: d :: r) = true := by
  unfold numOk; rw [h]; simp [hc]
theorem numOk_one {c : UInt8} (h : ([c]).all isDig = true) : numOk [c] = true := by
  unfold numOk
  rw [h]
  by_cases hc : c = 48
  · subst hc; rfl
  · simp [hc]
theorem dnum_nought (r : List UInt8) : dnum (48 :: r) = dnum r := by have := dnum_pad 1 r; simpa using this

theorem one_byte {l : List UInt8} {i : Nat} (h : i < l.length) : (⟨l.toArray⟩ : ByteArray).extract i (i + 1) = ⟨[l[i]?.getD 0].toArray⟩ := by
  rw [bytes_extract]
  congr 2
  rw [List.drop_take, Nat.add_sub_cancel_left, drop_cons h]
  rfl
theorem nodig_lit {l : List UInt8} (h : (dRest l = [] ∧ hasE l = false ∧ lall l = dDig l ∧ (lbehind l).length = dBeh l) ∨ (∃ c t, dRest l = c :: t ∧ isE c = true ∧ hasE l = true ∧ lexp l = t ∧ lall l = dDig l ∧ (lbehind l).length = dBeh l) ∨ (∃ c t, dRest l = c :: t ∧ isE c = false ∧ litIs l = false)) (h0 : dDig l = []) : litIs l = false := by
  have hx : lall l = [] → litIs l = false := fun h9 => by unfold litIs; rw [h9]; rfl
  rcases h with ⟨_, _, h3, _⟩ | ⟨_, _, _, _, _, _, h3, _⟩ | ⟨_, _, _, _, h3⟩
  · exact hx (h3.trans h0)
  · exact hx (h3.trans h0)
  · exact h3
theorem nil_beq9 {l : List UInt8} (h : l ≠ []) : (l == []) = false := by rw [beq_eq_false_iff_ne]; exact h
theorem isE_two9 {c : UInt8} (h : isE c = true) : c = 101 ∨ c = 69 := by simpa [isE] using h
theorem notE_two {c : UInt8} (h : isE c = false) : ¬ c = 101 ∧ ¬ c = 69 := by simpa [isE] using h
theorem pnum_ok {S : List UInt8} (h : numOk S = true) (hl : S.length ≤ 1200) : pcode S = 0 ∧ pval S = dnum S := by
  unfold pcode pval
  rw [if_pos h, if_pos h, if_neg (by omega), if_neg (by omega)]
  exact ⟨rfl, rfl⟩
theorem rparse_o (l : List UInt8) (n : Nat) (w : World) (hl : l.length ≤ 1000000000) (h : Hid (pcode l = 0 ∧ pval l = n)) :
    Calls Tryd.prog 65 #[.string ⟨l.toArray⟩] w fun e w' => ∃ r, e = .returned (.tuple #[r, .int .i64 0]) ∧ RIs w' r n ∧ Below w.heap.size w w' := by
  have := rparse_any l w hl
  unfold RPost at this
  rwa [h.out.1, h.out.2] at this
theorem rlimbs_mulk {a b m n : Nat} (ha : (rlimbs a).length ≤ m) (hb : (rlimbs b).length ≤ n) : (rlimbs (a * b)).length ≤ m + n := by
  refine rlimbs_length_le ?_
  have h1 := lt_pow_rlimbs a
  have h2 := lt_pow_rlimbs b
  have h3 : 10000 ^ (rlimbs a).length ≤ 10000 ^ m := Nat.pow_le_pow_right (by decide) ha
  have h4 : 10000 ^ (rlimbs b).length ≤ 10000 ^ n := Nat.pow_le_pow_right (by decide) hb
  rw [Nat.pow_add]
  exact Nat.mul_lt_mul'' (by omega) (by omega)
theorem litQ_neg9 {s : Bool} {n : Nat} {k : Int} {m : Nat} (h : k < 0) (hm : m = k.natAbs) : litQ s n k = qOf s n (10 ^ m) := by
  unfold litQ; rw [if_pos h, hm]
theorem litQ_pos9 {s : Bool} {n : Nat} {k : Int} {m : Nat} (h : ¬ k < 0) (hm : m = k.natAbs) : litQ s n k = qOf s (n * 10 ^ m) 1 := by
  unfold litQ; rw [if_neg h, hm]

set_option maxRecDepth 100000 in
set_option maxHeartbeats 8000000 in
/-- Lit. -/
theorem rlit_any (l : List UInt8) (q : Rat) (c : Int) (w : World) (HQ : Hid (q = litVal l)) (HC : Hid (c = litCode l)) (hl : l.length ≤ 1000) : Calls Tryd.prog 44 #[.string ⟨l.toArray⟩] w (RQPostC w q c) := by
  obtain ⟨D, hD⟩ : ∃ D, D = dDig l := ⟨_, rfl⟩
  obtain ⟨B, hB⟩ : ∃ B, B = dBeh l := ⟨_, rfl⟩
  have hDl : D.length ≤ 1000 := by rw [hD]; have h1 := (scan_len (srest l) false).1; have h2 := srest_le l; unfold dDig; omega
  have hBl : B ≤ D.length := by rw [hD, hB]; exact (scan_len (srest l) false).2
  have HDA : Hid (D.all isDig = true) := Lib.hid (by rw [hD]; exact scan_digs _ _)
  have HD := Lib.hid hD
  have HB := Lib.hid hB
  clear hD hB
  obtain ⟨w0, hw0⟩ : ∃ w0, w0 = (w.alloc (.cells #[.bool false, .slice none 0 0, .slice none 0 0] 51)) := ⟨_, rfl⟩
  have hbf : Below w.heap.size w w0 := by rw [hw0]; exact ((Below.refl _ w).alloc (Nat.le_refl _) _)
  obtain ⟨pr, hpr⟩ : ∃ p, p = w.heap.size := ⟨_, rfl⟩
  have hbr : Box3 w0 pr (Value.bool false) (Value.slice none 0 0) (Value.slice none 0 0) := by rw [hw0, hpr]; exact ⟨by go_simp, by go_simp, by go_simp, by go_simp, by go_simp, by go_simp⟩
  have HP : Hid (w.heap.size ≤ pr) := Lib.hid (by omega)
  have HW := Lib.hid hw0; clear hw0
  go_enter Tryd.func44, Tryd.ntmps44
  go_upto_region 1 with fail
  rw [← HW.out, ← hpr]
  clear hpr HW
  obtain ⟨w1, hwE⟩ : ∃ W, W = ((w0.alloc (.cells #[.int .i64 1] 3)).alloc (.cells #[.bool false, .slice none 0 0, .slice (some ⟨w0.heap.size, 0, none⟩) 1 1] 51)) := ⟨_, rfl⟩
  have hb : Below w0.heap.size w0 w1 := by rw [hwE]; exact (((Below.refl _ w0).alloc (Nat.le_refl _) _).alloc (by simp <;> omega) _)
  obtain ⟨oP, hpo⟩ : ∃ p, p = w0.heap.size := ⟨_, rfl⟩
  obtain ⟨pz, hpz⟩ : ∃ p, p = w0.heap.size + 1 := ⟨_, rfl⟩
  have ho : RIs w1 (.slice (some ⟨oP, 0, none⟩) 1 1) 1 := by rw [hwE, hpo]; exact RIs.below (one_is w0 (x := 1) (by omega) (by omega)) ((Below.refl _ _).alloc (Nat.le_refl _) _)
  have hbz : Box3 w1 pz (Value.bool false) (Value.slice none 0 0) (Value.slice (some ⟨oP, 0, none⟩) 1 1) := by rw [hwE, hpo, hpz]; exact ⟨by go_simp, by go_simp, by go_simp, by go_simp, by go_simp, by go_simp⟩
  replace HP : Hid (w.heap.size ≤ pr ∧ pr < pz) := Lib.hid (by have h1 := HP.out; have h9 := hbf.size; have h2r := hbr.lt; omega)
  have HW := Lib.hid hwE; clear hwE
  go_upto_region 2 with fail
  rw [← HW.out, ← hpz]
  clear hpo hpz HW
  replace hbr := hbr.kept hb
  replace hbf := hbf.trans (hb.mono hbf.size)
  clear hb
  have hU0 : Hid (l.drop 0 = l) := Lib.hid rfl
  obtain ⟨bi2, hbi2⟩ : ∃ b, b = sgq l := ⟨_, rfl⟩
  have Hbi2 := Lib.hid hbi2; clear hbi2
  go_upto_region 4 with fail
  go_cut [33] (fun p9 wx => p9 = .bool bi2 ∧ w1 = wx)
  case first => as_aux_lemma =>
    by_cases hi9 : 0 < l.length
    case pos => as_aux_lemma =>
      have hby := byte_at l (0) hi9 (by simpa [ByteArray.size] using hi9)
      have hhd := head_drop (l := l) hi9
      rw [hU0.out] at hhd
      have hii : ((0 : Nat) : Int) < ((l.length : Nat) : Int) := by omega
      generalize l[0]?.getD 0 = c9 at *
      have HHD := Lib.hid hhd; clear hhd
      by_cases hc : c9 = 43
      case pos => as_aux_lemma =>
        subst hc
        obtain rfl : bi2 = true := by rw [Hbi2.out]; unfold sgq; rw [HHD.out]; rfl
        go_wp2_with fail
        go_meet
        case rel => exact ⟨rfl, rfl⟩
      case neg => as_aux_lemma =>
        have h43 : ((c9.toNat : Int) == 43) = false := byte_ne (k := 43) hc
        by_cases hc2 : c9 = 45
        case pos => as_aux_lemma =>
          subst hc2
          obtain rfl : bi2 = true := by rw [Hbi2.out]; unfold sgq; rw [HHD.out]; rfl
          go_wp2_with fail
          go_meet
          case rel => exact ⟨rfl, rfl⟩
        case neg => as_aux_lemma =>
          have h45 : ((c9.toNat : Int) == 45) = false := byte_ne (k := 45) hc2
          obtain rfl : bi2 = false := by rw [Hbi2.out]; unfold sgq; rw [HHD.out]; simp [hc, hc2]
          go_wp2_with fail
          go_meet
          case rel => exact ⟨rfl, rfl⟩
    case neg => as_aux_lemma =>
      have hun := hU0.out
      rw [List.drop_eq_nil_of_le (by omega)] at hun
      have hii : ¬ ((0 : Nat) : Int) < ((l.length : Nat) : Int) := by omega
      obtain rfl : bi2 = false := by rw [Hbi2.out, ← hun]; rfl
      go_wp2_with fail
      go_meet
      case rel => exact ⟨rfl, rfl⟩
  case rest => as_aux_lemma =>
    obtain ⟨rfl, rfl⟩ := hcut
    go_upto_if 33 with fail
    go_cut [5, 6] (fun p5 p6 wx => ∃ i9 : Nat, p5 = .int .i64 (i9 : Int) ∧ p6 = .bool (sneg l) ∧ Hid (l.drop i9 = srest l) ∧ i9 ≤ l.length ∧ w1 = wx)
    case first => as_aux_lemma =>
      cases bi2
      case false => as_aux_lemma =>
        have hsq := sgq_no Hbi2.out.symm
        have HSN := Lib.hid hsq.1
        have HSR := Lib.hid hsq.2
        clear hsq
        go_wp2_with fail
        go_meet
        case rel => exact ⟨0, rfl, by rw [HSN.out], Lib.hid (by rw [hU0.out, HSR.out]), by omega, rfl⟩
      case true => as_aux_lemma =>
        have hi9 : 0 < l.length := drop_some hU0.out Hbi2.out.symm
        have hby := byte_at l (0) hi9 (by simpa [ByteArray.size] using hi9)
        have hhd := head_drop (l := l) hi9
        rw [hU0.out] at hhd
        have hii : ((0 : Nat) : Int) < ((l.length : Nat) : Int) := by omega
        generalize l[0]?.getD 0 = c9 at *
        have HHD := Lib.hid hhd; clear hhd
        have HSR : Hid (l.drop (0 + 1) = srest l) := Lib.hid (sgq_step hU0.out Hbi2.out.symm)
        by_cases hc2 : c9 = 45
        case pos => as_aux_lemma =>
          subst hc2
          have HSN : Hid (sneg l = true) := Lib.hid (by unfold sneg; rw [HHD.out]; rfl)
          go_wp2_with fail
          go_meet
          case rel => exact ⟨0 + 1, by go_num, by rw [HSN.out], HSR, by omega, rfl⟩
        case neg => as_aux_lemma =>
          have h45 : ((c9.toNat : Int) == 45) = false := byte_ne (k := 45) hc2
          have HSN : Hid (sneg l = false) := Lib.hid (by unfold sneg; rw [HHD.out]; simp [hc2])
          go_wp2_with fail
          go_meet
          case rel => exact ⟨0 + 1, by go_num, by rw [HSN.out], HSR, by omega, rfl⟩
    case rest => as_aux_lemma =>
      obtain ⟨i2, rfl, rfl, HR, hi2, rfl⟩ := hcut
      go_upto_block 0 with fail
      go_cut [5, 7, 8] (fun p5 p7 p8 wx => ∃ i : Nat, p5 = .int .i64 (i : Int) ∧ p7 = .string ⟨D.toArray⟩ ∧ p8 = .int .i64 (B : Int) ∧ Hid (l.drop i = dRest l) ∧ i ≤ l.length ∧ w1 = wx)
      case first => as_aux_lemma =>
        go_wp2_with fail
        go_loopg [5, 7, 8, 9] (l.length - i2) (fun gg iv tv kv bv wr => ∃ (i K : Nat) (X : List UInt8) (pt : Bool), iv = .int .i64 (i : Int) ∧ tv = .string ⟨X.toArray⟩ ∧ kv = .int .i64 (K : Int) ∧ bv = .bool pt ∧ i + gg = l.length ∧ X.length ≤ i ∧ K ≤ i ∧ Hid (ScanAt l i K X pt) ∧ w1 = wr)
        case atStart => exact ⟨i2, 0, [], false, rfl, rfl, rfl, rfl, by omega, by simp, by omega, Lib.hid (ScanAt.start HR.out), rfl⟩
        case round => as_aux_lemma =>
          obtain ⟨i, K, X, pt, rfl, rfl, rfl, rfl, hig, hXl, hKl, HSC, rfl⟩ := hrel
          by_cases hil : i < l.length
          case neg => as_aux_lemma =>
            have hdn := HSC.out.done (by omega)
            have HE1 : Hid (X = D) := Lib.hid (by rw [HD.out]; exact hdn.1)
            have HE2 : Hid (K = B) := Lib.hid (by rw [HB.out]; exact hdn.2.1)
            have HE3 := Lib.hid hdn.2.2
            have hii : ¬ ((i : Nat) : Int) < ((l.length : Nat) : Int) := by omega
            clear hdn
            go_wp2_with fail
            go_meet
            case rel => exact ⟨i, rfl, by rw [HE1.out], by rw [HE2.out], HE3, by omega, rfl⟩
          case pos => as_aux_lemma =>
            have hby := byte_at l i hil (by simpa [ByteArray.size] using hil)
            have hdc := drop_cons (l := l) hil
            have hii : ((i : Nat) : Int) < ((l.length : Nat) : Int) := by omega
            have hx1 : (⟨l.toArray⟩ : ByteArray).extract i (i + 1) = ⟨[l[i]?.getD 0].toArray⟩ := one_byte hil
            generalize l[i]?.getD 0 = c9 at *
            have HDC := Lib.hid hdc; clear hdc
            by_cases hdg : isDig c9 = true
            case pos => as_aux_lemma =>
              have hb2 := isDig_iff.1 hdg
              obtain ⟨hb3, hb4⟩ := hb2
              have HDG := Lib.hid hdg; clear hdg
              have hn46 : ((c9.toNat : Int) == 46) = false := by rw [beq_eq_false_iff_ne]; omega
              have hk3 : ((i : Nat) : Int) + 1 ≤ ((l.length : Nat) : Int) := by omega
              have hk4 : (0 : Int) ≤ ((i : Nat) : Int) + 1 := by omega
              have hk5 : IntKind.i64.wrap (((i : Nat) : Int) + 1) = ((i : Nat) : Int) + 1 := by simp [IntKind.wrap, IntKind.bits, IntKind.signed]; omega
              have hk6 : (((i : Nat) : Int) + 1).toNat = i + 1 := by omega
              have hk7 : ((i : Nat) : Int) ≤ ((i : Nat) : Int) + 1 := by omega
              obtain ⟨Z, hZ⟩ : ∃ Z, Z = X ++ [c9] := ⟨_, rfl⟩
              have hZ1 : (⟨X.toArray⟩ ++ ⟨[c9].toArray⟩ : ByteArray) = ⟨Z.toArray⟩ := by rw [hZ]; exact bytes_append X [c9]
              have hZl : Z.length ≤ i + 1 := by rw [hZ, List.length_append]; simp; omega
              have HNX := Lib.hid (HSC.out.dig HDC.out HDG.out)
              rw [← hZ] at HNX
              have hg1 : ¬ 9223372036854775807 < X.length + 1 := by omega
              clear hZ
              cases pt
              case false => as_aux_lemma =>
                go_wp2_with fail
                go_roundg (gk - 1)
                case measure => omega
                case rel => exact ⟨i + 1, K, Z, false, by go_num, rfl, rfl, rfl, by omega, hZl, by omega, HNX, rfl⟩
              case true => as_aux_lemma =>
                go_wp2_with fail
                go_roundg (gk - 1)
                case measure => omega
                case rel => exact ⟨i + 1, K + 1, Z, true, by go_num, rfl, by go_num, rfl, by omega, hZl, by omega, HNX, rfl⟩
            case neg => as_aux_lemma =>
              have HNG := Lib.hid hdg
              have hno : c9.toNat < 48 ∨ 57 < c9.toNat := by
                rcases Nat.lt_or_ge c9.toNat 48 with h | h
                · exact Or.inl h
                · refine Or.inr ?_
                  rcases Nat.lt_or_ge 57 c9.toNat with h2 | h2
                  · exact h2
                  · exact (hdg (isDig_iff.2 ⟨h, h2⟩)).elim
              clear hdg hx1
              by_cases hpp : c9 = 46 ∧ pt = false
              case pos => as_aux_lemma =>
                obtain ⟨rfl, rfl⟩ := hpp
                have HNX := Lib.hid (HSC.out.point HDC.out)
                clear hno
                go_wp2_with fail
                go_roundg (gk - 1)
                case measure => omega
                case rel => exact ⟨i + 1, K, X, true, by go_num, rfl, rfl, rfl, by omega, by omega, by omega, HNX, rfl⟩
              case neg => as_aux_lemma =>
                have hdn := HSC.out.stop HDC.out HNG.out hpp
                have HE1 : Hid (X = D) := Lib.hid (by rw [HD.out]; exact hdn.1)
                have HE2 : Hid (K = B) := Lib.hid (by rw [HB.out]; exact hdn.2.1)
                have HE3 := Lib.hid hdn.2.2
                clear hdn
                rcases hno with hno | hno
                case inl => as_aux_lemma =>
                  by_cases hc46 : c9 = 46
                  case pos => as_aux_lemma =>
                    obtain rfl : pt = true := by cases pt with | true => rfl | false => exact (hpp ⟨hc46, rfl⟩).elim
                    clear hpp
                    subst hc46
                    go_wp2_with fail
                    go_meet
                    case rel => exact ⟨i, rfl, by rw [HE1.out], by rw [HE2.out], HE3, by omega, rfl⟩
                  case neg => as_aux_lemma =>
                    have hn46 : ((c9.toNat : Int) == 46) = false := byte_ne (k := 46) hc46
                    clear hpp
                    go_wp2_with fail
                    go_meet
                    case rel => exact ⟨i, rfl, by rw [HE1.out], by rw [HE2.out], HE3, by omega, rfl⟩
                case inr => as_aux_lemma =>
                  have hn46 : ((c9.toNat : Int) == 46) = false := by rw [beq_eq_false_iff_ne]; omega
                  have hge : (48 : Int) ≤ (c9.toNat : Int) := by omega
                  clear hpp
                  go_wp2_with fail
                  go_meet
                  case rel => exact ⟨i, rfl, by rw [HE1.out], by rw [HE2.out], HE3, by omega, rfl⟩
      case rest => as_aux_lemma =>
        obtain ⟨i, rfl, rfl, rfl, HRE, hil, rfl⟩ := hcut
        have hDL := doc_lit l
        have HDL := Lib.hid hDL; clear hDL
        by_cases hD0 : D = []
        case pos => as_aux_lemma =>
          have hli9 : litIs l = false := nodig_lit HDL.out (by rw [← HD.out]; exact hD0)
          subst hD0
          have hli : litIs l = false := hli9
          have hc3 : c = 3 := by rw [HC.out]; unfold litCode; rw [hli]; rfl
          have hq3 : q = 0 := by rw [HQ.out]; unfold litVal; rw [← HC.out, hc3]; rfl
          clear hli
          subst hc3; subst hq3
          have ez0 := hbz.c0
          have ez1 := hbz.c1
          have ez2 := hbz.c2
          have er0 := hbr.c0
          have fr0 := hbr.f0
          have er1 := hbr.c1
          have fr1 := hbr.f1
          have er2 := hbr.c2
          have fr2 := hbr.f2
          go_wp2_with fail
          exact end_rc rfl rfl rfl rfl hbr (show w.heap.size ≤ pr by have := HP.out; omega) (RQIs.zero ho) hbf
        case neg => as_aux_lemma =>
          have hneD := nil_beq9 hD0
          go_upto_if 88 with fail
          go_cut [10, 11] (fun p10 p11 wx => ∃ (E9 : Nat) (lo : Bool), p10 = .int .i64 (E9 : Int) ∧ p11 = .bool lo ∧ Hid (lo = xneg l ∧ litIs l = true ∧ lall l = D ∧ (lbehind l).length = B ∧ (400 < E9 ↔ 400 < dnum (xdig l)) ∧ (E9 ≤ 400 → E9 = dnum (xdig l))) ∧ E9 ≤ 1000 ∧ w1 = wx)
          case first => as_aux_lemma =>
            rcases HDL.out with ⟨h1, h2, h3, h4⟩ | ⟨c9, u, h1, h2, h3, h4, h5, h6⟩ | ⟨c9, u, h1, h2, h3⟩
            case inl => as_aux_lemma =>
              have hie : l.length ≤ i := by have h9 := HRE.out; rw [h1] at h9; exact List.drop_eq_nil_iff.1 h9
              have hii : ¬ ((i : Nat) : Int) < ((l.length : Nat) : Int) := by omega
              have hx := xdig_no h2
              have HXX : Hid (false = xneg l ∧ litIs l = true ∧ lall l = D ∧ (lbehind l).length = B ∧ (400 < 0 ↔ 400 < dnum (xdig l)) ∧ (0 ≤ 400 → 0 = dnum (xdig l))) := Lib.hid ⟨hx.2.symm, litIs_of (by rw [h3, ← HD.out]; exact hD0) (by rw [hx.1]; simp) (by rw [h3, ← HD.out]; exact HDA.out) (by rw [hx.1]; rfl), by rw [h3, ← HD.out], by rw [h4, ← HB.out], by rw [hx.1]; decide, by rw [hx.1]; decide⟩
              clear h1 h2 h3 h4 hx
              go_wp2_with fail
              go_meet
              case rel => exact ⟨0, false, rfl, rfl, HXX, by omega, rfl⟩
            case inr.inl => as_aux_lemma =>
              have hxy := xdig_yes h3 h4
              have HX1 := Lib.hid hxy.1
              have HX2 := Lib.hid hxy.2
              have HAL := Lib.hid (h5.trans HD.out.symm)
              have HBE := Lib.hid (h6.trans HB.out.symm)
              clear hxy h3 h4 h5 h6
              have hdr := HRE.out
              rw [h1] at hdr
              have hil2 : i < l.length := by
                rcases Nat.lt_or_ge i l.length with h9 | h9
                · exact h9
                · rw [List.drop_eq_nil_of_le h9] at hdr; cases hdr
              have hby := byte_at l i hil2 (by simpa [ByteArray.size] using hil2)
              have hdc := drop_cons (l := l) hil2
              rw [hdr] at hdc
              injection hdc with hdc1 hdc2
              rw [← hdc1] at hby
              have HU9 : Hid (l.drop (i + 1) = u) := Lib.hid hdc2.symm
              clear hdr hdc1 hdc2
              have hii : ((i : Nat) : Int) < ((l.length : Nat) : Int) := by omega
              go_upto_region 20 with fail
              go_cut [98] (fun p9 wx => p9 = .bool false ∧ w1 = wx)
              case first => as_aux_lemma =>
                rcases isE_two9 h2 with hce | hce
                case inl => as_aux_lemma =>
                  subst hce
                  clear h2
                  go_wp2_with fail
                  go_meet
                  case rel => exact ⟨rfl, rfl⟩
                case inr => as_aux_lemma =>
                  subst hce
                  clear h2
                  go_wp2_with fail
                  go_meet
                  case rel => exact ⟨rfl, rfl⟩
              case rest => as_aux_lemma =>
                obtain ⟨rfl, rfl⟩ := hcut
                clear h1 h2 hby
                obtain ⟨bi3, hbi3⟩ : ∃ b, b = sgq u := ⟨_, rfl⟩
                have Hbi3 := Lib.hid hbi3; clear hbi3
                go_upto_region 23 with fail
                go_cut [117] (fun p9 wx => p9 = .bool bi3 ∧ w1 = wx)
                case first => as_aux_lemma =>
                  by_cases hi9 : (i + 1) < l.length
                  case pos => as_aux_lemma =>
                    have hby := byte_at l ((i + 1)) hi9 (by simpa [ByteArray.size] using hi9)
                    have hhd := head_drop (l := l) hi9
                    rw [HU9.out] at hhd
                    have hii : (((i + 1) : Nat) : Int) < ((l.length : Nat) : Int) := by omega
                    generalize l[(i + 1)]?.getD 0 = c9 at *
                    have HHD := Lib.hid hhd; clear hhd
                    by_cases hc : c9 = 43
                    case pos => as_aux_lemma =>
                      subst hc
                      obtain rfl : bi3 = true := by rw [Hbi3.out]; unfold sgq; rw [HHD.out]; rfl
                      go_wp2_with fail
                      go_meet
                      case rel => exact ⟨rfl, rfl⟩
                    case neg => as_aux_lemma =>
                      have h43 : ((c9.toNat : Int) == 43) = false := byte_ne (k := 43) hc
                      by_cases hc2 : c9 = 45
                      case pos => as_aux_lemma =>
                        subst hc2
                        obtain rfl : bi3 = true := by rw [Hbi3.out]; unfold sgq; rw [HHD.out]; rfl
                        go_wp2_with fail
                        go_meet
                        case rel => exact ⟨rfl, rfl⟩
                      case neg => as_aux_lemma =>
                        have h45 : ((c9.toNat : Int) == 45) = false := byte_ne (k := 45) hc2
                        obtain rfl : bi3 = false := by rw [Hbi3.out]; unfold sgq; rw [HHD.out]; simp [hc, hc2]
                        go_wp2_with fail
                        go_meet
                        case rel => exact ⟨rfl, rfl⟩
                  case neg => as_aux_lemma =>
                    have hun := HU9.out
                    rw [List.drop_eq_nil_of_le (by omega)] at hun
                    have hii : ¬ (((i + 1) : Nat) : Int) < ((l.length : Nat) : Int) := by omega
                    obtain rfl : bi3 = false := by rw [Hbi3.out, ← hun]; rfl
                    go_wp2_with fail
                    go_meet
                    case rel => exact ⟨rfl, rfl⟩
                case rest => as_aux_lemma =>
                  obtain ⟨rfl, rfl⟩ := hcut
                  go_upto_if 117 with fail
                  go_cut [5, 11] (fun p5 p6 wx => ∃ i9 : Nat, p5 = .int .i64 (i9 : Int) ∧ p6 = .bool (sneg u) ∧ Hid (l.drop i9 = srest u) ∧ i9 ≤ l.length ∧ w1 = wx)
                  case first => as_aux_lemma =>
                    cases bi3
                    case false => as_aux_lemma =>
                      have hsq := sgq_no Hbi3.out.symm
                      have HSN := Lib.hid hsq.1
                      have HSR := Lib.hid hsq.2
                      clear hsq
                      go_wp2_with fail
                      go_meet
                      case rel => exact ⟨(i + 1), rfl, by rw [HSN.out], Lib.hid (by rw [HU9.out, HSR.out]), by omega, rfl⟩
                    case true => as_aux_lemma =>
                      have hi9 : (i + 1) < l.length := drop_some HU9.out Hbi3.out.symm
                      have hby := byte_at l ((i + 1)) hi9 (by simpa [ByteArray.size] using hi9)
                      have hhd := head_drop (l := l) hi9
                      rw [HU9.out] at hhd
                      have hii : (((i + 1) : Nat) : Int) < ((l.length : Nat) : Int) := by omega
                      generalize l[(i + 1)]?.getD 0 = c9 at *
                      have HHD := Lib.hid hhd; clear hhd
                      have HSR : Hid (l.drop ((i + 1) + 1) = srest u) := Lib.hid (sgq_step HU9.out Hbi3.out.symm)
                      by_cases hc2 : c9 = 45
                      case pos => as_aux_lemma =>
                        subst hc2
                        have HSN : Hid (sneg u = true) := Lib.hid (by unfold sneg; rw [HHD.out]; rfl)
                        go_wp2_with fail
                        go_meet
                        case rel => exact ⟨(i + 1) + 1, by go_num, by rw [HSN.out], HSR, by omega, rfl⟩
                      case neg => as_aux_lemma =>
                        have h45 : ((c9.toNat : Int) == 45) = false := byte_ne (k := 45) hc2
                        have HSN : Hid (sneg u = false) := Lib.hid (by unfold sneg; rw [HHD.out]; simp [hc2])
                        go_wp2_with fail
                        go_meet
                        case rel => exact ⟨(i + 1) + 1, by go_num, by rw [HSN.out], HSR, by omega, rfl⟩
                  case rest => as_aux_lemma =>
                    obtain ⟨i3, rfl, rfl, HR3, hi3, rfl⟩ := hcut
                    obtain ⟨X, hX⟩ : ∃ X, X = srest u := ⟨_, rfl⟩
                    rw [← hX] at HR3
                    have HXS : Hid (X = xdig l) := Lib.hid (by rw [hX, HX1.out])
                    have hXl : X.length = l.length - i3 := by rw [← HR3.out, List.length_drop]
                    clear hX
                    by_cases he9 : i3 = l.length
                    case pos => as_aux_lemma =>
                      have hie : ((i3 : Nat) : Int) = ((l.length : Nat) : Int) := by omega
                      have hib : (((i3 : Nat) : Int) == ((l.length : Nat) : Int)) = true := by rw [beq_iff_eq]; exact hie
                      have hX0 : X = [] := List.eq_nil_of_length_eq_zero (by omega)
                      clear hXl hie
                      have hli : litIs l = false := by unfold litIs; rw [← HXS.out, hX0]; simp
                      have hc3 : c = 3 := by rw [HC.out]; unfold litCode; rw [hli]; rfl
                      have hq3 : q = 0 := by rw [HQ.out]; unfold litVal; rw [← HC.out, hc3]; rfl
                      clear hli
                      subst hc3; subst hq3
                      have ez0 := hbz.c0
                      have ez1 := hbz.c1
                      have ez2 := hbz.c2
                      have er0 := hbr.c0
                      have fr0 := hbr.f0
                      have er1 := hbr.c1
                      have fr1 := hbr.f1
                      have er2 := hbr.c2
                      have fr2 := hbr.f2
                      go_wp2_with fail
                      exact end_rc rfl rfl rfl rfl hbr (show w.heap.size ≤ pr by have := HP.out; omega) (RQIs.zero ho) hbf
                    case neg => as_aux_lemma =>
                      have hib : (((i3 : Nat) : Int) == ((l.length : Nat) : Int)) = false := by rw [beq_eq_false_iff_ne]; omega
                      have HXL := Lib.hid hXl; clear hXl
                      go_wp2_with fail
                      go_loopg [5, 10] (l.length - i3) (fun gg iv ev wr => ∃ k : Nat, iv = .int .i64 ((i3 + k : Nat) : Int) ∧ ev = .int .i64 (satx (X.take k) : Nat) ∧ i3 + k + gg = l.length ∧ Hid ((X.take k).all isDig = true) ∧ w1 = wr)
                      case atStart => exact ⟨0, rfl, rfl, by omega, Lib.hid (by simp), rfl⟩
                      case round => as_aux_lemma =>
                        obtain ⟨k, rfl, rfl, hkg, HAK, rfl⟩ := hrel
                        have hsx := satx_le (X.take k)
                        by_cases hkl : i3 + k < l.length
                        case neg => as_aux_lemma =>
                          have hii2 : ¬ ((i3 + k : Nat) : Int) < ((l.length : Nat) : Int) := by omega
                          have hkx : X.take k = X := List.take_of_length_le (by have := HXL.out; omega)
                          have hall := HAK.out
                          rw [hkx] at hall hsx ⊢
                          have hsm := satx_more X
                          have HXX : Hid (sneg u = xneg l ∧ litIs l = true ∧ lall l = D ∧ (lbehind l).length = B ∧ (400 < satx X ↔ 400 < dnum (xdig l)) ∧ (satx X ≤ 400 → satx X = dnum (xdig l))) := Lib.hid ⟨HX2.out.symm, litIs_of (by rw [HAL.out]; exact hD0) (by rw [← HXS.out]; intro h; have h8 := HXL.out; rw [h] at h8; simp at h8; omega) (by rw [HAL.out]; exact HDA.out) (by rw [← HXS.out]; exact hall), HAL.out, HBE.out, by rw [← HXS.out]; exact hsm.1, by rw [← HXS.out]; exact hsm.2⟩
                          clear hkx hall hsm
                          go_wp2_with fail
                          go_meet
                          case rel => exact ⟨satx X, sneg u, rfl, rfl, HXX, hsx, rfl⟩
                        case pos => as_aux_lemma =>
                          have hii2 : ((i3 + k : Nat) : Int) < ((l.length : Nat) : Int) := by omega
                          have hkX : k < X.length := by have := HXL.out; omega
                          have hgX : l[i3 + k]?.getD 0 = X[k]?.getD 0 := by rw [← HR3.out, List.getElem?_drop]
                          have hby := byte_at l (i3 + k) hkl (by simpa [ByteArray.size] using hkl)
                          have hsn := Lib.hid (all_snoc hkX HAK.out)
                          have HTS : Hid (min (satx (X.take k) * 10 + ((X[k]?.getD 0).toNat - 48)) 1000 = satx (X.take (k + 1))) := Lib.hid (by rw [satx_snoc, List.take_add_one, List.getElem?_eq_getElem hkX]; rfl)
                          have hfa : isDig (X[k]?.getD 0) = false → X.all isDig = false := fun h => all_false hkX h
                          have HF := Lib.hid hfa
                          rw [hgX] at hby
                          clear hfa hgX
                          generalize X[k]?.getD 0 = c8 at *
                          generalize satx (X.take k) = e9 at *
                          by_cases hd1 : c8.toNat < 48
                          case pos => as_aux_lemma =>
                            have hz : isDig c8 = false := by simp [isDig]; omega
                            have hXf := HF.out hz
                            clear hz
                            have hli : litIs l = false := by unfold litIs; rw [← HXS.out, hXf]; simp
                            have hc3 : c = 3 := by rw [HC.out]; unfold litCode; rw [hli]; rfl
                            have hq3 : q = 0 := by rw [HQ.out]; unfold litVal; rw [← HC.out, hc3]; rfl
                            clear hli
                            subst hc3; subst hq3
                            have ez0 := hbz.c0
                            have ez1 := hbz.c1
                            have ez2 := hbz.c2
                            have er0 := hbr.c0
                            have fr0 := hbr.f0
                            have er1 := hbr.c1
                            have fr1 := hbr.f1
                            have er2 := hbr.c2
                            have fr2 := hbr.f2
                            go_wp2_with fail
                            exact end_rc rfl rfl rfl rfl hbr (show w.heap.size ≤ pr by have := HP.out; omega) (RQIs.zero ho) hbf
                          case neg => as_aux_lemma =>
                            by_cases hd2 : 57 < c8.toNat
                            case pos => as_aux_lemma =>
                              have hz : isDig c8 = false := by simp [isDig]; omega
                              have hXf := HF.out hz
                              clear hz
                              have hli : litIs l = false := by unfold litIs; rw [← HXS.out, hXf]; simp
                              have hc3 : c = 3 := by rw [HC.out]; unfold litCode; rw [hli]; rfl
                              have hq3 : q = 0 := by rw [HQ.out]; unfold litVal; rw [← HC.out, hc3]; rfl
                              clear hli
                              subst hc3; subst hq3
                              have ez0 := hbz.c0
                              have ez1 := hbz.c1
                              have ez2 := hbz.c2
                              have er0 := hbr.c0
                              have fr0 := hbr.f0
                              have er1 := hbr.c1
                              have fr1 := hbr.f1
                              have er2 := hbr.c2
                              have fr2 := hbr.f2
                              go_wp2_with fail
                              exact end_rc rfl rfl rfl rfl hbr (show w.heap.size ≤ pr by have := HP.out; omega) (RQIs.zero ho) hbf
                            case neg => as_aux_lemma =>
                              have hz : isDig c8 = true := by simp [isDig]; omega
                              have HZ := Lib.hid hz
                              clear hz
                              have hmn : min ((e9 : Int) * 10 + ((c8.toNat : Int) - 48)) 1000 = ((min (e9 * 10 + (c8.toNat - 48)) 1000 : Nat) : Int) := by omega
                              have HMN := Lib.hid hmn
                              clear hmn
                              go_wp2_with fail
                              go_roundg (gk - 1)
                              case measure => omega
                              case rel => exact ⟨k + 1, by go_num, by rw [← HTS.out, ← HMN.out], by omega, Lib.hid (by rw [hsn.out]; exact HZ.out), rfl⟩
            case inr.inr => as_aux_lemma =>
              have hdr := HRE.out
              rw [h1] at hdr
              have hil2 : i < l.length := by
                rcases Nat.lt_or_ge i l.length with h9 | h9
                · exact h9
                · rw [List.drop_eq_nil_of_le h9] at hdr; cases hdr
              have hby := byte_at l i hil2 (by simpa [ByteArray.size] using hil2)
              have hdc := drop_cons (l := l) hil2
              rw [hdr] at hdc
              injection hdc with hdc1 hdc2
              rw [← hdc1] at hby
              have HU9 : Hid (l.drop (i + 1) = u) := Lib.hid hdc2.symm
              clear hdr hdc1 hdc2
              have hii : ((i : Nat) : Int) < ((l.length : Nat) : Int) := by omega
              go_upto_region 20 with fail
              go_cut [98] (fun p9 wx => p9 = .bool true ∧ w1 = wx)
              case first => as_aux_lemma =>
                have hn := notE_two h2
                have hn1 : ((c9.toNat : Int) == 101) = false := byte_ne (k := 101) hn.1
                have hn2 : ((c9.toNat : Int) == 69) = false := byte_ne (k := 69) hn.2
                have hm1 : ((c9.toNat : Int) != 101) = true := by simp [bne, hn1]
                have hm2 : ((c9.toNat : Int) != 69) = true := by simp [bne, hn2]
                clear hn h2
                go_wp2_with fail
                go_meet
                case rel => exact ⟨rfl, rfl⟩
              case rest => as_aux_lemma =>
                obtain ⟨rfl, rfl⟩ := hcut
                have hli : litIs l = false := h3
                have hc3 : c = 3 := by rw [HC.out]; unfold litCode; rw [hli]; rfl
                have hq3 : q = 0 := by rw [HQ.out]; unfold litVal; rw [← HC.out, hc3]; rfl
                clear hli
                subst hc3; subst hq3
                have ez0 := hbz.c0
                have ez1 := hbz.c1
                have ez2 := hbz.c2
                have er0 := hbr.c0
                have fr0 := hbr.f0
                have er1 := hbr.c1
                have fr1 := hbr.f1
                have er2 := hbr.c2
                have fr2 := hbr.f2
                go_wp2_with fail
                exact end_rc rfl rfl rfl rfl hbr (show w.heap.size ≤ pr by have := HP.out; omega) (RQIs.zero ho) hbf
          case rest => as_aux_lemma =>
            obtain ⟨E9, lo, rfl, rfl, HXX, hE9, rfl⟩ := hcut
            have HLO := Lib.hid HXX.out.1
            have HIS := Lib.hid HXX.out.2.1
            have HAL := Lib.hid HXX.out.2.2.1
            have HBE := Lib.hid HXX.out.2.2.2.1
            have HX3 := Lib.hid HXX.out.2.2.2.2.1
            have HX4 := Lib.hid HXX.out.2.2.2.2.2
            clear HXX HDL
            by_cases hlm1 : 400 < D.length
            case pos => as_aux_lemma =>
              have hc3 : c = 2 := by rw [HC.out]; unfold litCode; rw [if_pos HIS.out, if_pos (by rw [HAL.out, ← HX3.out]; omega)]
              have hq3 : q = 0 := by rw [HQ.out]; unfold litVal; rw [← HC.out, hc3]; rfl
              subst hc3; subst hq3
              have ez0 := hbz.c0
              have ez1 := hbz.c1
              have ez2 := hbz.c2
              have er0 := hbr.c0
              have fr0 := hbr.f0
              have er1 := hbr.c1
              have fr1 := hbr.f1
              have er2 := hbr.c2
              have fr2 := hbr.f2
              go_wp2_with fail
              exact end_rc rfl rfl rfl rfl hbr (show w.heap.size ≤ pr by have := HP.out; omega) (RQIs.zero ho) hbf
            case neg => as_aux_lemma =>
              by_cases hlm2 : 400 < E9
              case pos => as_aux_lemma =>
                have hc3 : c = 2 := by rw [HC.out]; unfold litCode; rw [if_pos HIS.out, if_pos (by rw [HAL.out, ← HX3.out]; omega)]
                have hq3 : q = 0 := by rw [HQ.out]; unfold litVal; rw [← HC.out, hc3]; rfl
                subst hc3; subst hq3
                have ez0 := hbz.c0
                have ez1 := hbz.c1
                have ez2 := hbz.c2
                have er0 := hbr.c0
                have fr0 := hbr.f0
                have er1 := hbr.c1
                have fr1 := hbr.f1
                have er2 := hbr.c2
                have fr2 := hbr.f2
                go_wp2_with fail
                exact end_rc rfl rfl rfl rfl hbr (show w.heap.size ≤ pr by have := HP.out; omega) (RQIs.zero ho) hbf
              case neg => as_aux_lemma =>
                have hc0 : c = 0 := by rw [HC.out]; exact litCode_ok HIS.out (by rw [← HX4.out (by omega)]; omega) (by rw [HAL.out]; omega)
                have hq0 : q = litQ (sneg l) (dnum D) (sg lo E9 - (B : Int)) := by rw [HQ.out, litVal_of (HC.out.symm.trans hc0), HAL.out]; unfold expOf; rw [← HLO.out, ← HX4.out (by omega), HBE.out]
                subst hc0
                have HQ0 := Lib.hid hq0
                clear hq0
                go_upto_block 4 with fail
                go_cut [7] (fun p7 wx => ∃ S : List UInt8, p7 = .string ⟨S.toArray⟩ ∧ Hid (pcode S = 0 ∧ pval S = dnum D) ∧ S.length ≤ 400 ∧ w1 = wx)
                case first => as_aux_lemma =>
                  go_wp2_with fail
                  go_loopg [7] D.length (fun gg tv wr => ∃ S : List UInt8, tv = .string ⟨S.toArray⟩ ∧ gg = S.length ∧ S ≠ [] ∧ S.length ≤ 400 ∧ Hid (S.all isDig = true) ∧ Hid (dnum S = dnum D) ∧ w1 = wr)
                  case atStart => exact ⟨D, rfl, rfl, hD0, by omega, HDA, Lib.hid rfl, rfl⟩
                  case round => as_aux_lemma =>
                    obtain ⟨S, rfl, hgS, hS0, hSl, HSA, HSN, rfl⟩ := hrel
                    cases S with
                    | nil => exact (hS0 rfl).elim
                    | cons c7 S1 =>
                      cases S1 with
                      | nil =>
                        have HPO : Hid (pcode [c7] = 0 ∧ pval [c7] = dnum D) := Lib.hid (by rw [← HSN.out]; exact pnum_ok (numOk_one HSA.out) (by simp))
                        go_wp2_with fail
                        go_meet
                        case rel => exact ⟨[c7], rfl, HPO, hSl, rfl⟩
                      | cons d7 S2 =>
                        simp only [List.length_cons] at hSl hgS
                        have hb0 : ∀ h, (((⟨(c7 :: d7 :: S2).toArray⟩ : ByteArray)[0]'h).toNat : Int) = (c7.toNat : Int) := fun _ => rfl
                        have hlen : (1 : Int) < ((S2.length : Nat) : Int) + 1 + 1 := by omega
                        by_cases hc7 : c7 = 48
                        case neg => as_aux_lemma =>
                          have hn48 : ((c7.toNat : Int) == 48) = false := byte_ne (k := 48) hc7
                          have HPO : Hid (pcode (c7 :: d7 :: S2) = 0 ∧ pval (c7 :: d7 :: S2) = dnum D) := Lib.hid (by rw [← HSN.out]; exact pnum_ok (numOk_cons HSA.out hc7) (by simp only [List.length_cons]; omega))
                          go_wp2_with fail
                          go_meet
                          case rel => exact ⟨_, rfl, HPO, by simp only [List.length_cons]; omega, rfl⟩
                        case pos => as_aux_lemma =>
                          subst hc7
                          have hx1 : (⟨(48 :: d7 :: S2).toArray⟩ : ByteArray).extract 1 (S2.length + 1 + 1) = ⟨(d7 :: S2).toArray⟩ := by rw [bytes_extract]; simp
                          have HS2 : Hid (dnum (d7 :: S2) = dnum D) := Lib.hid (by rw [← HSN.out, dnum_nought])
                          have HA2 : Hid ((d7 :: S2).all isDig = true) := Lib.hid (by have := HSA.out; simp only [List.all_cons, Bool.and_eq_true] at this ⊢; exact this.2)
                          have hl1 : (1 : Int) ≤ ((S2.length : Nat) : Int) + 1 + 1 := by omega
                          go_wp2_with fail
                          go_roundg (gk - 1)
                          case measure => omega
                          case rel => exact ⟨d7 :: S2, rfl, by simp only [List.length_cons]; omega, by simp, by simp only [List.length_cons]; omega, HA2, HS2, rfl⟩
                case rest => as_aux_lemma =>
                  obtain ⟨S, rfl, HPO, hSl, rfl⟩ := hcut
                  obtain ⟨n, hn0⟩ : ∃ n, n = dnum D := ⟨_, rfl⟩
                  rw [← hn0] at HPO HQ0
                  have hrn : (rlimbs n).length ≤ 400 := by rw [hn0]; exact Nat.le_trans (rlimbs_pow10 (dnum_lt D HDA.out)) (by omega)
                  clear hn0
                  go_wp2_with fail
                  refine (rparse_o S n _ (by omega) HPO).mono ?_
                  rintro e w2 ⟨r9, rfl, hn, hb⟩
                  replace hbr := hbr.kept hb
                  replace hbz := hbz.kept hb
                  replace ho := ho.below hb
                  replace hbf := hbf.trans (hb.mono hbf.size)
                  clear hb
                  obtain ⟨nO, nL, nC, rfl⟩ := hn.form
                  go_upto_if 178 with fail
                  go_cut [10] (fun p10 wx => p10 = .int .i64 (sg lo E9) ∧ w2 = wx)
                  case first => as_aux_lemma =>
                    cases lo
                    case false => as_aux_lemma =>
                      go_wp2_with fail
                      go_meet
                      case rel => exact ⟨rfl, rfl⟩
                    case true => as_aux_lemma =>
                      go_wp2_with fail
                      go_meet
                      case rel => exact ⟨by show _ = Value.int _ (-(E9 : Int)); go_num, rfl⟩
                  case rest => as_aux_lemma =>
                    obtain ⟨rfl, rfl⟩ := hcut
                    obtain ⟨x9, hx9⟩ : ∃ x : Int, x = sg lo E9 := ⟨_, rfl⟩
                    rw [← hx9] at HQ0 ⊢
                    have hx1 : -401 < x9 ∧ x9 < 401 := by rw [hx9]; unfold sg; split <;> omega
                    obtain ⟨hx2, hx3⟩ := hx1
                    clear hx9
                    obtain ⟨K, hK⟩ : ∃ K : Int, x9 - (B : Int) = K := ⟨_, rfl⟩
                    rw [hK] at HQ0
                    have hK1 : -1401 < K ∧ K < 1401 := by omega
                    obtain ⟨hK2, hK3⟩ := hK1
                    obtain ⟨w3, hwE⟩ : ∃ W, W = (w2.alloc (.cells #[.int .i64 1] 3)) := ⟨_, rfl⟩
                    have hb : Below w2.heap.size w2 w3 := by rw [hwE]; exact ((Below.refl _ w2).alloc (Nat.le_refl _) _)
                    obtain ⟨tP, hpt⟩ : ∃ p, p = w2.heap.size := ⟨_, rfl⟩
                    have ht : RIs w3 (.slice (some ⟨tP, 0, none⟩) 1 1) 1 := by rw [hwE, hpt]; exact (one_is w2 (x := 1) (by omega) (by omega))
                    have HW := Lib.hid hwE; clear hwE
                    go_upto_region 42 with fail
                    rw [← HW.out, ← hpt]
                    clear hpt HW
                    replace hbr := hbr.kept hb
                    replace hbz := hbz.kept hb
                    replace ho := ho.below hb
                    replace hn := hn.below hb
                    replace hbf := hbf.trans (hb.mono hbf.size)
                    clear hb
                    go_wp2_with fail
                    go_loopg [14, 15] K.natAbs (fun gg tv kv wr => ∃ (j : Nat) (tO : Option Addr) (tL tC : Nat), tv = .slice tO tL tC ∧ kv = .int .i64 (if K < 0 then -(gg : Int) else (gg : Int)) ∧ j + gg = K.natAbs ∧ RIs wr (.slice tO tL tC) (10 ^ j) ∧ Box3 wr pr (Value.bool false) (Value.slice none 0 0) (Value.slice none 0 0) ∧ RIs wr (.slice nO nL nC) n ∧ Below w.heap.size w wr)
                    case atStart => exact ⟨0, _, _, _, rfl, by congr 1; split <;> omega, by omega, ht, hbr, hn, hbf⟩
                    clear hbr hbz hn ht ho hbf
                    case round => as_aux_lemma =>
                      obtain ⟨j, tO, tL, tC, rfl, rfl, hjg, ht, hbr, hn, hbf⟩ := hrel
                      by_cases hg0 : gk = 0
                      case neg => as_aux_lemma =>
                        by_cases hKn : K < 0
                        case pos => as_aux_lemma =>
                          have hkv : (if K < 0 then -(gk : Int) else (gk : Int)) = -(gk : Int) := if_pos hKn
                          have hkb : ((-(gk : Int)) == 0) = false := by rw [beq_eq_false_iff_ne]; omega
                          have hkp : ¬ (0 : Int) < -(gk : Int) := by omega
                          rw [hkv]
                          have HKN := Lib.hid hKn
                          clear hkv hKn
                          obtain ⟨w4, hwE⟩ : ∃ W, W = (wr.alloc (.cells #[.int .i64 10] 3)) := ⟨_, rfl⟩
                          have hb : Below wr.heap.size wr w4 := by rw [hwE]; exact ((Below.refl _ wr).alloc (Nat.le_refl _) _)
                          obtain ⟨yP, hpy⟩ : ∃ p, p = wr.heap.size := ⟨_, rfl⟩
                          have hy : RIs w4 (.slice (some ⟨yP, 0, none⟩) 1 1) 10 := by rw [hwE, hpy]; exact (one_is wr (x := 10) (by omega) (by omega))
                          have HW := Lib.hid hwE; clear hwE
                          go_wp2_with fail
                          rw [← HW.out, ← hpy]
                          clear hpy HW
                          replace hbr := hbr.kept hb
                          replace ht := ht.below hb
                          replace hn := hn.below hb
                          replace hbf := hbf.trans (hb.mono hbf.size)
                          clear hb
                          refine (rmul_any _ _ (10 ^ j) 10 _ ht hy (Nat.le_trans (rlimbs_ten j (K := 2000) (by omega)) (by decide)) (Nat.le_trans (rl1 (by decide)) (by decide))).mono ?_
                          rintro e w5 ⟨r9, rfl, hv, hb⟩
                          replace hbr := hbr.kept hb
                          replace ht := ht.below hb
                          replace hn := hn.below hb
                          replace hy := hy.below hb
                          replace hbf := hbf.trans (hb.mono hbf.size)
                          clear hb
                          obtain ⟨vO, vL, vC, rfl⟩ := hv.form
                          rw [← Nat.pow_succ] at hv
                          go_wp2_with fail
                          go_roundg (gk - 1)
                          case measure => omega
                          case rel => exact ⟨j + 1, _, _, _, rfl, by rw [if_pos HKN.out]; go_num, by omega, hv, hbr, hn, hbf⟩
                        case neg => as_aux_lemma =>
                          have hkv : (if K < 0 then -(gk : Int) else (gk : Int)) = (gk : Int) := if_neg hKn
                          have hkb : ((gk : Int) == 0) = false := by rw [beq_eq_false_iff_ne]; omega
                          have hkp : (0 : Int) < (gk : Int) := by omega
                          rw [hkv]
                          have HKN := Lib.hid hKn
                          clear hkv hKn
                          obtain ⟨w4, hwE⟩ : ∃ W, W = (wr.alloc (.cells #[.int .i64 10] 3)) := ⟨_, rfl⟩
                          have hb : Below wr.heap.size wr w4 := by rw [hwE]; exact ((Below.refl _ wr).alloc (Nat.le_refl _) _)
                          obtain ⟨yP, hpy⟩ : ∃ p, p = wr.heap.size := ⟨_, rfl⟩
                          have hy : RIs w4 (.slice (some ⟨yP, 0, none⟩) 1 1) 10 := by rw [hwE, hpy]; exact (one_is wr (x := 10) (by omega) (by omega))
                          have HW := Lib.hid hwE; clear hwE
                          go_wp2_with fail
                          rw [← HW.out, ← hpy]
                          clear hpy HW
                          replace hbr := hbr.kept hb
                          replace ht := ht.below hb
                          replace hn := hn.below hb
                          replace hbf := hbf.trans (hb.mono hbf.size)
                          clear hb
                          refine (rmul_any _ _ (10 ^ j) 10 _ ht hy (Nat.le_trans (rlimbs_ten j (K := 2000) (by omega)) (by decide)) (Nat.le_trans (rl1 (by decide)) (by decide))).mono ?_
                          rintro e w5 ⟨r9, rfl, hv, hb⟩
                          replace hbr := hbr.kept hb
                          replace ht := ht.below hb
                          replace hn := hn.below hb
                          replace hy := hy.below hb
                          replace hbf := hbf.trans (hb.mono hbf.size)
                          clear hb
                          obtain ⟨vO, vL, vC, rfl⟩ := hv.form
                          rw [← Nat.pow_succ] at hv
                          go_wp2_with fail
                          go_roundg (gk - 1)
                          case measure => omega
                          case rel => exact ⟨j + 1, _, _, _, rfl, by rw [if_neg (by have := HKN.out; omega)]; go_num, by omega, hv, hbr, hn, hbf⟩
                      case pos => as_aux_lemma =>
                        subst hg0
                        have hkv : (if K < 0 then -((0 : Nat) : Int) else ((0 : Nat) : Int)) = 0 := by split <;> rfl
                        rw [hkv]
                        have hjK : j = K.natAbs := by omega
                        have HJK := Lib.hid hjK
                        clear hkv
                        have hlt : (rlimbs (10 ^ j)).length ≤ 2000 := rlimbs_ten j (by omega)
                        by_cases hKn : K < 0
                        case pos => as_aux_lemma =>
                          have hq3 : q = qOf (sneg l) n (10 ^ j) := by rw [HQ0.out]; exact litQ_neg9 hKn HJK.out
                          have hKg : ¬ (0 : Int) ≤ K := by omega
                          clear hKn hjK
                          go_wp2_with fail
                          refine (rmake_any (sneg l) _ _ n (10 ^ j) _ hn ht (by omega) (by omega) (Nat.pow_pos (by decide))).mono ?_
                          rintro e w4 hq9
                          obtain ⟨mB, mxO, mxL, mxC, myO, myL, myC, rfl, hS, hmx, hmy, hm, hb⟩ := hq9.out
                          have HmS := Lib.hid hS; clear hS
                          replace hbr := hbr.kept hb
                          replace ht := ht.below hb
                          replace hn := hn.below hb
                          replace hbf := hbf.trans (hb.mono hbf.size)
                          clear hb
                          rw [← hq3] at hm
                          have er0 := hbr.c0
                          have fr0 := hbr.f0
                          have er1 := hbr.c1
                          have fr1 := hbr.f1
                          have er2 := hbr.c2
                          have fr2 := hbr.f2
                          go_wp2_with fail
                          exact end_rc rfl rfl rfl rfl hbr (show w.heap.size ≤ pr by have := HP.out; omega) hm hbf
                        case neg => as_aux_lemma =>
                          have hq3 : q = qOf (sneg l) (n * 10 ^ j) 1 := by rw [HQ0.out]; exact litQ_pos9 hKn HJK.out
                          have hKg : (0 : Int) ≤ K := by omega
                          have hlm : (rlimbs (n * 10 ^ j)).length ≤ 1000000 := Nat.le_trans (rlimbs_mulk hrn hlt) (by decide)
                          clear hKn hjK
                          go_wp2_with fail
                          refine (rmul_any _ _ n (10 ^ j) _ hn ht (by omega) (by omega)).mono ?_
                          rintro e w4 ⟨r9, rfl, hv, hb⟩
                          replace hbr := hbr.kept hb
                          replace ht := ht.below hb
                          replace hn := hn.below hb
                          replace hbf := hbf.trans (hb.mono hbf.size)
                          clear hb
                          obtain ⟨vO, vL, vC, rfl⟩ := hv.form
                          obtain ⟨w5, hwE⟩ : ∃ W, W = (w4.alloc (.cells #[.int .i64 1] 3)) := ⟨_, rfl⟩
                          have hb : Below w4.heap.size w4 w5 := by rw [hwE]; exact ((Below.refl _ w4).alloc (Nat.le_refl _) _)
                          obtain ⟨e8P, hpe8⟩ : ∃ p, p = w4.heap.size := ⟨_, rfl⟩
                          have he8 : RIs w5 (.slice (some ⟨e8P, 0, none⟩) 1 1) 1 := by rw [hwE, hpe8]; exact (one_is w4 (x := 1) (by omega) (by omega))
                          have HW := Lib.hid hwE; clear hwE
                          go_wp2_with fail
                          rw [← HW.out, ← hpe8]
                          clear hpe8 HW
                          replace hbr := hbr.kept hb
                          replace ht := ht.below hb
                          replace hn := hn.below hb
                          replace hv := hv.below hb
                          replace hbf := hbf.trans (hb.mono hbf.size)
                          clear hb
                          refine (rmake_any (sneg l) _ _ (n * 10 ^ j) 1 _ hv he8 hlm (Nat.le_trans (rl1 (by decide)) (by decide)) (by decide)).mono ?_
                          rintro e w6 hq9
                          obtain ⟨mB, mxO, mxL, mxC, myO, myL, myC, rfl, hS, hmx, hmy, hm, hb⟩ := hq9.out
                          have HmS := Lib.hid hS; clear hS
                          replace hbr := hbr.kept hb
                          replace ht := ht.below hb
                          replace hn := hn.below hb
                          replace hv := hv.below hb
                          replace he8 := he8.below hb
                          replace hbf := hbf.trans (hb.mono hbf.size)
                          clear hb
                          rw [← hq3] at hm
                          have er0 := hbr.c0
                          have fr0 := hbr.f0
                          have er1 := hbr.c1
                          have fr1 := hbr.f1
                          have er2 := hbr.c2
                          have fr2 := hbr.f2
                          go_wp2_with fail
                          exact end_rc rfl rfl rfl rfl hbr (show w.heap.size ≤ pr by have := HP.out; omega) hm hbf

end Go.Proofs.YtfiednmcecpkpaaDoor
