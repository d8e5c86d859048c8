/-
  Pc31: LawBs (what is needed of them).
-/
import Derived.Test.YtieffhkfefimeaaGreatDoorPc28
import Derived.Test.YtieffhkfefimeaaGreatDoorPc30
set_option maxRecDepth 100000
set_option linter.unusedVariables false
set_option linter.unusedSimpArgs false

namespace Go.Proofs.YtieffhkfefimeaaGreatDoor
open Go.RowKit Go.Shelf


def noB (e : EE) : EE := { e with base := [] }
def withB (e : EE) (bs : List Nat) : EE := { e with base := bs }
theorem noB_ens {w W : World} {v : Value} {e : EE} {bo : Option Addr} {bc : Nat} {no : Option Addr} {nc : Nat} {lo : Option Addr} {lc : Nat} (h : EnsIs w v e bo bc no nc lo lc) (hb : Below w.heap.size w W) : EnsIs W (ensV (noB e) none 0 no nc lo lc) (noB e) none 0 no nc lo lc :=
 ⟨rfl, .inl rfl, h.nodes.below (B := 0) hb, h.leaves.below (B := 0) hb, Nat.zero_le _, h.nl, h.ll, fun b hb => (by cases hb), h.nv, h.lv⟩
theorem withB_ens {w W : World} {v : Value} {e : EE} {bo : Option Addr} {bc : Nat} {no : Option Addr} {nc : Nat} {lo : Option Addr} {lc : Nat} (h : EnsIs w v e bo bc no nc lo lc) (hb : Below w.heap.size w W) {so : Option Addr} {sc : Nat} {bs : List Nat} (hs : Cells .u64 w so bs) (hl : bs.length ≤ maxLen) (hm : ∀ x ∈ bs, x < 18446744073709551616) : EnsIs W (ensV (withB e bs) so sc no nc lo lc) (withB e bs) so sc no nc lo lc :=
 ⟨rfl, hs.below hb, h.nodes.below (B := 0) hb, h.leaves.below (B := 0) hb, hl, h.nl, h.ll, hm, h.nv, h.lv⟩
theorem check_noB {e : EE} {bs : List Nat} (h : checkE (withB e bs) = 0) : checkE (noB e) = 0 := by
 have k := check_ok h
 exact checkE_0 k.size k.agg k.post rfl k.nums k.mode k.feat ⟨k.val, k.val2⟩ k.kid k.forest k.leaf k.weight
theorem baseN (e : EE) (bs : List Nat) (row : List Nat) {c0 cx : Nat} {La Lb : List (List UInt8)} (h : checkE (withB e bs) = 0) (h0 : scoreC (noB e) row = (c0, La)) (hx : scoreC (withB e bs) row = (cx, Lb)) :
  c0 = cx ∧ La.length = Lb.length ∧ (bs = [] → La = Lb) ∧ (bs ≠ [] → ∀ i, i < La.length → i < bs.length ∧ ∃ q, La[i]?.getD [] = qtext q ∧ Lb[i]?.getD [] = qtext (q + dval' 8 23 (bs[i]?.getD 0)) ∧ QB q 72) := by
 have hn := check_noB h
 unfold scoreC at h0 hx
 rw [if_neg (by rw [hn]; simp)] at h0
 rw [if_neg (by rw [h]; simp)] at hx
 have e1 : (noB e).feats = e.feats := rfl
 have e2 : (withB e bs).feats = e.feats := rfl
 rw [e1] at h0
 rw [e2] at hx
 by_cases h1 : (row.length : Int) = e.feats
 ·rw [if_neg (by simpa using h1)] at h0 hx
  injection h0 with a1 a2
  injection hx with b1 b2
  subst a1 a2 b1 b2
  have e3 : (noB e).tgts = e.tgts := rfl
  have e4 : (withB e bs).tgts = e.tgts := rfl
  rw [e3, e4]
  refine ⟨rfl, by rw [scoreT_len, scoreT_len], fun hb => by subst hb; rfl, fun hb i hi => ?_⟩
  rw [scoreT_len] at hi
  obtain ⟨f1, f2, f3, f4, f5, f6, f7⟩ := ok_facts hn
  have hbl : (bs.length : Int) = e.tgts := base_len h hb
  refine ⟨by omega, togQ e row i, ?_, ?_, ?_⟩
  ·unfold scoreT
   rw [List.getElem?_map, List.getElem?_range hi]
   rfl
  ·unfold scoreT
   rw [List.getElem?_map, List.getElem?_range hi]
   show qtext (scoreQ (withB e bs) row i) = _
   unfold scoreQ
   rw [if_neg (show ¬ (withB e bs).base = [] from hb)]
   rfl
  ·have := score_small (noB e) row i rfl f3 f4 f5
   unfold scoreQ at this
   rwa [if_pos (show (noB e).base = [] from rfl)] at this
 ·rw [if_pos h1] at h0 hx
  injection h0 with a1 a2
  injection hx with b1 b2
  subst a1 a2 b1 b2
  exact ⟨rfl, rfl, fun _ => rfl, fun _ i hi => absurd hi (Nat.not_lt_zero _)⟩
set_option maxHeartbeats 8000000 in
theorem base_e (v : Value) (e : EE) (bo : Option Addr) (bc : Nat) (no : Option Addr) (nc : Nat) (lo : Option Addr) (lc : Nat) (so : Option Addr) (sc : Nat) (bs : List Nat) (ro : Option Addr) (rc : Nat) (row : List Nat) (w : World) (h : EnsIs w v e bo bc no nc lo lc) (hsl : bs.length ≤ sc) (hsx : sc ≤ maxLen) (hbs : Cells .u64 w so bs) (hbm : ∀ x ∈ bs, x < 18446744073709551616) (hrl : row.length ≤ rc) (hrx : rc ≤ maxLen) (hrow : Cells .u64 w ro row) (hrm : ∀ x ∈ row, x < 18446744073709551616) :
  Calls Tryz.prog 5 #[v, .slice so bs.length sc, .slice ro row.length rc] w fun e' w' => e' = .returned (.bool true) ∧ Below w.heap.size w w' := by
 have H0 := Lib.hid h
 obtain ⟨b9, hb9⟩ : ∃ b, ensB e = b := ⟨_, rfl⟩
 have HB9 := Lib.hid hb9
 clear hb9
 have hrx2 := hrx
 have hsx2 := hsx
 unfold maxLen at hrx2 hsx2
 have hAl := fun W => alive24_any W
 obtain ⟨rfl, h1, h2, h4, h5, h3, h6, h7, h8, h9⟩ := h
 obtain ⟨w0, hw0, hbf, pe, hpe, hbe⟩ := boxE w e bo bc no nc lo lc
 have HP : Hid (w.heap.size ≤ pe) := Lib.hid (by omega)
 have HW := Lib.hid hw0; clear hw0
 go_enter Tryz.func5, Tryz.ntmps5
 go_upto_region 1 with fail
 rw [← HW.out, ← hpe]
 clear hpe HW
 have hE : EnsIs w0 (ensV e bo bc no nc lo lc) e bo bc no nc lo lc := EnsIs.below ⟨rfl, h1, h2, h4, h5, h3, h6, h7, h8, h9⟩ hbf
 obtain ⟨ee0, ee1, ee2, ee3, ee4, ee5, ee6⟩ := hbe.c7
 cases b9
 case false =>
  go_wp2_with (first | (go_at_call 11; refine (ens_any _ e _ _ _ _ _ _ w0 hE _ HB9.out).mono ?_; rintro e9 w1 ⟨rfl, hb1⟩) | (go_at_call 8; refine (hAl _).mono ?_; rintro e9 w2 ⟨rfl, hb2⟩))
  go_ret
  exact ⟨rfl, hbf.trans ((hb1.trans (hb2.mono hb1.size)).mono hbf.size)⟩
 have hrz : (0 : Int) ≤ (row.length : Int) := by omega
 rcases Decidable.em ((bs.length : Int) > 20) with q20 | q20
 ·skip
  go_wp2_with (first | (go_at_call 11; refine (ens_any _ e _ _ _ _ _ _ w0 hE _ HB9.out).mono ?_; rintro e9 w1 ⟨rfl, hb1⟩) | (go_at_call 8; refine (hAl _).mono ?_; rintro e9 w2 ⟨rfl, hb2⟩))
  go_ret
  exact ⟨rfl, hbf.trans ((hb1.trans (hb2.mono hb1.size)).mono hbf.size)⟩
 rcases Decidable.em ((row.length : Int) > 50) with q50 | q50
 ·skip
  go_wp2_with (first | (go_at_call 11; refine (ens_any _ e _ _ _ _ _ _ w0 hE _ HB9.out).mono ?_; rintro e9 w1 ⟨rfl, hb1⟩) | (go_at_call 8; refine (hAl _).mono ?_; rintro e9 w2 ⟨rfl, hb2⟩))
  go_ret
  exact ⟨rfl, hbf.trans ((hb1.trans (hb2.mono hb1.size)).mono hbf.size)⟩
 obtain ⟨hn60, hl60, hb30⟩ := ensB_out HB9.out
 go_upto_region 3 with (first | (go_at_call 11; refine (ens_any _ e _ _ _ _ _ _ w0 hE _ HB9.out).mono ?_; rintro e9 w1 ⟨rfl, hb1⟩) | (go_at_call 8; refine (hAl _).mono ?_; rintro e9 w2 ⟨rfl, hb2⟩))
 replace hb2 := hb1.trans (hb2.mono hb1.size)
 replace hbf := hbf.trans (hb2.mono hbf.size)
 replace hbe := hbe.kept hb2
 clear hb1 hb2 HB9 hE hAl
 clear ee0 ee1 ee2 ee3 ee4 ee5 ee6
 have ee4 := hbe.cell 4 _ rfl
 have fe4 := hbe.free 4 (by simp)
 obtain ⟨w3, hwE⟩ : ∃ X, X = w2.setCell ⟨pe, 4, none⟩ (.slice none 0 0) := ⟨_, rfl⟩
 have HW := Lib.hid hwE
 go_upto_region 4 with fail
 rw [← HW.out]
 have hbe3 : BoxL w3 pe [.int .i64 e.feats, .int .i64 e.tgts, .string ⟨e.agg.toArray⟩, .string ⟨e.post.toArray⟩, .slice none 0 0, .slice no e.nodes.length nc, .slice lo e.leaves.length lc] := by rw [hwE]; exact hbe.set 4 _ (by simp)
 have hbf3 : Below w.heap.size w w3 := by rw [hwE]; exact hbf.setCell (p := ⟨pe, 4, none⟩) HP.out _
 clear hbe hbf ee4 fe4 HW hwE
 obtain ⟨ee0, ee1, ee2, ee3, ee4, ee5, ee6⟩ := hbe3.c7
 obtain ⟨w4, hwE⟩ : ∃ X, X = w3.alloc (.cells #[.int .i64 e.feats, .int .i64 e.tgts, .string ⟨e.agg.toArray⟩, .string ⟨e.post.toArray⟩, .slice none 0 0, .slice no e.nodes.length nc, .slice lo e.leaves.length lc] 33) := ⟨_, rfl⟩
 obtain ⟨px, hpx⟩ : ∃ p, p = w3.heap.size := ⟨_, rfl⟩
 have hbx4 : BoxL w4 px [.int .i64 e.feats, .int .i64 e.tgts, .string ⟨e.agg.toArray⟩, .string ⟨e.post.toArray⟩, .slice none 0 0, .slice no e.nodes.length nc, .slice lo e.leaves.length lc] := by rw [hwE, hpx]; exact BoxL.new w3 _ _
 have hb4 : Below w3.heap.size w3 w4 := by rw [hwE]; exact (Below.refl _ _).alloc (Nat.le_refl _) _
 have HW := Lib.hid hwE; clear hwE
 go_upto_region 5 with fail
 rw [← HW.out, ← hpx]
 have Hpx : Hid (pe ≠ px ∧ w.heap.size ≤ px) := Lib.hid ⟨by have := hbe3.lt; omega, by have := hbf3.size; omega⟩
 clear HW hpx
 clear ee0 ee1 ee2 ee3 ee4 ee5 ee6
 have hbe4 := hbe3.kept hb4
 have hbf4 := hbf3.trans (hb4.mono hbf3.size)
 clear hbe3 hbf3 hb4
 have ee4 := hbx4.cell 4 _ rfl
 have fe4 := hbx4.free 4 (by simp)
 obtain ⟨w5, hwE⟩ : ∃ X, X = w4.setCell ⟨px, 4, none⟩ (.slice so bs.length sc) := ⟨_, rfl⟩
 have HW := Lib.hid hwE
 go_upto_region 6 with fail
 rw [← HW.out]
 have hbx : BoxL w5 px [.int .i64 e.feats, .int .i64 e.tgts, .string ⟨e.agg.toArray⟩, .string ⟨e.post.toArray⟩, .slice so bs.length sc, .slice no e.nodes.length nc, .slice lo e.leaves.length lc] := by rw [hwE]; exact hbx4.set 4 _ (by simp)
 have hbe : BoxL w5 pe [.int .i64 e.feats, .int .i64 e.tgts, .string ⟨e.agg.toArray⟩, .string ⟨e.post.toArray⟩, .slice none 0 0, .slice no e.nodes.length nc, .slice lo e.leaves.length lc] := by rw [hwE]; exact hbe4.setOther Hpx.out.1 4 _
 have hbf : Below w.heap.size w w5 := by rw [hwE]; exact hbf4.setCell (p := ⟨px, 4, none⟩) Hpx.out.2 _
 clear hbe4 hbx4 hbf4 ee4 fe4 HW hwE
 have hls := Nat.le_trans hsl hsx
 obtain ⟨cx, hcx⟩ : ∃ c, checkE (withB e bs) = c := ⟨_, rfl⟩
 obtain ⟨⟨C0, La⟩, hq0⟩ : ∃ x, scoreC (noB e) row = x := ⟨_, rfl⟩
 obtain ⟨⟨Cx, Lb⟩, hqx⟩ : ∃ x, scoreC (withB e bs) row = x := ⟨_, rfl⟩
 have HQ0 := Lib.hid hq0
 have HQX := Lib.hid hqx
 have HCX := Lib.hid hcx
 have hCk := fun W (hb : Below w.heap.size w W) => rcheck_any _ (withB e bs) _ _ _ _ _ _ cx W (withB_ens (sc := sc) H0.out hb hbs hls hbm) (show e.nodes.length ≤ 100000 by omega) (show e.leaves.length ≤ 100000 by omega) (show bs.length ≤ 100000 by omega) HCX
 have hS0 := fun W (hb : Below w.heap.size w W) => score_any _ (noB e) _ _ _ _ _ _ ro rc row C0 La W (noB_ens H0.out hb) hrl hrx (hrow.below hb) hrm (show e.nodes.length ≤ 2000 by omega) HQ0
 have hSx := fun W (hb : Below w.heap.size w W) => score_any _ (withB e bs) _ _ _ _ _ _ ro rc row Cx Lb W (withB_ens (sc := sc) H0.out hb hbs hls hbm) hrl hrx (hrow.below hb) hrm (show e.nodes.length ≤ 2000 by omega) HQX
 change ∀ W, Below w.heap.size w W → Calls _ _ #[.agg #[.int .i64 e.feats, .int .i64 e.tgts, .string ⟨e.agg.toArray⟩, .string ⟨e.post.toArray⟩, .slice so bs.length sc, .slice no e.nodes.length nc, .slice lo e.leaves.length lc]] W _ at hCk
 change ∀ W, Below w.heap.size w W → Calls _ _ #[.agg #[.int .i64 e.feats, .int .i64 e.tgts, .string ⟨e.agg.toArray⟩, .string ⟨e.post.toArray⟩, .slice none 0 0, .slice no e.nodes.length nc, .slice lo e.leaves.length lc], _] W _ at hS0
 change ∀ W, Below w.heap.size w W → Calls _ _ #[.agg #[.int .i64 e.feats, .int .i64 e.tgts, .string ⟨e.agg.toArray⟩, .string ⟨e.post.toArray⟩, .slice so bs.length sc, .slice no e.nodes.length nc, .slice lo e.leaves.length lc], _] W _ at hSx
 clear hcx hq0 hqx
 obtain ⟨ex0, ex1, ex2, ex3, ex4, ex5, ex6⟩ := hbx.c7
 go_upto_region 7 with (go_at_call 12; (with_reducible refine (hCk _ hbf).mono ?_); rintro e9 w6 ⟨rfl, hb⟩)
 clear ex0 ex1 ex2 ex3 ex4 ex5 ex6
 replace hbx := hbx.kept hb
 replace hbe := hbe.kept hb
 replace hbf := hbf.trans (hb.mono hbf.size)
 clear hb
 clear hCk
 obtain ⟨ee0, ee1, ee2, ee3, ee4, ee5, ee6⟩ := hbe.c7
 go_upto_region 8 with (go_at_call 13; (with_reducible refine (hS0 _ hbf).mono ?_); rintro e9 w7 ⟨ra, rfl, hOa, hb⟩; have hTa := strs_own hOa; clear hOa)
 clear ee0 ee1 ee2 ee3 ee4 ee5 ee6
 replace hbx := hbx.kept hb
 replace hbe := hbe.kept hb
 replace hbf := hbf.trans (hb.mono hbf.size)
 clear hb
 clear hS0
 obtain ⟨ex0, ex1, ex2, ex3, ex4, ex5, ex6⟩ := hbx.c7
 go_upto_region 9 with (go_at_call 13; (with_reducible refine (hSx _ hbf).mono ?_); rintro e9 w8 ⟨rb, rfl, hOb, hb⟩; have hTb := strs_own hOb; clear hOb)
 clear ex0 ex1 ex2 ex3 ex4 ex5 ex6
 replace hbx := hbx.kept hb
 replace hbe := hbe.kept hb
 replace hTa := hTa.below hb
 replace hbf := hbf.trans (hb.mono hbf.size)
 clear hb
 clear hSx hbx hbe
 rcases Decidable.em (cx = 0) with q0 | q0
 ·skip
  subst q0
  obtain ⟨p1, p2, p3, p4⟩ := baseN e bs row HCX.out HQ0.out HQX.out
  subst p1
  have P3 := Lib.hid p3
  have P4 := Lib.hid p4
  clear p3 p4 HCX HQ0 HQX
  obtain ⟨ao, ac, rfl, ha1, ha2, ha3⟩ := hTa
  obtain ⟨b8, bcp, rfl, hb1, hb2, hb3⟩ := hTb
  rw [← p2] at hb1 hb3 ⊢
  unfold maxLen at ha2 hb2
  have hTa : Strs w8 (.slice ao La.length ac) La := ⟨_, _, rfl, ha1, by unfold maxLen; exact ha2, ha3⟩
  have hTb : Strs w8 (.slice b8 La.length bcp) Lb := ⟨_, _, by rw [p2], by rw [← p2]; exact hb1, by unfold maxLen; exact hb2, by rw [← p2]; exact hb3⟩
  have cc : ((C0 : Int) != (C0 : Int)) = false := by simp
  have ll : ((La.length : Int) != (La.length : Int)) = false := by simp
  have hST : La = Lb → ∀ W, Below w8.heap.size w8 W → Calls _ _ #[_, _] W _ := fun h W hb => same_texts (.slice ao La.length ac) (.slice b8 La.length bcp) La W (hTa.below hb) (by have := hTb.below hb; rwa [← h] at this)
  have HST := Lib.hid hST
  clear hST
  have P2 := Lib.hid p2
  clear hTa hTb p2
  go_wp2_with fail
  go_loopg [14] La.length (fun gg iv wr => ∃ (i : Nat), i + gg = La.length ∧ iv = .int .i64 (i : Int) ∧ Below w8.heap.size w8 wr)
  case atStart => exact ⟨0, by omega, rfl, Below.refl _ _⟩
  case round =>
   obtain ⟨i, hi, rfl, hbr⟩ := hrel
   rcases Decidable.em (bs = []) with hb0 | hb0
   ·skip
    have hS := HST.out (P3.out hb0) wr hbr
    clear P3 P4 HST
    rcases Decidable.em ((i : Int) < (La.length : Int)) with hil | hil
    ·skip
     go_wp2_with (go_at_call 18; (with_reducible refine hS.mono ?_); rintro e9 w9 ⟨rfl, hb⟩)
     go_ret
     exact ⟨rfl, hbf.trans ((hbr.trans (hb.mono hbr.size)).mono hbf.size)⟩
    ·skip
     go_wp2_with (go_at_call 18; (with_reducible refine hS.mono ?_); rintro e9 w9 ⟨rfl, hb⟩)
     go_ret
     exact ⟨rfl, hbf.trans ((hbr.trans (hb.mono hbr.size)).mono hbf.size)⟩
   ·have hbz : (bs.length : Int) > 0 := by have := List.length_pos_iff.2 hb0; omega
    rcases Decidable.em (i < La.length) with hil | hil
    ·have hz : (i : Int) < (La.length : Int) := by omega
     have hz0 : (0 : Int) ≤ (i : Int) := by omega
     obtain ⟨hib, q, ta, tb, hqb⟩ := P4.out hb0 i hil
     have hzb : (i : Int) < (bs.length : Int) := by omega
     clear P3 HST hb0
     obtain ⟨x, hx⟩ : ∃ x, bs[i]?.getD 0 = x := ⟨_, rfl⟩
     have hx64 : x < 18446744073709551616 := by rw [← hx, List.getElem?_eq_getElem hib]; exact hbm _ (List.getElem_mem hib)
     obtain ⟨kd, hkd⟩ : ∃ c, dkind 8 23 x = c := ⟨_, rfl⟩
     obtain ⟨d, hd⟩ : ∃ d, dval' 8 23 x = d := ⟨_, rfl⟩
     have hdq := dval_qb_s hd
     have hDec := fun W => rdecode_s x kd d W (Lib.hid hkd) (Lib.hid hd) hx64
     rw [hx, hd] at tb
     clear hkd hd
     obtain ⟨ga, oa, rfl, hga, hca⟩ : ∃ b off, ao = some ⟨b, off, none⟩ ∧ b < w8.heap.size ∧ w8.cell? ⟨b, off + i, none⟩ = some (.string ⟨(qtext q).toArray⟩) := by
      rcases ha3 with h | ⟨b, off, h9, h10, h11⟩
      ·rw [h] at hil; exact absurd hil (Nat.not_lt_zero _)
      ·exact ⟨b, off, h9, h10, by rw [← ta]; exact h11 i hil⟩
     obtain ⟨gb, ob, rfl, hgb, hcb⟩ : ∃ b off, b8 = some ⟨b, off, none⟩ ∧ b < w8.heap.size ∧ w8.cell? ⟨b, off + i, none⟩ = some (.string ⟨(qtext (q + d)).toArray⟩) := by
      rcases hb3 with h | ⟨b, off, h9, h10, h11⟩
      ·have p2 := P2.out; rw [h] at p2; rw [p2] at hil; exact absurd hil (Nat.not_lt_zero _)
      ·exact ⟨b, off, h9, h10, by rw [← tb]; exact h11 i hil⟩
     obtain ⟨gs, os, rfl, hgs, hcs⟩ : ∃ b off, so = some ⟨b, off, none⟩ ∧ b < w.heap.size ∧ w.cell? ⟨b, off + i, none⟩ = some (.int .u64 (x : Int)) := by
      rcases hbs with h | ⟨b, off, h9, h10, h11⟩
      ·rw [h] at hib; exact absurd hib (Nat.not_lt_zero _)
      ·exact ⟨b, off, h9, h10, by rw [← hx]; exact h11 i hib⟩
     clear ha3 hb3 ta tb hx
     have hbf2 := hbf.trans (hbr.mono hbf.size)
     have eca := (hbr.cell (p := ⟨ga, oa + i, none⟩) hga).trans hca
     have ecb := (hbr.cell (p := ⟨gb, ob + i, none⟩) hgb).trans hcb
     have ecs := (hbf2.cell (p := ⟨gs, os + i, none⟩) hgs).trans hcs
     have hdg := hqb.digits (by decide)
     obtain ⟨hcd, hvl⟩ := qparse_text q hdg.1 hdg.2
     have hlen := qtext_len hdg.1 hdg.2
     clear hdg
     obtain ⟨tq, htq⟩ : ∃ l, qtext q = l := ⟨_, rfl⟩
     rw [htq] at hcd hvl hlen eca
     have hR := fun W => rqparse_some tq W q 0 (Lib.hid hvl.symm) (Lib.hid hcd.symm) hlen (qcode_pos hcd)
     clear hcd hvl hlen htq hca
     have hsq : QB (q + d) 139 := (hqb.add hdq).mono (by decide)
     obtain ⟨s, hs⟩ : ∃ s, q + d = s := ⟨_, rfl⟩
     rw [hs] at hsq ecb hcb
     have HS := Lib.hid hs
     clear hs
     obtain ⟨tx, htx⟩ : ∃ l, qtext s = l := ⟨_, rfl⟩
     rw [htx] at ecb
     have HTX := Lib.hid htx
     clear htx hcb
     go_upto_region 17 with (go_at_call 14; (with_reducible refine (hR _).mono ?_); rintro e9 v1 hq9; obtain ⟨xB, xxO, xxL, xxC, xyO, xyL, xyC, rfl, hS9, hxx, hxy, hxq, hb⟩ := hq9.out; clear hS9 hxx hxy hq9; obtain ⟨v2, hwE⟩ : ∃ X, X = v1.alloc (.cells #[.bool xB, .slice xxO xxL xxC, .slice xyO xyL xyC] 44) := ⟨_, rfl⟩; obtain ⟨p1, hpx⟩ : ∃ p, p = v1.heap.size := ⟨_, rfl⟩; have hb6 : Below v1.heap.size v1 v2 := (by rw [hwE]; exact (Below.refl _ _).alloc (Nat.le_refl _) _); have hbp1 : BoxL v2 p1 [.bool xB, .slice xxO xxL xxC, .slice xyO xyL xyC] := (by rw [hwE, hpx]; exact BoxL.new v1 _ _); have HW := Lib.hid hwE; clear hwE)
     rw [← HW.out, ← hpx]
     clear HW hpx eca hR
     replace hxq := hxq.below hb6
     replace hb := hb.trans (hb6.mono hb.size)
     clear hb6
     replace ecb := (hb.cell (p := ⟨gb, ob + i, none⟩) (Nat.lt_of_lt_of_le hgb hbr.size)).trans ecb
     replace ecs := (hb.cell (p := ⟨gs, os + i, none⟩) (Nat.lt_of_lt_of_le hgs hbf2.size)).trans ecs
     replace hbr := hbr.trans (hb.mono hbr.size)
     replace hbf2 := hbf2.trans (hb.mono hbf2.size)
     clear hb
     go_upto_region 18 with (go_at_call 15; (with_reducible refine (hDec _).mono ?_); rintro e9 v3 hq9; obtain ⟨yB, yxO, yxL, yxC, yyO, yyL, yyC, rfl, hS9, hyx, hyy, hyq, hb⟩ := hq9.out; clear hS9 hyx hyy hq9; obtain ⟨v4, hwE⟩ : ∃ X, X = v3.alloc (.cells #[.bool yB, .slice yxO yxL yxC, .slice yyO yyL yyC] 44) := ⟨_, rfl⟩; obtain ⟨p2, hpx⟩ : ∃ p, p = v3.heap.size := ⟨_, rfl⟩; have hb6 : Below v3.heap.size v3 v4 := (by rw [hwE]; exact (Below.refl _ _).alloc (Nat.le_refl _) _); have hbp2 : BoxL v4 p2 [.bool yB, .slice yxO yxL yxC, .slice yyO yyL yyC] := (by rw [hwE, hpx]; exact BoxL.new v3 _ _); have HW := Lib.hid hwE; clear hwE)
     rw [← HW.out, ← hpx]
     clear HW hpx ecs hDec
     replace hyq := hyq.below hb6
     replace hb := hb.trans (hb6.mono hb.size)
     clear hb6
     replace hxq := hxq.below hb
     replace hbp1 := hbp1.kept hb
     replace ecb := (hb.cell (p := ⟨gb, ob + i, none⟩) (Nat.lt_of_lt_of_le hgb hbr.size)).trans ecb
     replace hbr := hbr.trans (hb.mono hbr.size)
     replace hbf2 := hbf2.trans (hb.mono hbf2.size)
     clear hb
     have hgb2 := Nat.lt_of_lt_of_le hgb hbr.size
     refine wp_region_seq (S := fun w' => BoxL w' p1 [.bool xB, .slice xxO xxL xxC, .slice xyO xyL xyC] ∧ BoxL w' p2 [.bool yB, .slice yxO yxL yxC, .slice yyO yyL yyC] ∧ w'.cell? ⟨gb, ob + i, none⟩ = some (.string ⟨tx.toArray⟩)) [(true, 0), (true, 1), (true, 2), (true, 3), (true, 4), (true, 5), (true, 6), (true, 7), (true, 8), (false, 9), (false, 10), (true, 11), (true, 12)] (by kernel_rfl) (by kernel_rfl) (by kernel_rfl) (by kernel_rfl) (by kernel_rfl) (fun d _ _ _ _ h => by cases d <;> exact h) ⟨hbp1.drew, hbp2.drew, (by first | exact ecb | simpa using ecb)⟩ (fun _ => ?_)
     simp only [pickOps, List.append_eq, List.cons_append, List.nil_append, List.getElem?_toArray, List.getElem?_cons_succ, List.getElem?_cons_zero]
     have hb : Below v4.heap.size v4 v4.drew := (Below.refl _ _).drew
     generalize v4.drew = wd at hb ⊢
     replace hbp1 := hbp1.kept hb
     replace hbp2 := hbp2.kept hb
     replace ecb := (hb.cell (p := ⟨gb, ob + i, none⟩) hgb2).trans ecb
     replace hgb2 := Nat.lt_of_lt_of_le hgb2 hb.size
     replace hbr := hbr.trans (hb.mono hbr.size)
     replace hbf2 := hbf2.trans (hb.mono hbf2.size)
     replace hxq := hxq.below hb
     replace hyq := hyq.below hb
     clear hb
     repeat (first | (refine seq_take (v := ?_) (by rfl) ?_ ?_; rotate_left; (· intro w hSw; (try dsimp only at hSw); obtain ⟨hL0, hN0, ecx⟩ := hSw; have ep0 := hL0.cell 0 _ rfl; have ep1 := hL0.cell 1 _ rfl; have ep2 := hL0.cell 2 _ rfl; have eq0 := hN0.cell 0 _ rfl; have eq1 := hN0.cell 1 _ rfl; have eq2 := hN0.cell 2 _ rfl; clear hL0 hN0; go_simp; all_goals with_reducible rfl); (try simp only [Act.put, List.setIfInBounds_toArray, List.set_cons_zero, List.set_cons_succ])) | (refine seq_leave (by rfl) ?_; (try simp only [Act.put, List.setIfInBounds_toArray, List.set_cons_zero, List.set_cons_succ])))
     refine seq_step (by rfl) (fun K hK => ?_)
     go_simp
     go_at_call 17
     (with_reducible refine (rqadd_any _ _ q d 72 66 _ hxq hyq hqb hdq (by decide)).mono ?_)
     rintro e9 v5 ⟨rs9, rfl, hsv, hb⟩
     rw [HS.out] at hsv
     replace hbp1 := hbp1.kept hb
     replace hbp2 := hbp2.kept hb
     replace ecb := (hb.cell (p := ⟨gb, ob + i, none⟩) hgb2).trans ecb
     replace hgb2 := Nat.lt_of_lt_of_le hgb2 hb.size
     replace hbr := hbr.trans (hb.mono hbr.size)
     replace hbf2 := hbf2.trans (hb.mono hbf2.size)
     replace hxq := hxq.below hb
     replace hyq := hyq.below hb
     clear hb
     first | refine hK.out _ _ ⟨hbp1, hbp2, (by first | exact ecb | simpa using ecb)⟩ (fun _ => ?_) | (go_wp2_with fail; refine hK.out _ _ ⟨hbp1, hbp2, (by first | exact ecb | simpa using ecb)⟩ (fun _ => ?_))
     clear hK K
     (try simp only [Act.put, List.setIfInBounds_toArray, List.set_cons_zero, List.set_cons_succ])
     repeat (first | (refine seq_take (v := ?_) (by rfl) ?_ ?_; rotate_left; (· intro w hSw; (try dsimp only at hSw); obtain ⟨hL0, hN0, ecx⟩ := hSw; have ep0 := hL0.cell 0 _ rfl; have ep1 := hL0.cell 1 _ rfl; have ep2 := hL0.cell 2 _ rfl; have eq0 := hN0.cell 0 _ rfl; have eq1 := hN0.cell 1 _ rfl; have eq2 := hN0.cell 2 _ rfl; clear hL0 hN0; go_simp; all_goals with_reducible rfl); (try simp only [Act.put, List.setIfInBounds_toArray, List.set_cons_zero, List.set_cons_succ])) | (refine seq_leave (by rfl) ?_; (try simp only [Act.put, List.setIfInBounds_toArray, List.set_cons_zero, List.set_cons_succ])))
     refine seq_step (by rfl) (fun K hK => ?_)
     go_simp
     go_at_call 16
     (with_reducible refine (rqtext_any _ s _ hsv (hsq.mono (by decide))).mono ?_)
     rintro e9 v6 ⟨rfl, hb⟩
     rw [HTX.out]
     clear hsv
     replace hbp1 := hbp1.kept hb
     replace hbp2 := hbp2.kept hb
     replace ecb := (hb.cell (p := ⟨gb, ob + i, none⟩) hgb2).trans ecb
     replace hgb2 := Nat.lt_of_lt_of_le hgb2 hb.size
     replace hbr := hbr.trans (hb.mono hbr.size)
     replace hbf2 := hbf2.trans (hb.mono hbf2.size)
     replace hxq := hxq.below hb
     replace hyq := hyq.below hb
     clear hb
     first | refine hK.out _ _ ⟨hbp1, hbp2, (by first | exact ecb | simpa using ecb)⟩ (fun _ => ?_) | (go_wp2_with fail; refine hK.out _ _ ⟨hbp1, hbp2, (by first | exact ecb | simpa using ecb)⟩ (fun _ => ?_))
     clear hK K
     (try simp only [Act.put, List.setIfInBounds_toArray, List.set_cons_zero, List.set_cons_succ])
     repeat (first | (refine seq_take (v := ?_) (by rfl) ?_ ?_; rotate_left; (· intro w hSw; (try dsimp only at hSw); obtain ⟨hL0, hN0, ecx⟩ := hSw; have ep0 := hL0.cell 0 _ rfl; have ep1 := hL0.cell 1 _ rfl; have ep2 := hL0.cell 2 _ rfl; have eq0 := hN0.cell 0 _ rfl; have eq1 := hN0.cell 1 _ rfl; have eq2 := hN0.cell 2 _ rfl; clear hL0 hN0; go_simp; all_goals with_reducible rfl); (try simp only [Act.put, List.setIfInBounds_toArray, List.set_cons_zero, List.set_cons_succ])) | (refine seq_leave (by rfl) ?_; (try simp only [Act.put, List.setIfInBounds_toArray, List.set_cons_zero, List.set_cons_succ])))
     refine seq_end ?_
     clear hxq hyq hbp1 hbp2 ecb hgb2 hqb hdq hsq
     go_wp2_with fail
     go_roundg (gk - 1)
     case measure => omega
     case rel => exact ⟨i + 1, by omega, by go_num, hbr⟩
    ·have hz : ¬ (i : Int) < (La.length : Int) := by omega
     clear P3 P4 HST
     go_wp2_with fail
     go_ret
     exact ⟨rfl, hbf.trans (hbr.mono hbf.size)⟩
 ·have hcl : decide (cx = 0) = false := decide_eq_false q0
  have hqx := HQX.out
  unfold scoreC at hqx
  rw [if_pos (by rw [HCX.out]; exact q0)] at hqx
  injection hqx with e1 e2
  subst e1 e2
  clear HQ0 HQX HCX
  obtain ⟨b8, bcp, rfl, hb1, hb2, hb3⟩ := hTb
  have hl0 : ([] : List (List UInt8)).length = 0 := rfl
  rw [hcl]
  clear hcl q0
  go_wp2_with fail
  go_ret
  exact ⟨rfl, hbf⟩
theorem runBase_walk (v : Value) (b : Value) (lb : List Int) (u : Value) (ls : List Int) (w : World) (h : EnsIn w v) (hsb : IntsN .u64 w b lb) (hmb : ∀ n ∈ lb, (Lit.int .u64 n).wf = true) (hs : IntsN .u64 w u ls) (hm : ∀ n ∈ ls, (Lit.int .u64 n).wf = true) :
  Calls Tryz.prog 5 #[v, b, u] w fun e' w' => e' = .returned (.bool true) ∧ Below w.heap.size w w' := by
 obtain ⟨e, bo, bc, no, nc, lo, lc, hE, _⟩ := h
 obtain ⟨so, sc, bs, rfl, g1, g2, g3, g4, _, _⟩ := row_of hsb hmb
 obtain ⟨ro, rc, row, rfl, h1, h2, h3, h4, _, _⟩ := row_of hs hm
 exact base_e v e bo bc no nc lo lc so sc bs ro rc row w hE g1 g2 g3 g4 h1 h2 h3 h4
end Go.Proofs.YtieffhkfefimeaaGreatDoor
