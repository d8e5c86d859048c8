/-
  Pg26: LawTy (what is needed of them).
-/
import Derived.Test.YtlmjkbdodecbmaaDoorPg20
import Derived.Test.YtlmjkbdodecbmaaDoorPg24
import Derived.Test.YtlmjkbdodecbmaaDoorPg25

namespace Go.Proofs.YtlmjkbdodecbmaaDoor
open Go.RowKit Go.Shelf
set_option linter.unusedVariables false
set_option linter.unusedSimpArgs false
attribute [local go_sem] field_nat
theorem OwnsK.some99 {K base : Nat} {e : TypeId} {w : World} {v : Value} {n : Nat} {xs : List Value} (h : OwnsK K base e w v n xs) (hn : 0 < n) : ∃ g c, v = .slice (some ⟨g, 0, none⟩) n c ∧ base ≤ g ∧ g < w.heap.size ∧ n ≤ c ∧ c ≤ maxLen := by
  obtain ⟨h1, ⟨_, h2⟩ | ⟨g, cap, cur, e1, h3, h4, h5, h6, h7, h8⟩⟩ := h
  · omega
  · exact ⟨g, cap, e1, h3, (Array.getElem?_eq_some_iff.1 h4).1, h5, h6⟩
section
variable {P : Program} {ops : Array Oper} {Q : Exit → Act → World → Prop} {S : World → Prop}
/-- A drawn region whose last operation stands by itself. -/
theorem wp_region_heldT {id : Nat} {a : Act} {w : World} (hm : P.follows .mixedOrders = true) (hk : tailOk ops = true) (hS : S w.drew)
    (h : S w.drew → wpAnyH P .any ops.pop (TailQ P ops Q) S (ops.size - 1) (Array.replicate (ops.size - 1) false) a w.drew) : (Code.region id ops true).wp P Q a w := by
  refine wp_region_any hm ?_
  have h3 := wpAny_tail hk (wpAny_of_held _ _ _ _ (h hS))
  have e : ops.size - 1 + 1 = ops.size := by have := (tailOk_spec hk).pos; omega
  rw [e] at h3
  exact h3
end
set_option maxRecDepth 100000 in
set_option maxHeartbeats 8000000 in
/-- TreeAstray. -/
theorem treeAstray_main (t : TR) (no : Option Addr) (nc : Nat) (ao : Option Addr) (cap : Nat) (xs : List FV) (n k how : Int) (w : World) (hT0 : TrIs w.heap.size w t no nc) (hF0 : Flds w ao xs) (hxl : xs.length ≤ 9223372036854775807) (hbig : ∀ x ∈ xs, BigF x.f) :
    Calls Tryd.prog 5 #[.agg #[.slice no t.nodes.length nc, .int .i64 t.ms, .int .i64 t.nt], .slice ao xs.length cap, .int .i64 n, .int .i64 k, .int .i64 how] w fun e w' => e = .returned (.bool true) ∧ Below w.heap.size w w' := by
  obtain ⟨B, hB⟩ : ∃ B, B = w.heap.size := ⟨_, rfl⟩
  rw [← hB] at hT0
  obtain ⟨tb, htb⟩ : ∃ b, b = treeB t := ⟨_, rfl⟩
  obtain ⟨fb, hfb⟩ : ∃ b, b = fieldsB (xs.map (·.f)) := ⟨_, rfl⟩
  obtain ⟨vb, hvb⟩ : ∃ b, b = validT (xs.map (·.f)) t := ⟨_, rfl⟩
  have HTB := Lib.hid htb
  have HFB := Lib.hid hfb
  have HVB := Lib.hid hvb
  obtain ⟨w0, hw0, hbf, hz0, px, hpx, hbx⟩ := boxT w no t.nodes.length nc t.ms t.nt
  have hT := hT0.low (Low.of_below hbf (by omega))
  have hBw : B ≤ w0.heap.size := by omega
  have HF : Hid (Flds w0 ao xs) := Lib.hid (hF0.below hbf)
  have HXL := Lib.hid hxl
  have HBIG := Lib.hid hbig
  have HW := Lib.hid hw0
  have HB0 := Lib.hid hB
  have HPX : Hid (w.heap.size ≤ px) := Lib.hid (by omega)
  have HT0 := Lib.hid hT0
  have HF0 := Lib.hid hF0
  clear hw0 hz0 htb hfb hvb hT0 hF0 hxl hbig
  go_enter Tryd.func5, Tryd.ntmps5
  go_upto_region 1 with fail
  rw [← HW.out, ← hpx]
  clear hpx HW hB
  have e0 := hbx.cell 0 _ rfl
  have e1 := hbx.cell 1 _ rfl
  have e2 := hbx.cell 2 _ rfl
  go_wp2_with fail
  (with_reducible refine (bTree_any t tb no nc B _ hT hBw HTB).mono ?_)
  rintro e w1 ⟨rfl, hb⟩
  try clear e0 e1 e2
  replace hbx := hbx.kept hb
  replace hT := hT.low (Low.of_below hb hBw)
  replace hBw := Nat.le_trans hBw hb.size
  replace HF : Hid (Flds _ ao xs) := Lib.hid (HF.out.below hb)
  replace hbf := hbf.trans (hb.mono hbf.size)
  clear hb
  cases tb
  case false =>
    go_wp2_with fail
    refine (alive14_any _).mono ?_
    rintro e w9 ⟨rfl, hb⟩
    go_wp2_with fail
    go_ret
    exact ⟨ret_one rfl, hbf.trans (hb.mono hbf.size)⟩
  case true =>
  have hSZ := treeB_le HTB.out.symm
  have HSZ := Lib.hid hSZ.1
  have HSM := Lib.hid hSZ.2
  have HTB2 := Lib.hid HTB.out.symm
  clear HTB hSZ
  go_wp2_with fail
  (with_reducible refine (fields_t ao cap xs fb _ HF HXL HBIG HFB).mono ?_)
  rintro e w2 ⟨rfl, hb⟩
  try clear e0 e1 e2
  replace hbx := hbx.kept hb
  replace hT := hT.low (Low.of_below hb hBw)
  replace hBw := Nat.le_trans hBw hb.size
  replace HF : Hid (Flds _ ao xs) := Lib.hid (HF.out.below hb)
  replace hbf := hbf.trans (hb.mono hbf.size)
  clear hb
  cases fb
  case false =>
    go_wp2_with fail
    refine (alive14_any _).mono ?_
    rintro e w9 ⟨rfl, hb⟩
    go_wp2_with fail
    go_ret
    exact ⟨ret_one rfl, hbf.trans (hb.mono hbf.size)⟩
  case true =>
  have HXM : Hid (xs.length ≤ 1000000) := Lib.hid (by have := (fieldsB_le HFB.out.symm).1; rw [List.length_map] at this; omega)
  clear HFB HXL HBIG
  have e0 := hbx.cell 0 _ rfl
  have e1 := hbx.cell 1 _ rfl
  have e2 := hbx.cell 2 _ rfl
  go_wp2_with fail
  (with_reducible refine (tvalid_h t no nc B ao cap xs vb _ (Lib.hid hT) hBw HSZ HSM HF HXM HVB).mono ?_)
  rintro e w3 ⟨rfl, hb⟩
  try clear e0 e1 e2
  replace hbx := hbx.kept hb
  replace hT := hT.low (Low.of_below hb hBw)
  replace hBw := Nat.le_trans hBw hb.size
  replace HF : Hid (Flds _ ao xs) := Lib.hid (HF.out.below hb)
  replace hbf := hbf.trans (hb.mono hbf.size)
  clear hb
  cases vb
  case false =>
    go_wp2_with fail
    refine (alive14_any _).mono ?_
    rintro e w9 ⟨rfl, hb⟩
    go_wp2_with fail
    go_ret
    exact ⟨ret_one rfl, hbf.trans (hb.mono hbf.size)⟩
  case true =>
  go_wp2_with fail
  refine (alive14_any _).mono ?_
  rintro e w4 ⟨rfl, hb⟩
  try clear e0 e1 e2
  replace hbx := hbx.kept hb
  replace hT := hT.low (Low.of_below hb hBw)
  replace hBw := Nat.le_trans hBw hb.size
  replace HF : Hid (Flds _ ao xs) := Lib.hid (HF.out.below hb)
  replace hbf := hbf.trans (hb.mono hbf.size)
  clear hb
  clear hT HF hBw
  have e0 := hbx.cell 0 _ rfl
  by_cases hn0 : n < 0
  case pos =>
    go_wp2_with fail
    go_ret
    exact ⟨ret_one rfl, hbf⟩
  case neg =>
  by_cases hn1 : ((t.nodes.length : Nat) : Int) ≤ n
  case pos =>
    go_wp2_with fail
    go_ret
    exact ⟨ret_one rfl, hbf⟩
  case neg =>
  by_cases hk0 : k < 0
  case pos =>
    go_wp2_with fail
    go_ret
    exact ⟨ret_one rfl, hbf⟩
  case neg =>
  by_cases hk1 : ((t.nodes.length : Nat) : Int) ≤ k
  case pos =>
    go_wp2_with fail
    go_ret
    exact ⟨ret_one rfl, hbf⟩
  case neg =>
  obtain ⟨i, rfl⟩ : ∃ i : Nat, n = (i : Int) := ⟨n.toNat, by omega⟩
  obtain ⟨kk, rfl⟩ : ∃ i : Nat, k = (i : Int) := ⟨k.toNat, by omega⟩
  have hil : i < t.nodes.length := by omega
  have hkN : kk < t.nodes.length := by omega
  have hqi : (0 : Int) ≤ (i : Int) := by omega
  have hii : (i : Int) < ((t.nodes.length : Nat) : Int) := by omega
  have hBle : B ≤ w.heap.size := by rw [HB0.out]; exact Nat.le_refl _
  obtain ⟨x, hx9⟩ : ∃ x, t.nodes[i]? = some x := ⟨_, List.getElem?_eq_getElem hil⟩
  obtain ⟨nb, noff, l0, hno, hnb, -, -⟩ := HT0.out.at_ i x hx9
  subst hno
  obtain ⟨news, hn1l, hn2c, hn3o, hn4⟩ := HT0.out.cells t.nodes.length (Nat.le_refl _)
  obtain ⟨l, hNI, hls⟩ := hn4 i x hil hx9
  have HX := Lib.hid hx9
  have HNL := Lib.hid hn1l
  have HALL := Lib.hid hn4
  have HNI := Lib.hid hNI
  have HN1 := Lib.hid hn3o
  have hl9 : t.nodes.length ≤ 1500 := by have := HSZ.out; omega
  obtain ⟨w5, hw5, hb, -, p11, hp11, hb11⟩ := boxT w4 (some ⟨nb, noff, none⟩) t.nodes.length nc t.ms t.nt
  have HP11 : Hid (w.heap.size ≤ px ∧ px < p11 ∧ w4.heap.size ≤ p11 ∧ p11 < w5.heap.size) := Lib.hid (by have := HPX.out; have := hbx.lt; have := hb11.lt; omega)
  replace hbf := hbf.trans (hb.mono hbf.size)
  have hbx5 := hbx.kept hb
  have HW := Lib.hid hw5
  have e1 := hbx.cell 1 _ rfl
  have e2 := hbx.cell 2 _ rfl
  clear hw5 hb hbx hn4 hNI hx9
  go_upto_region 6 with fail
  rw [← HW.out, ← hp11]
  clear HW hp11 e0 e1 e2
  have e0 := hbx5.cell 0 _ rfl
  have HSRC : Hid (∀ j u, news[j]? = some u → w5.cell? ((⟨nb, noff, none⟩ : Addr).add j) = some u) := Lib.hid (fun j u hj => by rw [Addr.add_lit]; exact (hbf.cell (p := ⟨nb, noff + j, none⟩) (by show nb < _; omega)).trans (hn2c j u hj))
  clear hn2c hn1l hn3o
  go_upto_region 7 with (at_builtin; refine appendNil E_nodeT (news := news) (.inr ⟨_, rfl, HSRC.out⟩) HNL.out HN1.out (by omega) (by unfold maxLen; omega) rfl rfl rfl rfl ?_; intro vA wA hOA hbA; obtain ⟨g, cap9, rfl, hg1, hg2, hcap1, hcap2⟩ := hOA.some99 (by omega); have hb11A := hb11.kept hbA; have q0 := hb11A.cell 0 _ rfl; have q1 := hb11A.free 0 (by simp))
  have HCAP : Hid (t.nodes.length ≤ cap9 ∧ cap9 ≤ maxLen) := Lib.hid ⟨hcap1, hcap2⟩
  have hbgA := BoxL.of_ownsC hOA
  have hb5A := hbx5.kept hbA
  replace hbf := hbf.trans (hbA.mono hbf.size)
  obtain ⟨w6, hw6⟩ : ∃ W, W = wA.setCell ⟨p11, 0, none⟩ (.slice (some ⟨g, 0, none⟩) t.nodes.length cap9) := ⟨_, rfl⟩
  have hK6 : Keep (fun k => k = p11) wA w6 := by rw [hw6]; exact (Keep.refl (fun k => k = p11) wA).set p11 0 _ (.inl rfl)
  have h611 : BoxL w6 p11 [.slice (some ⟨g, 0, none⟩) t.nodes.length cap9, .int .i64 t.ms, .int .i64 t.nt] := by rw [hw6]; exact hb11A.set 0 _ (by simp)
  have hP := HP11.out
  have h6g := hbgA.keep hK6 (by omega)
  have h65 := hb5A.keep hK6 (by omega)
  have hbf6 := hbf.trans (hK6.below (fun k hk => by omega) hbf.size)
  rw [← hw6]
  clear hw6 hK6 hbgA hb5A hb11A q0 q1 hOA hbA hb11 hbx5 e0 hcap1 hcap2 hbf
  have e0 := h611.cell 0 _ rfl
  obtain ⟨b0, b1, b2, b3, b4, b5, b6, b7⟩ := hls
  have c0 := h6g.cell _ _ b0
  have c1 := h6g.cell _ _ b1
  have c2 := h6g.cell _ _ b2
  have c3 := h6g.cell _ _ b3
  have c4 := h6g.cell _ _ b4
  have c5 := h6g.cell _ _ b5
  have c6 := h6g.cell _ _ b6
  have c7 := h6g.cell _ _ b7
  obtain ⟨wC, hwC, hb, -, p12, hp12, hb12⟩ := boxN w6 x l
  have hb5 := h65.kept hb
  have hb11 := h611.kept hb
  have hbg := h6g.kept hb
  have hbf := hbf6.trans (hb.mono hbf6.size)
  have HQ : Hid (w.heap.size ≤ px ∧ px < p11 ∧ p11 < g ∧ g < p12 ∧ p12 < wC.heap.size ∧ B ≤ w.heap.size) := Lib.hid (by have := hbg.lt; have := h6g.lt; have := hb12.lt; omega)
  have HBC : Hid (wC.heap.size ≤ World.size9 wC) := Lib.hid (Nat.le_refl _)
  have HKC : Hid (IntsB B w l.io l.ic x.kids) := Lib.hid HNI.out.k
  have HKL9 : Hid (x.kids.length ≤ 1500) := Lib.hid (by have := kids_sum HX.out; have := HSZ.out; omega)
  have HW := Lib.hid hwC
  clear hwC hb h65 h611 h6g hbf6 b0 b1 b2 b3 b4 b5 b6 b7 hg1 hg2 hP
  go_upto_region 8 with fail
  rw [← HW.out, ← hp12]
  clear HW hp12 c0 c1 c2 c3 c4 c5 c6 c7 e0
  go_upto_region 10 with fail
  have HSK : Hid ((l.io = none ∧ x.kids.length = 0 ∧ l.ic = 0) ∨ ∃ ad, l.io = some ad ∧ ∀ j u, (icel x.kids)[j]? = some u → wC.cell? (ad.add j) = some u) := Lib.hid (HKC.out.low (Low.of_below hbf (HQ.out.2.2.2.2.2))).src
  have hkl := HKL9.out
  obtain ⟨c, hc⟩ : ∃ c, c = bits .and .i64 how 3 := ⟨_, rfl⟩
  rw [← hc]
  clear hc
  by_cases hc0 : c = 0
  case pos =>
    subst hc0
    have e6 := hb12.cell 6 _ rfl
    have HA : Hid (false = validT (xs.map (·.f)) (setT t i ⟨x.p, x.sc, x.ct, x.kids ++ [((kk : Nat) : Int)], x.df⟩)) := Lib.hid (astray_0 HVB.out.symm HX.out hkN rfl).symm
    go_upto_region 18 with (first | (at_builtin; refine appendNil E_intT (news := icel x.kids) HSK.out (by rw [icel_len, Nat.mul_one]) (icel_one _) (by omega) (by unfold maxLen; omega) rfl rfl rfl rfl ?_; intro vA wA hOA hbA; obtain ⟨ao9, ac9, rfl, -, -, -⟩ := hOA.slice) | (at_builtin; refine append1KO E_intT hOA rfl rfl rfl rfl rfl (by simp [Value.oneCell']) (by omega) (by unfold maxLen; omega) hbA.size ?_; intro vB wB hOB hbB hgB hnB; obtain ⟨bo9, bc9, rfl, -, -, -⟩ := hOB.slice; have hCx := hbA.trans hbB; have hb12B := hb12.block (hCx.block p12 HQ.out.2.2.2.2.1); have x6 := hb12B.cell 6 _ rfl; have f6 := hb12B.free 6 (by simp)))
    clear e6
    obtain ⟨wY, hwY⟩ : ∃ W, W = wB.setCell ⟨p12, 6, none⟩ (.slice bo9 (x.kids.length + 1) bc9) := ⟨_, rfl⟩
    have hKS : Keep (fun k => k = p12) wB wY := by rw [hwY]; exact (Keep.refl (fun k => k = p12) wB).set p12 6 _ (.inl rfl)
    have h12 : BoxL wY p12 [.int .i64 x.p.op, .int .i64 x.p.fld, .slice l.vo x.p.vals.length l.vc, .slice l.ko x.p.kids.length l.kc, .string ⟨x.sc.toArray⟩, .string ⟨x.ct.toArray⟩, .slice bo9 (x.kids.length + 1) bc9, .int .i64 x.df] := by rw [hwY]; exact hb12B.set 6 _ (by simp)
    rw [← hwY]
    have hKY : Keep (fun k => k = p12) wC wY := ⟨hKS.os.trans hCx.os, hKS.tape.trans hCx.tape, hKS.output.trans hCx.output, Nat.le_trans hCx.size hKS.size, fun k hk hs => (hKS.same k (Nat.lt_of_lt_of_le hk hCx.size) hs).trans (hCx.block k hk)⟩
    have hOY := hOB.keep hKS (fun q hq e => by have := (hOB.lt q hq).1; have := HQ.out; omega)
    have hic : icel x.kids ++ [Value.int .i64 ((kk : Nat) : Int)] = icel (x.kids ++ [((kk : Nat) : Int)]) := by rw [icel_app]; rfl
    rw [show (#[Value.int .i64 ((kk : Nat) : Int)] : Array Value).toList = [Value.int .i64 ((kk : Nat) : Int)] from rfl, hic] at hOY
    have HKL : Hid ((x.kids ++ [((kk : Nat) : Int)]).length = x.kids.length + 1) := Lib.hid (by simp)
    have HY : Hid (IntsQ wC.heap.size wY.heap.size wY bo9 bc9 (x.kids ++ [((kk : Nat) : Int)])) := Lib.hid (IntsQ.of_owns hOY HKL.out)
    clear hwY hKS hOY hOB hOA hCx hb12B hic hbA hbB hgB hnB x6 f6
    have hq := HQ.out
    have hbY : Below w.heap.size w wY := hbf.trans (hKY.below (fun k hk => by omega) hbf.size)
    have h5Y := hb5.keep hKY (by omega)
    have h11Y := hb11.keep hKY (by omega)
    have hgY := hbg.keep hKY (by omega)
    have hroom : i * 8 + 8 ≤ news.length := by rw [HNL.out]; omega
    have hzY : wC.heap.size ≤ wY.heap.size := hKY.size
    clear hb5 hb11 hbg hb12 hbf hKY
    obtain ⟨z0, hz0⟩ : ∃ u, news[i * 8]? = some u := ⟨_, List.getElem?_eq_getElem (by omega)⟩
    have c0 := hgY.cell _ _ hz0
    have d0 := hgY.free (i * 8) (by omega)
    obtain ⟨z1, hz1⟩ : ∃ u, news[i * 8 + 1]? = some u := ⟨_, List.getElem?_eq_getElem (by omega)⟩
    have c1 := hgY.cell _ _ hz1
    have d1 := hgY.free (i * 8 + 1) (by omega)
    obtain ⟨z2, hz2⟩ : ∃ u, news[i * 8 + 2]? = some u := ⟨_, List.getElem?_eq_getElem (by omega)⟩
    have c2 := hgY.cell _ _ hz2
    have d2 := hgY.free (i * 8 + 2) (by omega)
    obtain ⟨z3, hz3⟩ : ∃ u, news[i * 8 + 3]? = some u := ⟨_, List.getElem?_eq_getElem (by omega)⟩
    have c3 := hgY.cell _ _ hz3
    have d3 := hgY.free (i * 8 + 3) (by omega)
    obtain ⟨z4, hz4⟩ : ∃ u, news[i * 8 + 4]? = some u := ⟨_, List.getElem?_eq_getElem (by omega)⟩
    have c4 := hgY.cell _ _ hz4
    have d4 := hgY.free (i * 8 + 4) (by omega)
    obtain ⟨z5, hz5⟩ : ∃ u, news[i * 8 + 5]? = some u := ⟨_, List.getElem?_eq_getElem (by omega)⟩
    have c5 := hgY.cell _ _ hz5
    have d5 := hgY.free (i * 8 + 5) (by omega)
    obtain ⟨z6, hz6⟩ : ∃ u, news[i * 8 + 6]? = some u := ⟨_, List.getElem?_eq_getElem (by omega)⟩
    have c6 := hgY.cell _ _ hz6
    have d6 := hgY.free (i * 8 + 6) (by omega)
    obtain ⟨z7, hz7⟩ : ∃ u, news[i * 8 + 7]? = some u := ⟨_, List.getElem?_eq_getElem (by omega)⟩
    have c7 := hgY.cell _ _ hz7
    have d7 := hgY.free (i * 8 + 7) (by omega)
    clear hz0 hz1 hz2 hz3 hz4 hz5 hz6 hz7
    have m5 := h11Y.cell 0 _ rfl
    have x0 := h12.cell 0 _ rfl
    have x1 := h12.cell 1 _ rfl
    have x2 := h12.cell 2 _ rfl
    have x3 := h12.cell 3 _ rfl
    have x4 := h12.cell 4 _ rfl
    have x5 := h12.cell 5 _ rfl
    have x6 := h12.cell 6 _ rfl
    have x7 := h12.cell 7 _ rfl
    obtain ⟨we, hwE⟩ : ∃ W, W = ((((((((wY.setCell ⟨g, i * 8, none⟩ (.int .i64 x.p.op)).setCell ⟨g, i * 8 + 1, none⟩ (.int .i64 x.p.fld)).setCell ⟨g, i * 8 + 2, none⟩ (.slice l.vo x.p.vals.length l.vc)).setCell ⟨g, i * 8 + 3, none⟩ (.slice l.ko x.p.kids.length l.kc)).setCell ⟨g, i * 8 + 4, none⟩ (.string ⟨x.sc.toArray⟩)).setCell ⟨g, i * 8 + 5, none⟩ (.string ⟨x.ct.toArray⟩)).setCell ⟨g, i * 8 + 6, none⟩ (.slice bo9 (x.kids.length + 1) bc9)).setCell ⟨g, i * 8 + 7, none⟩ (.int .i64 x.df)) := ⟨_, rfl⟩
    have hG : BoxL we g (set8 news (i * 8) (.int .i64 x.p.op) (.int .i64 x.p.fld) (.slice l.vo x.p.vals.length l.vc) (.slice l.ko x.p.kids.length l.kc) (.string ⟨x.sc.toArray⟩) (.string ⟨x.ct.toArray⟩) (.slice bo9 (x.kids.length + 1) bc9) (.int .i64 x.df)) := by rw [hwE]; exact hgY.set8 (.int .i64 x.p.op) (.int .i64 x.p.fld) (.slice l.vo x.p.vals.length l.vc) (.slice l.ko x.p.kids.length l.kc) (.string ⟨x.sc.toArray⟩) (.string ⟨x.ct.toArray⟩) (.slice bo9 (x.kids.length + 1) bc9) (.int .i64 x.df) hroom
    have hKE : Keep (fun k => k = g) wY we := by rw [hwE]; exact (((((((((Keep.refl (fun k => k = g) wY).set g _ _ (.inl rfl)).set g _ _ (.inl rfl)).set g _ _ (.inl rfl)).set g _ _ (.inl rfl)).set g _ _ (.inl rfl)).set g _ _ (.inl rfl)).set g _ _ (.inl rfl)).set g _ _ (.inl rfl))
    have hzE : we.heap.size = wY.heap.size := by rw [hwE]; simp [World.setCell]
    have HWE := Lib.hid hwE
    clear hwE
    go_upto_region 19 with fail
    rw [← HWE.out]
    clear HWE c0 d0 x0 c1 d1 x1 c2 d2 x2 c3 d3 x3 c4 d4 x4 c5 d5 x5 c6 d6 x6 c7 d7 x7 m5 hgY h12
    have hbE : Below w.heap.size w we := hbY.trans (hKE.below (fun k hk => by omega) hbY.size)
    have hLow : Low B w we := Low.of_below hbE hq.2.2.2.2.2
    have HT9 : Hid (TrIs we.heap.size we (setT t i ⟨x.p, x.sc, x.ct, x.kids ++ [((kk : Nat) : Int)], x.df⟩) (some ⟨g, 0, none⟩) cap9) := Lib.hid (by
      refine TrIs.of_set (B := B) (w := w) (l := ⟨l.vo, l.vc, l.ko, l.kc, bo9, bc9⟩) (y := ⟨x.p, x.sc, x.ct, x.kids ++ [((kk : Nat) : Int)], x.df⟩) HNL.out HALL.out hLow (by omega) hil ?_ (by first | exact hG | (have h9 := hG; rw [← HKL.out] at h9; exact h9)) hG.lt HCAP.out
      refine ⟨(HNI.out.p.low hLow).mono (by omega), ?_, HNI.out.sc, HNI.out.ct⟩
      exact ((HY.out.mid (fun k h1 h2 => hKE.same k h2 (by omega))).toB).mono (by omega))
    have h5E := h5Y.keep hKE (by omega)
    have h11E := h11Y.keep hKE (by omega)
    have HFE : Hid (Flds we ao xs) := Lib.hid (HF0.out.below hbE)
    have hTw : Hid (TrIs B we t (some ⟨nb, noff, none⟩) nc) := Lib.hid (HT0.out.low hLow)
    have hBwe : B ≤ we.heap.size := by omega
    have HSZ9 := Lib.hid (treeB_room HTB2.out HX.out (y := ⟨x.p, x.sc, x.ct, x.kids ++ [((kk : Nat) : Int)], x.df⟩) (by have := HKL.out; show (x.kids ++ [((kk : Nat) : Int)]).length ≤ _; omega) ⟨rfl, rfl, rfl⟩)
    have HL9 : Hid ((setT t i ⟨x.p, x.sc, x.ct, x.kids ++ [((kk : Nat) : Int)], x.df⟩).nodes.length = t.nodes.length ∧ (setT t i ⟨x.p, x.sc, x.ct, x.kids ++ [((kk : Nat) : Int)], x.df⟩).ms = t.ms ∧ (setT t i ⟨x.p, x.sc, x.ct, x.kids ++ [((kk : Nat) : Int)], x.df⟩).nt = t.nt) := Lib.hid ⟨by show (t.nodes.set i _).length = _; rw [List.length_set], rfl, rfl⟩
    clear hKE hG hbY hzE hroom h5Y h11Y hLow
    have e0 := h11E.cell 0 _ rfl
    have e1 := h11E.cell 1 _ rfl
    have e2 := h11E.cell 2 _ rfl
    go_wp2_with fail
    (with_reducible refine (tvalid_l (setT t i ⟨x.p, x.sc, x.ct, x.kids ++ [((kk : Nat) : Int)], x.df⟩) t.nodes.length t.ms t.nt (some ⟨g, 0, none⟩) cap9 we.heap.size ao cap xs false _ HL9 HT9 (Nat.le_refl _) HSZ9 HFE HXM HA).mono ?_)
    rintro e w9 ⟨rfl, hb⟩
    clear e0 e1 e2 HT9 HSZ9 HL9
    replace h5E := h5E.kept hb
    replace HFE : Hid (Flds w9 ao xs) := Lib.hid (HFE.out.below hb)
    have hTw9 : Hid (TrIs B w9 t (some ⟨nb, noff, none⟩) nc) := Lib.hid (hTw.out.low (Low.of_below hb hBwe))
    have hBw9 : B ≤ w9.heap.size := Nat.le_trans hBwe hb.size
    replace hbE := hbE.trans (hb.mono hbE.size)
    clear hb hTw
    have e0 := h5E.cell 0 _ rfl
    have e1 := h5E.cell 1 _ rfl
    have e2 := h5E.cell 2 _ rfl
    go_wp2_with fail
    (with_reducible refine (tvalid_h t (some ⟨nb, noff, none⟩) nc B ao cap xs true _ hTw9 hBw9 HSZ HSM HFE HXM HVB).mono ?_)
    rintro e w10 ⟨rfl, hb⟩
    go_wp2_with fail
    go_ret
    exact ⟨ret_one rfl, hbE.trans (hb.mono hbE.size)⟩
  case neg =>
  have hc0b : (c == 0) = false := by rw [beq_eq_false_iff_ne]; exact hc0
  by_cases hc1 : c = 1
  case pos =>
    subst hc1
    have e6 := hb12.cell 6 _ rfl
    by_cases hkz : x.kids.length = 0
    case pos =>
      have hkb : (((x.kids.length : Nat) : Int) == 0) = true := by rw [beq_iff_eq]; omega
      clear hkz
      go_wp2_with fail
      go_ret
      exact ⟨ret_one rfl, hbf⟩
    case neg =>
    have hkb : (((x.kids.length : Nat) : Int) == 0) = false := by rw [beq_eq_false_iff_ne]; omega
    obtain ⟨c0, r0, hcr⟩ : ∃ c r, x.kids = c :: r := by
      cases hx : x.kids with
      | nil => rw [hx] at hkz; exact absurd rfl hkz
      | cons c r => exact ⟨c, r, rfl⟩
    have hcp := HKC.out.cap
    obtain ⟨kb, koff, hio, hkb9, -⟩ := HKC.out.at_ 0 c0 (by rw [hcr]; rfl)
    have HCR := Lib.hid hcr
    have HIO := Lib.hid hio
    rw [hio] at e6
    have f6 := hb12.free 6 (by simp)
    have x7 := hb12.cell 7 _ rfl
    have f7 := hb12.free 7 (by simp)
    have q1 : (1 : Int) ≤ ((x.kids.length : Nat) : Int) := by omega
    have q2 : ((x.kids.length : Nat) : Int) ≤ ((l.ic : Nat) : Int) := by omega
    have hne : x.kids ≠ [] := fun e => by rw [e] at hkz; exact hkz rfl
    have HA : Hid (false = validT (xs.map (·.f)) (setT t i ⟨x.p, x.sc, x.ct, x.kids.drop 1, -1⟩)) := Lib.hid (astray_1 (y := ⟨x.p, x.sc, x.ct, x.kids.drop 1, -1⟩) HVB.out.symm HX.out hne rfl).symm
    have HKL : Hid ((x.kids.drop 1).length = x.kids.length - 1) := Lib.hid (by simp)
    clear hcr hio hne hkz hkb9
    go_upto_region 18 with fail
    obtain ⟨io9, hio9⟩ : ∃ o, o = (if l.ic = 1 then some (⟨kb, koff, none⟩ : Addr) else some ⟨kb, koff + 1, none⟩) := ⟨_, rfl⟩
    rw [← hio9]
    have HR1 : Hid (IntsB B w io9 (l.ic - 1) (x.kids.drop 1)) := Lib.hid (by
      have h9 := HKC.out
      rw [HIO.out, HCR.out] at h9
      rw [hio9, HCR.out]
      exact h9.rest2)
    obtain ⟨wY, hwY⟩ : ∃ W, W = (wC.setCell ⟨p12, 6, none⟩ (.slice io9 (x.kids.length - 1) (l.ic - 1))).setCell ⟨p12, 7, none⟩ (.int .i64 (-1)) := ⟨_, rfl⟩
    rw [← hwY]
    have hKY : Keep (fun k => k = p12) wC wY := by rw [hwY]; exact ((Keep.refl (fun k => k = p12) wC).set p12 6 _ (.inl rfl)).set p12 7 _ (.inl rfl)
    have h12 : BoxL wY p12 [.int .i64 x.p.op, .int .i64 x.p.fld, .slice l.vo x.p.vals.length l.vc, .slice l.ko x.p.kids.length l.kc, .string ⟨x.sc.toArray⟩, .string ⟨x.ct.toArray⟩, .slice io9 (x.kids.length - 1) (l.ic - 1), .int .i64 (-1)] := by rw [hwY]; exact (hb12.set 6 (.slice io9 (x.kids.length - 1) (l.ic - 1)) (by simp)).set 7 (.int .i64 (-1)) (by simp)
    clear hwY hio9 e6 f6 x7 f7 q1 q2 hcp hkb
    have hq := HQ.out
    have hbY : Below w.heap.size w wY := hbf.trans (hKY.below (fun k hk => by omega) hbf.size)
    have h5Y := hb5.keep hKY (by omega)
    have h11Y := hb11.keep hKY (by omega)
    have hgY := hbg.keep hKY (by omega)
    have hroom : i * 8 + 8 ≤ news.length := by rw [HNL.out]; omega
    have hzY : wC.heap.size ≤ wY.heap.size := hKY.size
    clear hb5 hb11 hbg hb12 hbf hKY
    obtain ⟨z0, hz0⟩ : ∃ u, news[i * 8]? = some u := ⟨_, List.getElem?_eq_getElem (by omega)⟩
    have c0 := hgY.cell _ _ hz0
    have d0 := hgY.free (i * 8) (by omega)
    obtain ⟨z1, hz1⟩ : ∃ u, news[i * 8 + 1]? = some u := ⟨_, List.getElem?_eq_getElem (by omega)⟩
    have c1 := hgY.cell _ _ hz1
    have d1 := hgY.free (i * 8 + 1) (by omega)
    obtain ⟨z2, hz2⟩ : ∃ u, news[i * 8 + 2]? = some u := ⟨_, List.getElem?_eq_getElem (by omega)⟩
    have c2 := hgY.cell _ _ hz2
    have d2 := hgY.free (i * 8 + 2) (by omega)
    obtain ⟨z3, hz3⟩ : ∃ u, news[i * 8 + 3]? = some u := ⟨_, List.getElem?_eq_getElem (by omega)⟩
    have c3 := hgY.cell _ _ hz3
    have d3 := hgY.free (i * 8 + 3) (by omega)
    obtain ⟨z4, hz4⟩ : ∃ u, news[i * 8 + 4]? = some u := ⟨_, List.getElem?_eq_getElem (by omega)⟩
    have c4 := hgY.cell _ _ hz4
    have d4 := hgY.free (i * 8 + 4) (by omega)
    obtain ⟨z5, hz5⟩ : ∃ u, news[i * 8 + 5]? = some u := ⟨_, List.getElem?_eq_getElem (by omega)⟩
    have c5 := hgY.cell _ _ hz5
    have d5 := hgY.free (i * 8 + 5) (by omega)
    obtain ⟨z6, hz6⟩ : ∃ u, news[i * 8 + 6]? = some u := ⟨_, List.getElem?_eq_getElem (by omega)⟩
    have c6 := hgY.cell _ _ hz6
    have d6 := hgY.free (i * 8 + 6) (by omega)
    obtain ⟨z7, hz7⟩ : ∃ u, news[i * 8 + 7]? = some u := ⟨_, List.getElem?_eq_getElem (by omega)⟩
    have c7 := hgY.cell _ _ hz7
    have d7 := hgY.free (i * 8 + 7) (by omega)
    clear hz0 hz1 hz2 hz3 hz4 hz5 hz6 hz7
    have m5 := h11Y.cell 0 _ rfl
    have x0 := h12.cell 0 _ rfl
    have x1 := h12.cell 1 _ rfl
    have x2 := h12.cell 2 _ rfl
    have x3 := h12.cell 3 _ rfl
    have x4 := h12.cell 4 _ rfl
    have x5 := h12.cell 5 _ rfl
    have x6 := h12.cell 6 _ rfl
    have x7 := h12.cell 7 _ rfl
    obtain ⟨we, hwE⟩ : ∃ W, W = ((((((((wY.setCell ⟨g, i * 8, none⟩ (.int .i64 x.p.op)).setCell ⟨g, i * 8 + 1, none⟩ (.int .i64 x.p.fld)).setCell ⟨g, i * 8 + 2, none⟩ (.slice l.vo x.p.vals.length l.vc)).setCell ⟨g, i * 8 + 3, none⟩ (.slice l.ko x.p.kids.length l.kc)).setCell ⟨g, i * 8 + 4, none⟩ (.string ⟨x.sc.toArray⟩)).setCell ⟨g, i * 8 + 5, none⟩ (.string ⟨x.ct.toArray⟩)).setCell ⟨g, i * 8 + 6, none⟩ (.slice io9 (x.kids.length - 1) (l.ic - 1))).setCell ⟨g, i * 8 + 7, none⟩ (.int .i64 (-1))) := ⟨_, rfl⟩
    have hG : BoxL we g (set8 news (i * 8) (.int .i64 x.p.op) (.int .i64 x.p.fld) (.slice l.vo x.p.vals.length l.vc) (.slice l.ko x.p.kids.length l.kc) (.string ⟨x.sc.toArray⟩) (.string ⟨x.ct.toArray⟩) (.slice io9 (x.kids.length - 1) (l.ic - 1)) (.int .i64 (-1))) := by rw [hwE]; exact hgY.set8 (.int .i64 x.p.op) (.int .i64 x.p.fld) (.slice l.vo x.p.vals.length l.vc) (.slice l.ko x.p.kids.length l.kc) (.string ⟨x.sc.toArray⟩) (.string ⟨x.ct.toArray⟩) (.slice io9 (x.kids.length - 1) (l.ic - 1)) (.int .i64 (-1)) hroom
    have hKE : Keep (fun k => k = g) wY we := by rw [hwE]; exact (((((((((Keep.refl (fun k => k = g) wY).set g _ _ (.inl rfl)).set g _ _ (.inl rfl)).set g _ _ (.inl rfl)).set g _ _ (.inl rfl)).set g _ _ (.inl rfl)).set g _ _ (.inl rfl)).set g _ _ (.inl rfl)).set g _ _ (.inl rfl))
    have hzE : we.heap.size = wY.heap.size := by rw [hwE]; simp [World.setCell]
    have HWE := Lib.hid hwE
    clear hwE
    go_upto_region 19 with fail
    rw [← HWE.out]
    clear HWE c0 d0 x0 c1 d1 x1 c2 d2 x2 c3 d3 x3 c4 d4 x4 c5 d5 x5 c6 d6 x6 c7 d7 x7 m5 hgY h12
    have hbE : Below w.heap.size w we := hbY.trans (hKE.below (fun k hk => by omega) hbY.size)
    have hLow : Low B w we := Low.of_below hbE hq.2.2.2.2.2
    have HT9 : Hid (TrIs we.heap.size we (setT t i ⟨x.p, x.sc, x.ct, x.kids.drop 1, -1⟩) (some ⟨g, 0, none⟩) cap9) := Lib.hid (by
      refine TrIs.of_set (B := B) (w := w) (l := ⟨l.vo, l.vc, l.ko, l.kc, io9, (l.ic - 1)⟩) (y := ⟨x.p, x.sc, x.ct, x.kids.drop 1, -1⟩) HNL.out HALL.out hLow (by omega) hil ?_ (by first | exact hG | (have h9 := hG; rw [← HKL.out] at h9; exact h9)) hG.lt HCAP.out
      refine ⟨(HNI.out.p.low hLow).mono (by omega), ?_, HNI.out.sc, HNI.out.ct⟩
      exact (HR1.out.low hLow).mono (by omega))
    have h5E := h5Y.keep hKE (by omega)
    have h11E := h11Y.keep hKE (by omega)
    have HFE : Hid (Flds we ao xs) := Lib.hid (HF0.out.below hbE)
    have hTw : Hid (TrIs B we t (some ⟨nb, noff, none⟩) nc) := Lib.hid (HT0.out.low hLow)
    have hBwe : B ≤ we.heap.size := by omega
    have HSZ9 := Lib.hid (treeB_room HTB2.out HX.out (y := ⟨x.p, x.sc, x.ct, x.kids.drop 1, -1⟩) (by have := HKL.out; show (x.kids.drop 1).length ≤ _; omega) ⟨rfl, rfl, rfl⟩)
    have HL9 : Hid ((setT t i ⟨x.p, x.sc, x.ct, x.kids.drop 1, -1⟩).nodes.length = t.nodes.length ∧ (setT t i ⟨x.p, x.sc, x.ct, x.kids.drop 1, -1⟩).ms = t.ms ∧ (setT t i ⟨x.p, x.sc, x.ct, x.kids.drop 1, -1⟩).nt = t.nt) := Lib.hid ⟨by show (t.nodes.set i _).length = _; rw [List.length_set], rfl, rfl⟩
    clear hKE hG hbY hzE hroom h5Y h11Y hLow
    have e0 := h11E.cell 0 _ rfl
    have e1 := h11E.cell 1 _ rfl
    have e2 := h11E.cell 2 _ rfl
    go_wp2_with fail
    (with_reducible refine (tvalid_l (setT t i ⟨x.p, x.sc, x.ct, x.kids.drop 1, -1⟩) t.nodes.length t.ms t.nt (some ⟨g, 0, none⟩) cap9 we.heap.size ao cap xs false _ HL9 HT9 (Nat.le_refl _) HSZ9 HFE HXM HA).mono ?_)
    rintro e w9 ⟨rfl, hb⟩
    clear e0 e1 e2 HT9 HSZ9 HL9
    replace h5E := h5E.kept hb
    replace HFE : Hid (Flds w9 ao xs) := Lib.hid (HFE.out.below hb)
    have hTw9 : Hid (TrIs B w9 t (some ⟨nb, noff, none⟩) nc) := Lib.hid (hTw.out.low (Low.of_below hb hBwe))
    have hBw9 : B ≤ w9.heap.size := Nat.le_trans hBwe hb.size
    replace hbE := hbE.trans (hb.mono hbE.size)
    clear hb hTw
    have e0 := h5E.cell 0 _ rfl
    have e1 := h5E.cell 1 _ rfl
    have e2 := h5E.cell 2 _ rfl
    go_wp2_with fail
    (with_reducible refine (tvalid_h t (some ⟨nb, noff, none⟩) nc B ao cap xs true _ hTw9 hBw9 HSZ HSM HFE HXM HVB).mono ?_)
    rintro e w10 ⟨rfl, hb⟩
    go_wp2_with fail
    go_ret
    exact ⟨ret_one rfl, hbE.trans (hb.mono hbE.size)⟩
  case neg =>
  have hc1b : (c == 1) = false := by rw [beq_eq_false_iff_ne]; exact hc1
  by_cases hc2 : c = 2
  case pos =>
    subst hc2
    have x7 := hb12.cell 7 _ rfl
    have f7 := hb12.free 7 (by simp)
    have e0 := hb5.cell 0 _ rfl
    have HA : Hid (false = validT (xs.map (·.f)) (setT t i ⟨x.p, x.sc, x.ct, x.kids, ((t.nodes.length : Nat) : Int)⟩)) := Lib.hid (astray_2 (y := ⟨x.p, x.sc, x.ct, x.kids, ((t.nodes.length : Nat) : Int)⟩) HVB.out.symm HX.out rfl rfl).symm
    obtain ⟨wY, hwY⟩ : ∃ W, W = wC.setCell ⟨p12, 7, none⟩ (.int .i64 ((t.nodes.length : Nat) : Int)) := ⟨_, rfl⟩
    have hKY : Keep (fun k => k = p12) wC wY := by rw [hwY]; exact (Keep.refl (fun k => k = p12) wC).set p12 7 _ (.inl rfl)
    have h12 : BoxL wY p12 [.int .i64 x.p.op, .int .i64 x.p.fld, .slice l.vo x.p.vals.length l.vc, .slice l.ko x.p.kids.length l.kc, .string ⟨x.sc.toArray⟩, .string ⟨x.ct.toArray⟩, .slice l.io x.kids.length l.ic, .int .i64 ((t.nodes.length : Nat) : Int)] := by rw [hwY]; exact hb12.set 7 _ (by simp)
    have HWY := Lib.hid hwY
    clear hwY
    go_upto_region 18 with fail
    rw [← HWY.out]
    clear x7 f7 e0 HWY
    have HKL : Hid (x.kids.length = x.kids.length) := Lib.hid rfl
    have hq := HQ.out
    have hbY : Below w.heap.size w wY := hbf.trans (hKY.below (fun k hk => by omega) hbf.size)
    have h5Y := hb5.keep hKY (by omega)
    have h11Y := hb11.keep hKY (by omega)
    have hgY := hbg.keep hKY (by omega)
    have hroom : i * 8 + 8 ≤ news.length := by rw [HNL.out]; omega
    have hzY : wC.heap.size ≤ wY.heap.size := hKY.size
    clear hb5 hb11 hbg hb12 hbf hKY
    obtain ⟨z0, hz0⟩ : ∃ u, news[i * 8]? = some u := ⟨_, List.getElem?_eq_getElem (by omega)⟩
    have c0 := hgY.cell _ _ hz0
    have d0 := hgY.free (i * 8) (by omega)
    obtain ⟨z1, hz1⟩ : ∃ u, news[i * 8 + 1]? = some u := ⟨_, List.getElem?_eq_getElem (by omega)⟩
    have c1 := hgY.cell _ _ hz1
    have d1 := hgY.free (i * 8 + 1) (by omega)
    obtain ⟨z2, hz2⟩ : ∃ u, news[i * 8 + 2]? = some u := ⟨_, List.getElem?_eq_getElem (by omega)⟩
    have c2 := hgY.cell _ _ hz2
    have d2 := hgY.free (i * 8 + 2) (by omega)
    obtain ⟨z3, hz3⟩ : ∃ u, news[i * 8 + 3]? = some u := ⟨_, List.getElem?_eq_getElem (by omega)⟩
    have c3 := hgY.cell _ _ hz3
    have d3 := hgY.free (i * 8 + 3) (by omega)
    obtain ⟨z4, hz4⟩ : ∃ u, news[i * 8 + 4]? = some u := ⟨_, List.getElem?_eq_getElem (by omega)⟩
    have c4 := hgY.cell _ _ hz4
    have d4 := hgY.free (i * 8 + 4) (by omega)
    obtain ⟨z5, hz5⟩ : ∃ u, news[i * 8 + 5]? = some u := ⟨_, List.getElem?_eq_getElem (by omega)⟩
    have c5 := hgY.cell _ _ hz5
    have d5 := hgY.free (i * 8 + 5) (by omega)
    obtain ⟨z6, hz6⟩ : ∃ u, news[i * 8 + 6]? = some u := ⟨_, List.getElem?_eq_getElem (by omega)⟩
    have c6 := hgY.cell _ _ hz6
    have d6 := hgY.free (i * 8 + 6) (by omega)
    obtain ⟨z7, hz7⟩ : ∃ u, news[i * 8 + 7]? = some u := ⟨_, List.getElem?_eq_getElem (by omega)⟩
    have c7 := hgY.cell _ _ hz7
    have d7 := hgY.free (i * 8 + 7) (by omega)
    clear hz0 hz1 hz2 hz3 hz4 hz5 hz6 hz7
    have m5 := h11Y.cell 0 _ rfl
    have x0 := h12.cell 0 _ rfl
    have x1 := h12.cell 1 _ rfl
    have x2 := h12.cell 2 _ rfl
    have x3 := h12.cell 3 _ rfl
    have x4 := h12.cell 4 _ rfl
    have x5 := h12.cell 5 _ rfl
    have x6 := h12.cell 6 _ rfl
    have x7 := h12.cell 7 _ rfl
    obtain ⟨we, hwE⟩ : ∃ W, W = ((((((((wY.setCell ⟨g, i * 8, none⟩ (.int .i64 x.p.op)).setCell ⟨g, i * 8 + 1, none⟩ (.int .i64 x.p.fld)).setCell ⟨g, i * 8 + 2, none⟩ (.slice l.vo x.p.vals.length l.vc)).setCell ⟨g, i * 8 + 3, none⟩ (.slice l.ko x.p.kids.length l.kc)).setCell ⟨g, i * 8 + 4, none⟩ (.string ⟨x.sc.toArray⟩)).setCell ⟨g, i * 8 + 5, none⟩ (.string ⟨x.ct.toArray⟩)).setCell ⟨g, i * 8 + 6, none⟩ (.slice l.io x.kids.length l.ic)).setCell ⟨g, i * 8 + 7, none⟩ (.int .i64 ((t.nodes.length : Nat) : Int))) := ⟨_, rfl⟩
    have hG : BoxL we g (set8 news (i * 8) (.int .i64 x.p.op) (.int .i64 x.p.fld) (.slice l.vo x.p.vals.length l.vc) (.slice l.ko x.p.kids.length l.kc) (.string ⟨x.sc.toArray⟩) (.string ⟨x.ct.toArray⟩) (.slice l.io x.kids.length l.ic) (.int .i64 ((t.nodes.length : Nat) : Int))) := by rw [hwE]; exact hgY.set8 (.int .i64 x.p.op) (.int .i64 x.p.fld) (.slice l.vo x.p.vals.length l.vc) (.slice l.ko x.p.kids.length l.kc) (.string ⟨x.sc.toArray⟩) (.string ⟨x.ct.toArray⟩) (.slice l.io x.kids.length l.ic) (.int .i64 ((t.nodes.length : Nat) : Int)) hroom
    have hKE : Keep (fun k => k = g) wY we := by rw [hwE]; exact (((((((((Keep.refl (fun k => k = g) wY).set g _ _ (.inl rfl)).set g _ _ (.inl rfl)).set g _ _ (.inl rfl)).set g _ _ (.inl rfl)).set g _ _ (.inl rfl)).set g _ _ (.inl rfl)).set g _ _ (.inl rfl)).set g _ _ (.inl rfl))
    have hzE : we.heap.size = wY.heap.size := by rw [hwE]; simp [World.setCell]
    have HWE := Lib.hid hwE
    clear hwE
    go_upto_region 19 with fail
    rw [← HWE.out]
    clear HWE c0 d0 x0 c1 d1 x1 c2 d2 x2 c3 d3 x3 c4 d4 x4 c5 d5 x5 c6 d6 x6 c7 d7 x7 m5 hgY h12
    have hbE : Below w.heap.size w we := hbY.trans (hKE.below (fun k hk => by omega) hbY.size)
    have hLow : Low B w we := Low.of_below hbE hq.2.2.2.2.2
    have HT9 : Hid (TrIs we.heap.size we (setT t i ⟨x.p, x.sc, x.ct, x.kids, ((t.nodes.length : Nat) : Int)⟩) (some ⟨g, 0, none⟩) cap9) := Lib.hid (by
      refine TrIs.of_set (B := B) (w := w) (l := ⟨l.vo, l.vc, l.ko, l.kc, l.io, l.ic⟩) (y := ⟨x.p, x.sc, x.ct, x.kids, ((t.nodes.length : Nat) : Int)⟩) HNL.out HALL.out hLow (by omega) hil ?_ (by first | exact hG | (have h9 := hG; rw [← HKL.out] at h9; exact h9)) hG.lt HCAP.out
      refine ⟨(HNI.out.p.low hLow).mono (by omega), ?_, HNI.out.sc, HNI.out.ct⟩
      exact (HKC.out.low hLow).mono (by omega))
    have h5E := h5Y.keep hKE (by omega)
    have h11E := h11Y.keep hKE (by omega)
    have HFE : Hid (Flds we ao xs) := Lib.hid (HF0.out.below hbE)
    have hTw : Hid (TrIs B we t (some ⟨nb, noff, none⟩) nc) := Lib.hid (HT0.out.low hLow)
    have hBwe : B ≤ we.heap.size := by omega
    have HSZ9 := Lib.hid (treeB_room HTB2.out HX.out (y := ⟨x.p, x.sc, x.ct, x.kids, ((t.nodes.length : Nat) : Int)⟩) (by have := HKL.out; show (x.kids).length ≤ _; omega) ⟨rfl, rfl, rfl⟩)
    have HL9 : Hid ((setT t i ⟨x.p, x.sc, x.ct, x.kids, ((t.nodes.length : Nat) : Int)⟩).nodes.length = t.nodes.length ∧ (setT t i ⟨x.p, x.sc, x.ct, x.kids, ((t.nodes.length : Nat) : Int)⟩).ms = t.ms ∧ (setT t i ⟨x.p, x.sc, x.ct, x.kids, ((t.nodes.length : Nat) : Int)⟩).nt = t.nt) := Lib.hid ⟨by show (t.nodes.set i _).length = _; rw [List.length_set], rfl, rfl⟩
    clear hKE hG hbY hzE hroom h5Y h11Y hLow
    have e0 := h11E.cell 0 _ rfl
    have e1 := h11E.cell 1 _ rfl
    have e2 := h11E.cell 2 _ rfl
    go_wp2_with fail
    (with_reducible refine (tvalid_l (setT t i ⟨x.p, x.sc, x.ct, x.kids, ((t.nodes.length : Nat) : Int)⟩) t.nodes.length t.ms t.nt (some ⟨g, 0, none⟩) cap9 we.heap.size ao cap xs false _ HL9 HT9 (Nat.le_refl _) HSZ9 HFE HXM HA).mono ?_)
    rintro e w9 ⟨rfl, hb⟩
    clear e0 e1 e2 HT9 HSZ9 HL9
    replace h5E := h5E.kept hb
    replace HFE : Hid (Flds w9 ao xs) := Lib.hid (HFE.out.below hb)
    have hTw9 : Hid (TrIs B w9 t (some ⟨nb, noff, none⟩) nc) := Lib.hid (hTw.out.low (Low.of_below hb hBwe))
    have hBw9 : B ≤ w9.heap.size := Nat.le_trans hBwe hb.size
    replace hbE := hbE.trans (hb.mono hbE.size)
    clear hb hTw
    have e0 := h5E.cell 0 _ rfl
    have e1 := h5E.cell 1 _ rfl
    have e2 := h5E.cell 2 _ rfl
    go_wp2_with fail
    (with_reducible refine (tvalid_h t (some ⟨nb, noff, none⟩) nc B ao cap xs true _ hTw9 hBw9 HSZ HSM HFE HXM HVB).mono ?_)
    rintro e w10 ⟨rfl, hb⟩
    go_wp2_with fail
    go_ret
    exact ⟨ret_one rfl, hbE.trans (hb.mono hbE.size)⟩
  case neg =>
  have hc2b : (c == 2) = false := by rw [beq_eq_false_iff_ne]; exact hc2
  have HA : Hid (false = validT (xs.map (·.f)) (setT t i ⟨x.p, x.sc, x.ct, x.kids ++ [((t.nodes.length : Nat) : Int)], x.df⟩)) := Lib.hid (astray_3 (y := ⟨x.p, x.sc, x.ct, x.kids ++ [((t.nodes.length : Nat) : Int)], x.df⟩) HX.out rfl).symm
  go_upto_region 9 with fail
  refine wp_region_heldT (S := fun w' => BoxL w' px [.slice (some ⟨nb, noff, none⟩) t.nodes.length nc, .int .i64 t.ms, .int .i64 t.nt] ∧ BoxL w' p12 [.int .i64 x.p.op, .int .i64 x.p.fld, .slice l.vo x.p.vals.length l.vc, .slice l.ko x.p.kids.length l.kc, .string ⟨x.sc.toArray⟩, .string ⟨x.ct.toArray⟩, .slice l.io x.kids.length l.ic, .int .i64 x.df]) (by kernel_rfl) (by kernel_rfl) ⟨hb5.drew, hb12.drew⟩ (fun _ => ?_)
  have hCd : Below wC.heap.size wC wC.drew := (Below.refl _ _).drew
  generalize wC.drew = wd at hCd ⊢
  have h5 := hb5.kept hCd
  have h12 := hb12.kept hCd
  have HSd : Hid ((l.io = none ∧ x.kids.length = 0 ∧ l.ic = 0) ∨ ∃ ad, l.io = some ad ∧ ∀ j u, (icel x.kids)[j]? = some u → wd.cell? (ad.add j) = some u) := Lib.hid (HKC.out.low (Low.of_below (hbf.trans (hCd.mono hbf.size)) HQ.out.2.2.2.2.2)).src
  (refine wpAnyH_take (i := 0) (v := ?_) rfl (by kernel_rfl) (by kernel_rfl) (by kernel_rfl) (fun _ _ _ h => h) (Or.inl ⟨by rfl, ?_⟩) ⟨h5, h12⟩ ?_; rotate_left; (· intro w hSw; (try dsimp only at hSw); obtain ⟨hL5, hL12⟩ := hSw; have e0 := hL5.cell 0 _ rfl; have x6 := hL12.cell 6 _ rfl; clear hL5 hL12; go_simp; all_goals with_reducible rfl); (try simp only [List.getElem_toArray, List.getElem_cons_succ, List.getElem_cons_zero, Act.put, List.setIfInBounds_toArray, List.set_cons_zero, List.set_cons_succ]))
  (refine wpAnyH_take (i := 1) (v := ?_) rfl (by kernel_rfl) (by kernel_rfl) (by kernel_rfl) (fun _ _ _ h => h) (Or.inl ⟨by rfl, ?_⟩) ⟨h5, h12⟩ ?_; rotate_left; (· intro w hSw; (try dsimp only at hSw); obtain ⟨hL5, hL12⟩ := hSw; have e0 := hL5.cell 0 _ rfl; have x6 := hL12.cell 6 _ rfl; clear hL5 hL12; go_simp; all_goals with_reducible rfl); (try simp only [List.getElem_toArray, List.getElem_cons_succ, List.getElem_cons_zero, Act.put, List.setIfInBounds_toArray, List.set_cons_zero, List.set_cons_succ]))
  (refine wpAnyH_take (i := 3) (v := ?_) rfl (by kernel_rfl) (by kernel_rfl) (by kernel_rfl) (fun _ _ _ h => h) (Or.inl ⟨by rfl, ?_⟩) ⟨h5, h12⟩ ?_; rotate_left; (· intro w hSw; (try dsimp only at hSw); obtain ⟨hL5, hL12⟩ := hSw; have e0 := hL5.cell 0 _ rfl; have x6 := hL12.cell 6 _ rfl; clear hL5 hL12; go_simp; all_goals with_reducible rfl); (try simp only [List.getElem_toArray, List.getElem_cons_succ, List.getElem_cons_zero, Act.put, List.setIfInBounds_toArray, List.set_cons_zero, List.set_cons_succ]))
  (refine wpAnyH_take (i := 4) (v := ?_) rfl (by kernel_rfl) (by kernel_rfl) (by kernel_rfl) (fun _ _ _ h => h) (Or.inl ⟨by rfl, ?_⟩) ⟨h5, h12⟩ ?_; rotate_left; (· intro w hSw; (try dsimp only at hSw); obtain ⟨hL5, hL12⟩ := hSw; have e0 := hL5.cell 0 _ rfl; have x6 := hL12.cell 6 _ rfl; clear hL5 hL12; go_simp; all_goals with_reducible rfl); (try simp only [List.getElem_toArray, List.getElem_cons_succ, List.getElem_cons_zero, Act.put, List.setIfInBounds_toArray, List.set_cons_zero, List.set_cons_succ]))
  (refine wpAnyH_take (i := 5) (v := ?_) rfl (by kernel_rfl) (by kernel_rfl) (by kernel_rfl) (fun _ _ _ h => h) (Or.inl ⟨by rfl, ?_⟩) ⟨h5, h12⟩ ?_; rotate_left; (· intro w hSw; (try dsimp only at hSw); obtain ⟨hL5, hL12⟩ := hSw; have e0 := hL5.cell 0 _ rfl; have x6 := hL12.cell 6 _ rfl; clear hL5 hL12; go_simp; all_goals with_reducible rfl); (try simp only [List.getElem_toArray, List.getElem_cons_succ, List.getElem_cons_zero, Act.put, List.setIfInBounds_toArray, List.set_cons_zero, List.set_cons_succ]))
  refine wpAnyH_ready (rs := [2, 6]) (by kernel_rfl) (by simp) (AllReadyH.cons rfl (fun K hK => ?_) (AllReadyH.cons rfl (fun K hK => ?_) AllReadyH.nil))
  · skip
    (try rw [if_pos (by rfl)])
    refine step_appendT E_intT (OwnsK.nil 1 wC.heap.size 3 wd) rfl rfl rfl (by rw [icel_len, Nat.mul_one]) HSd.out (icel_one _) (by omega) (by unfold maxLen; omega) hCd.size ?_
    intro vA wA hOA hgA hnA
    rw [List.nil_append, Nat.zero_add] at hOA
    obtain ⟨ao9, ac9, rfl, -, -, -⟩ := hOA.slice
    have hb : Below wd.heap.size wd wA := ⟨hgA.os, hgA.tape, hgA.output, hgA.size, fun k hk => hgA.block k hk (by simp [Value.ownBlock])⟩
    clear hgA hnA
    replace h5 := h5.kept hb
    replace h12 := h12.kept hb
    replace hCd := hCd.trans (hb.mono hCd.size)
    clear hb
    first | refine hK.out _ _ ⟨h5, h12⟩ (fun _ => ?_) | (go_wp2_with fail; refine hK.out _ _ ⟨h5, h12⟩ (fun _ => ?_))
    clear hK K
    (try simp only [List.getElem_toArray, List.getElem_cons_succ, List.getElem_cons_zero, Act.put, List.setIfInBounds_toArray, List.set_cons_zero, List.set_cons_succ])
    refine wpAnyH_ready (rs := [6]) (by kernel_rfl) (by simp) (AllReadyH.cons rfl (fun K hK => ?_) AllReadyH.nil)
    go_simp
    obtain ⟨wb, hwE⟩ : ∃ W, W = wA.alloc (.cells #[.int .i64 ((t.nodes.length : Nat) : Int)] 3) := ⟨_, rfl⟩
    obtain ⟨pb, hpE⟩ : ∃ q, q = wA.heap.size := ⟨_, rfl⟩
    have hb : Below wA.heap.size wA wb := by rw [hwE]; exact (Below.refl _ _).alloc (Nat.le_refl _) _
    have hbN : BoxL wb pb [.int .i64 ((t.nodes.length : Nat) : Int)] := by rw [hwE, hpE]; exact BoxL.new wA _ _
    rw [← hwE, ← hpE]
    clear hwE hpE
    replace hOA := hOA.kept hb
    replace h5 := h5.kept hb
    replace h12 := h12.kept hb
    replace hCd := hCd.trans (hb.mono hCd.size)
    clear hb
    first | refine hK.out _ _ ⟨h5, h12⟩ (fun _ => ?_) | (go_wp2_with fail; refine hK.out _ _ ⟨h5, h12⟩ (fun _ => ?_))
    clear hK K
    (try simp only [List.getElem_toArray, List.getElem_cons_succ, List.getElem_cons_zero, Act.put, List.setIfInBounds_toArray, List.set_cons_zero, List.set_cons_succ])
    refine wpAnyH_ready (rs := [7]) (by kernel_rfl) (by simp) (AllReadyH.cons rfl (fun K hK => ?_) AllReadyH.nil)
    (try rw [if_pos (by rfl)])
    refine step_appendKs (us := [.int .i64 ((t.nodes.length : Nat) : Int)]) E_intT hOA rfl rfl rfl rfl (fun j u hj => by rw [Addr.add_lit, Nat.zero_add]; exact hbN.cell j u hj) (by simp [Value.oneCell']) (by omega) (by unfold maxLen; omega) hCd.size ?_
    intro vB wB hOB hgB hnB
    obtain ⟨bo9, bc9, rfl, -, -, -⟩ := hOB.slice
    have hB9 : Below wC.heap.size wb wB := ⟨hgB.os, hgB.tape, hgB.output, hgB.size, fun k hk => hgB.block k (by have := hCd.size; omega) (fun e9 => by have := (hOA.lt k e9.symm).1; omega)⟩
    have hq9 := HQ.out
    replace h5 := h5.block (hB9.block px (by omega))
    replace h12 := h12.block (hB9.block p12 (by omega))
    have hCx := hCd.trans hB9
    clear hB9 hgB hbN hq9
    first | refine hK.out _ _ ⟨h5, h12⟩ (fun _ => ?_) | (go_wp2_with fail; refine hK.out _ _ ⟨h5, h12⟩ (fun _ => ?_))
    clear hK K
    (try simp only [List.getElem_toArray, List.getElem_cons_succ, List.getElem_cons_zero, Act.put, List.setIfInBounds_toArray, List.set_cons_zero, List.set_cons_succ])
    (refine wpAnyH_take (i := 8) (v := ?_) rfl (by kernel_rfl) (by kernel_rfl) (by kernel_rfl) (fun _ _ _ h => h) (Or.inl ⟨by rfl, ?_⟩) ⟨h5, h12⟩ ?_; rotate_left; (· intro w hSw; (try dsimp only at hSw); obtain ⟨hL5, hL12⟩ := hSw; clear hL5 hL12; go_simp; all_goals with_reducible rfl); (try simp only [List.getElem_toArray, List.getElem_cons_succ, List.getElem_cons_zero, Act.put, List.setIfInBounds_toArray, List.set_cons_zero, List.set_cons_succ]))
    refine wpAnyH_done (by kernel_rfl) ?_ _
    refine tail_end rfl rfl ?_
    have hb12B := h12
    clear h12 h5
    have x6 := hb12B.cell 6 _ rfl
    have f6 := hb12B.free 6 (by simp)
    go_simp
    have hbA : True := trivial
    have hbB : True := trivial
    have hgB : True := trivial
    obtain ⟨wY, hwY⟩ : ∃ W, W = wB.setCell ⟨p12, 6, none⟩ (.slice bo9 (x.kids.length + 1) bc9) := ⟨_, rfl⟩
    have hKS : Keep (fun k => k = p12) wB wY := by rw [hwY]; exact (Keep.refl (fun k => k = p12) wB).set p12 6 _ (.inl rfl)
    have h12 : BoxL wY p12 [.int .i64 x.p.op, .int .i64 x.p.fld, .slice l.vo x.p.vals.length l.vc, .slice l.ko x.p.kids.length l.kc, .string ⟨x.sc.toArray⟩, .string ⟨x.ct.toArray⟩, .slice bo9 (x.kids.length + 1) bc9, .int .i64 x.df] := by rw [hwY]; exact hb12B.set 6 _ (by simp)
    rw [← hwY]
    have hKY : Keep (fun k => k = p12) wC wY := ⟨hKS.os.trans hCx.os, hKS.tape.trans hCx.tape, hKS.output.trans hCx.output, Nat.le_trans hCx.size hKS.size, fun k hk hs => (hKS.same k (Nat.lt_of_lt_of_le hk hCx.size) hs).trans (hCx.block k hk)⟩
    have hOY := hOB.keep hKS (fun q hq e => by have := (hOB.lt q hq).1; have := HQ.out; omega)
    have hic : icel x.kids ++ [Value.int .i64 ((t.nodes.length : Nat) : Int)] = icel (x.kids ++ [((t.nodes.length : Nat) : Int)]) := by rw [icel_app]; rfl
    rw [hic] at hOY
    have HKL : Hid ((x.kids ++ [((t.nodes.length : Nat) : Int)]).length = x.kids.length + 1) := Lib.hid (by simp)
    have HY : Hid (IntsQ wC.heap.size wY.heap.size wY bo9 bc9 (x.kids ++ [((t.nodes.length : Nat) : Int)])) := Lib.hid (IntsQ.of_owns hOY HKL.out)
    clear hwY hKS hOY hOB hOA hCx hb12B hic hbA hbB hgB hnB x6 f6
    have hq := HQ.out
    have hbY : Below w.heap.size w wY := hbf.trans (hKY.below (fun k hk => by omega) hbf.size)
    have h5Y := hb5.keep hKY (by omega)
    have h11Y := hb11.keep hKY (by omega)
    have hgY := hbg.keep hKY (by omega)
    have hroom : i * 8 + 8 ≤ news.length := by rw [HNL.out]; omega
    have hzY : wC.heap.size ≤ wY.heap.size := hKY.size
    clear hb5 hb11 hbg hb12 hbf hKY
    obtain ⟨z0, hz0⟩ : ∃ u, news[i * 8]? = some u := ⟨_, List.getElem?_eq_getElem (by omega)⟩
    have c0 := hgY.cell _ _ hz0
    have d0 := hgY.free (i * 8) (by omega)
    obtain ⟨z1, hz1⟩ : ∃ u, news[i * 8 + 1]? = some u := ⟨_, List.getElem?_eq_getElem (by omega)⟩
    have c1 := hgY.cell _ _ hz1
    have d1 := hgY.free (i * 8 + 1) (by omega)
    obtain ⟨z2, hz2⟩ : ∃ u, news[i * 8 + 2]? = some u := ⟨_, List.getElem?_eq_getElem (by omega)⟩
    have c2 := hgY.cell _ _ hz2
    have d2 := hgY.free (i * 8 + 2) (by omega)
    obtain ⟨z3, hz3⟩ : ∃ u, news[i * 8 + 3]? = some u := ⟨_, List.getElem?_eq_getElem (by omega)⟩
    have c3 := hgY.cell _ _ hz3
    have d3 := hgY.free (i * 8 + 3) (by omega)
    obtain ⟨z4, hz4⟩ : ∃ u, news[i * 8 + 4]? = some u := ⟨_, List.getElem?_eq_getElem (by omega)⟩
    have c4 := hgY.cell _ _ hz4
    have d4 := hgY.free (i * 8 + 4) (by omega)
    obtain ⟨z5, hz5⟩ : ∃ u, news[i * 8 + 5]? = some u := ⟨_, List.getElem?_eq_getElem (by omega)⟩
    have c5 := hgY.cell _ _ hz5
    have d5 := hgY.free (i * 8 + 5) (by omega)
    obtain ⟨z6, hz6⟩ : ∃ u, news[i * 8 + 6]? = some u := ⟨_, List.getElem?_eq_getElem (by omega)⟩
    have c6 := hgY.cell _ _ hz6
    have d6 := hgY.free (i * 8 + 6) (by omega)
    obtain ⟨z7, hz7⟩ : ∃ u, news[i * 8 + 7]? = some u := ⟨_, List.getElem?_eq_getElem (by omega)⟩
    have c7 := hgY.cell _ _ hz7
    have d7 := hgY.free (i * 8 + 7) (by omega)
    clear hz0 hz1 hz2 hz3 hz4 hz5 hz6 hz7
    have m5 := h11Y.cell 0 _ rfl
    have x0 := h12.cell 0 _ rfl
    have x1 := h12.cell 1 _ rfl
    have x2 := h12.cell 2 _ rfl
    have x3 := h12.cell 3 _ rfl
    have x4 := h12.cell 4 _ rfl
    have x5 := h12.cell 5 _ rfl
    have x6 := h12.cell 6 _ rfl
    have x7 := h12.cell 7 _ rfl
    obtain ⟨we, hwE⟩ : ∃ W, W = ((((((((wY.setCell ⟨g, i * 8, none⟩ (.int .i64 x.p.op)).setCell ⟨g, i * 8 + 1, none⟩ (.int .i64 x.p.fld)).setCell ⟨g, i * 8 + 2, none⟩ (.slice l.vo x.p.vals.length l.vc)).setCell ⟨g, i * 8 + 3, none⟩ (.slice l.ko x.p.kids.length l.kc)).setCell ⟨g, i * 8 + 4, none⟩ (.string ⟨x.sc.toArray⟩)).setCell ⟨g, i * 8 + 5, none⟩ (.string ⟨x.ct.toArray⟩)).setCell ⟨g, i * 8 + 6, none⟩ (.slice bo9 (x.kids.length + 1) bc9)).setCell ⟨g, i * 8 + 7, none⟩ (.int .i64 x.df)) := ⟨_, rfl⟩
    have hG : BoxL we g (set8 news (i * 8) (.int .i64 x.p.op) (.int .i64 x.p.fld) (.slice l.vo x.p.vals.length l.vc) (.slice l.ko x.p.kids.length l.kc) (.string ⟨x.sc.toArray⟩) (.string ⟨x.ct.toArray⟩) (.slice bo9 (x.kids.length + 1) bc9) (.int .i64 x.df)) := by rw [hwE]; exact hgY.set8 (.int .i64 x.p.op) (.int .i64 x.p.fld) (.slice l.vo x.p.vals.length l.vc) (.slice l.ko x.p.kids.length l.kc) (.string ⟨x.sc.toArray⟩) (.string ⟨x.ct.toArray⟩) (.slice bo9 (x.kids.length + 1) bc9) (.int .i64 x.df) hroom
    have hKE : Keep (fun k => k = g) wY we := by rw [hwE]; exact (((((((((Keep.refl (fun k => k = g) wY).set g _ _ (.inl rfl)).set g _ _ (.inl rfl)).set g _ _ (.inl rfl)).set g _ _ (.inl rfl)).set g _ _ (.inl rfl)).set g _ _ (.inl rfl)).set g _ _ (.inl rfl)).set g _ _ (.inl rfl))
    have hzE : we.heap.size = wY.heap.size := by rw [hwE]; simp [World.setCell]
    have HWE := Lib.hid hwE
    clear hwE
    go_upto_region 19 with fail
    rw [← HWE.out]
    clear HWE c0 d0 x0 c1 d1 x1 c2 d2 x2 c3 d3 x3 c4 d4 x4 c5 d5 x5 c6 d6 x6 c7 d7 x7 m5 hgY h12
    have hbE : Below w.heap.size w we := hbY.trans (hKE.below (fun k hk => by omega) hbY.size)
    have hLow : Low B w we := Low.of_below hbE hq.2.2.2.2.2
    have HT9 : Hid (TrIs we.heap.size we (setT t i ⟨x.p, x.sc, x.ct, x.kids ++ [((t.nodes.length : Nat) : Int)], x.df⟩) (some ⟨g, 0, none⟩) cap9) := Lib.hid (by
      refine TrIs.of_set (B := B) (w := w) (l := ⟨l.vo, l.vc, l.ko, l.kc, bo9, bc9⟩) (y := ⟨x.p, x.sc, x.ct, x.kids ++ [((t.nodes.length : Nat) : Int)], x.df⟩) HNL.out HALL.out hLow (by omega) hil ?_ (by first | exact hG | (have h9 := hG; rw [← HKL.out] at h9; exact h9)) hG.lt HCAP.out
      refine ⟨(HNI.out.p.low hLow).mono (by omega), ?_, HNI.out.sc, HNI.out.ct⟩
      exact ((HY.out.mid (fun k h1 h2 => hKE.same k h2 (by omega))).toB).mono (by omega))
    have h5E := h5Y.keep hKE (by omega)
    have h11E := h11Y.keep hKE (by omega)
    have HFE : Hid (Flds we ao xs) := Lib.hid (HF0.out.below hbE)
    have hTw : Hid (TrIs B we t (some ⟨nb, noff, none⟩) nc) := Lib.hid (HT0.out.low hLow)
    have hBwe : B ≤ we.heap.size := by omega
    have HSZ9 := Lib.hid (treeB_room HTB2.out HX.out (y := ⟨x.p, x.sc, x.ct, x.kids ++ [((t.nodes.length : Nat) : Int)], x.df⟩) (by have := HKL.out; show (x.kids ++ [((t.nodes.length : Nat) : Int)]).length ≤ _; omega) ⟨rfl, rfl, rfl⟩)
    have HL9 : Hid ((setT t i ⟨x.p, x.sc, x.ct, x.kids ++ [((t.nodes.length : Nat) : Int)], x.df⟩).nodes.length = t.nodes.length ∧ (setT t i ⟨x.p, x.sc, x.ct, x.kids ++ [((t.nodes.length : Nat) : Int)], x.df⟩).ms = t.ms ∧ (setT t i ⟨x.p, x.sc, x.ct, x.kids ++ [((t.nodes.length : Nat) : Int)], x.df⟩).nt = t.nt) := Lib.hid ⟨by show (t.nodes.set i _).length = _; rw [List.length_set], rfl, rfl⟩
    clear hKE hG hbY hzE hroom h5Y h11Y hLow
    have e0 := h11E.cell 0 _ rfl
    have e1 := h11E.cell 1 _ rfl
    have e2 := h11E.cell 2 _ rfl
    go_wp2_with fail
    (with_reducible refine (tvalid_l (setT t i ⟨x.p, x.sc, x.ct, x.kids ++ [((t.nodes.length : Nat) : Int)], x.df⟩) t.nodes.length t.ms t.nt (some ⟨g, 0, none⟩) cap9 we.heap.size ao cap xs false _ HL9 HT9 (Nat.le_refl _) HSZ9 HFE HXM HA).mono ?_)
    rintro e w9 ⟨rfl, hb⟩
    clear e0 e1 e2 HT9 HSZ9 HL9
    replace h5E := h5E.kept hb
    replace HFE : Hid (Flds w9 ao xs) := Lib.hid (HFE.out.below hb)
    have hTw9 : Hid (TrIs B w9 t (some ⟨nb, noff, none⟩) nc) := Lib.hid (hTw.out.low (Low.of_below hb hBwe))
    have hBw9 : B ≤ w9.heap.size := Nat.le_trans hBwe hb.size
    replace hbE := hbE.trans (hb.mono hbE.size)
    clear hb hTw
    have e0 := h5E.cell 0 _ rfl
    have e1 := h5E.cell 1 _ rfl
    have e2 := h5E.cell 2 _ rfl
    go_wp2_with fail
    (with_reducible refine (tvalid_h t (some ⟨nb, noff, none⟩) nc B ao cap xs true _ hTw9 hBw9 HSZ HSM HFE HXM HVB).mono ?_)
    rintro e w10 ⟨rfl, hb⟩
    go_wp2_with fail
    go_ret
    exact ⟨ret_one rfl, hbE.trans (hb.mono hbE.size)⟩
  · skip
    go_simp
    obtain ⟨wb, hwE⟩ : ∃ W, W = wd.alloc (.cells #[.int .i64 ((t.nodes.length : Nat) : Int)] 3) := ⟨_, rfl⟩
    obtain ⟨pb, hpE⟩ : ∃ q, q = wd.heap.size := ⟨_, rfl⟩
    have hb : Below wd.heap.size wd wb := by rw [hwE]; exact (Below.refl _ _).alloc (Nat.le_refl _) _
    have hbN : BoxL wb pb [.int .i64 ((t.nodes.length : Nat) : Int)] := by rw [hwE, hpE]; exact BoxL.new wd _ _
    rw [← hwE, ← hpE]
    clear hwE hpE
    replace h5 := h5.kept hb
    replace h12 := h12.kept hb
    replace hCd := hCd.trans (hb.mono hCd.size)
    clear hb
    have HSb : Hid ((l.io = none ∧ x.kids.length = 0 ∧ l.ic = 0) ∨ ∃ ad, l.io = some ad ∧ ∀ j u, (icel x.kids)[j]? = some u → wb.cell? (ad.add j) = some u) := Lib.hid (HKC.out.low (Low.of_below (hbf.trans (hCd.mono hbf.size)) HQ.out.2.2.2.2.2)).src
    first | refine hK.out _ _ ⟨h5, h12⟩ (fun _ => ?_) | (go_wp2_with fail; refine hK.out _ _ ⟨h5, h12⟩ (fun _ => ?_))
    clear hK K
    (try simp only [List.getElem_toArray, List.getElem_cons_succ, List.getElem_cons_zero, Act.put, List.setIfInBounds_toArray, List.set_cons_zero, List.set_cons_succ])
    refine wpAnyH_ready (rs := [2]) (by kernel_rfl) (by simp) (AllReadyH.cons rfl (fun K hK => ?_) AllReadyH.nil)
    (try rw [if_pos (by rfl)])
    refine step_appendT E_intT (OwnsK.nil 1 wC.heap.size 3 wb) rfl rfl rfl (by rw [icel_len, Nat.mul_one]) HSb.out (icel_one _) (by omega) (by unfold maxLen; omega) hCd.size ?_
    intro vA wA hOA hgA hnA
    rw [List.nil_append, Nat.zero_add] at hOA
    obtain ⟨ao9, ac9, rfl, -, -, -⟩ := hOA.slice
    have hb : Below wb.heap.size wb wA := ⟨hgA.os, hgA.tape, hgA.output, hgA.size, fun k hk => hgA.block k hk (by simp [Value.ownBlock])⟩
    clear hgA hnA
    replace hbN := hbN.kept hb
    replace h5 := h5.kept hb
    replace h12 := h12.kept hb
    replace hCd := hCd.trans (hb.mono hCd.size)
    clear hb
    first | refine hK.out _ _ ⟨h5, h12⟩ (fun _ => ?_) | (go_wp2_with fail; refine hK.out _ _ ⟨h5, h12⟩ (fun _ => ?_))
    clear hK K
    (try simp only [List.getElem_toArray, List.getElem_cons_succ, List.getElem_cons_zero, Act.put, List.setIfInBounds_toArray, List.set_cons_zero, List.set_cons_succ])
    refine wpAnyH_ready (rs := [7]) (by kernel_rfl) (by simp) (AllReadyH.cons rfl (fun K hK => ?_) AllReadyH.nil)
    (try rw [if_pos (by rfl)])
    refine step_appendKs (us := [.int .i64 ((t.nodes.length : Nat) : Int)]) E_intT hOA rfl rfl rfl rfl (fun j u hj => by rw [Addr.add_lit, Nat.zero_add]; exact hbN.cell j u hj) (by simp [Value.oneCell']) (by omega) (by unfold maxLen; omega) hCd.size ?_
    intro vB wB hOB hgB hnB
    obtain ⟨bo9, bc9, rfl, -, -, -⟩ := hOB.slice
    have hB9 : Below wC.heap.size wA wB := ⟨hgB.os, hgB.tape, hgB.output, hgB.size, fun k hk => hgB.block k (by have := hCd.size; omega) (fun e9 => by have := (hOA.lt k e9.symm).1; omega)⟩
    have hq9 := HQ.out
    replace h5 := h5.block (hB9.block px (by omega))
    replace h12 := h12.block (hB9.block p12 (by omega))
    have hCx := hCd.trans hB9
    clear hB9 hgB hbN hq9
    first | refine hK.out _ _ ⟨h5, h12⟩ (fun _ => ?_) | (go_wp2_with fail; refine hK.out _ _ ⟨h5, h12⟩ (fun _ => ?_))
    clear hK K
    (try simp only [List.getElem_toArray, List.getElem_cons_succ, List.getElem_cons_zero, Act.put, List.setIfInBounds_toArray, List.set_cons_zero, List.set_cons_succ])
    (refine wpAnyH_take (i := 8) (v := ?_) rfl (by kernel_rfl) (by kernel_rfl) (by kernel_rfl) (fun _ _ _ h => h) (Or.inl ⟨by rfl, ?_⟩) ⟨h5, h12⟩ ?_; rotate_left; (· intro w hSw; (try dsimp only at hSw); obtain ⟨hL5, hL12⟩ := hSw; clear hL5 hL12; go_simp; all_goals with_reducible rfl); (try simp only [List.getElem_toArray, List.getElem_cons_succ, List.getElem_cons_zero, Act.put, List.setIfInBounds_toArray, List.set_cons_zero, List.set_cons_succ]))
    refine wpAnyH_done (by kernel_rfl) ?_ _
    refine tail_end rfl rfl ?_
    have hb12B := h12
    clear h12 h5
    have x6 := hb12B.cell 6 _ rfl
    have f6 := hb12B.free 6 (by simp)
    go_simp
    have hbA : True := trivial
    have hbB : True := trivial
    have hgB : True := trivial
    obtain ⟨wY, hwY⟩ : ∃ W, W = wB.setCell ⟨p12, 6, none⟩ (.slice bo9 (x.kids.length + 1) bc9) := ⟨_, rfl⟩
    have hKS : Keep (fun k => k = p12) wB wY := by rw [hwY]; exact (Keep.refl (fun k => k = p12) wB).set p12 6 _ (.inl rfl)
    have h12 : BoxL wY p12 [.int .i64 x.p.op, .int .i64 x.p.fld, .slice l.vo x.p.vals.length l.vc, .slice l.ko x.p.kids.length l.kc, .string ⟨x.sc.toArray⟩, .string ⟨x.ct.toArray⟩, .slice bo9 (x.kids.length + 1) bc9, .int .i64 x.df] := by rw [hwY]; exact hb12B.set 6 _ (by simp)
    rw [← hwY]
    have hKY : Keep (fun k => k = p12) wC wY := ⟨hKS.os.trans hCx.os, hKS.tape.trans hCx.tape, hKS.output.trans hCx.output, Nat.le_trans hCx.size hKS.size, fun k hk hs => (hKS.same k (Nat.lt_of_lt_of_le hk hCx.size) hs).trans (hCx.block k hk)⟩
    have hOY := hOB.keep hKS (fun q hq e => by have := (hOB.lt q hq).1; have := HQ.out; omega)
    have hic : icel x.kids ++ [Value.int .i64 ((t.nodes.length : Nat) : Int)] = icel (x.kids ++ [((t.nodes.length : Nat) : Int)]) := by rw [icel_app]; rfl
    rw [hic] at hOY
    have HKL : Hid ((x.kids ++ [((t.nodes.length : Nat) : Int)]).length = x.kids.length + 1) := Lib.hid (by simp)
    have HY : Hid (IntsQ wC.heap.size wY.heap.size wY bo9 bc9 (x.kids ++ [((t.nodes.length : Nat) : Int)])) := Lib.hid (IntsQ.of_owns hOY HKL.out)
    clear hwY hKS hOY hOB hOA hCx hb12B hic hbA hbB hgB hnB x6 f6
    have hq := HQ.out
    have hbY : Below w.heap.size w wY := hbf.trans (hKY.below (fun k hk => by omega) hbf.size)
    have h5Y := hb5.keep hKY (by omega)
    have h11Y := hb11.keep hKY (by omega)
    have hgY := hbg.keep hKY (by omega)
    have hroom : i * 8 + 8 ≤ news.length := by rw [HNL.out]; omega
    have hzY : wC.heap.size ≤ wY.heap.size := hKY.size
    clear hb5 hb11 hbg hb12 hbf hKY
    obtain ⟨z0, hz0⟩ : ∃ u, news[i * 8]? = some u := ⟨_, List.getElem?_eq_getElem (by omega)⟩
    have c0 := hgY.cell _ _ hz0
    have d0 := hgY.free (i * 8) (by omega)
    obtain ⟨z1, hz1⟩ : ∃ u, news[i * 8 + 1]? = some u := ⟨_, List.getElem?_eq_getElem (by omega)⟩
    have c1 := hgY.cell _ _ hz1
    have d1 := hgY.free (i * 8 + 1) (by omega)
    obtain ⟨z2, hz2⟩ : ∃ u, news[i * 8 + 2]? = some u := ⟨_, List.getElem?_eq_getElem (by omega)⟩
    have c2 := hgY.cell _ _ hz2
    have d2 := hgY.free (i * 8 + 2) (by omega)
    obtain ⟨z3, hz3⟩ : ∃ u, news[i * 8 + 3]? = some u := ⟨_, List.getElem?_eq_getElem (by omega)⟩
    have c3 := hgY.cell _ _ hz3
    have d3 := hgY.free (i * 8 + 3) (by omega)
    obtain ⟨z4, hz4⟩ : ∃ u, news[i * 8 + 4]? = some u := ⟨_, List.getElem?_eq_getElem (by omega)⟩
    have c4 := hgY.cell _ _ hz4
    have d4 := hgY.free (i * 8 + 4) (by omega)
    obtain ⟨z5, hz5⟩ : ∃ u, news[i * 8 + 5]? = some u := ⟨_, List.getElem?_eq_getElem (by omega)⟩
    have c5 := hgY.cell _ _ hz5
    have d5 := hgY.free (i * 8 + 5) (by omega)
    obtain ⟨z6, hz6⟩ : ∃ u, news[i * 8 + 6]? = some u := ⟨_, List.getElem?_eq_getElem (by omega)⟩
    have c6 := hgY.cell _ _ hz6
    have d6 := hgY.free (i * 8 + 6) (by omega)
    obtain ⟨z7, hz7⟩ : ∃ u, news[i * 8 + 7]? = some u := ⟨_, List.getElem?_eq_getElem (by omega)⟩
    have c7 := hgY.cell _ _ hz7
    have d7 := hgY.free (i * 8 + 7) (by omega)
    clear hz0 hz1 hz2 hz3 hz4 hz5 hz6 hz7
    have m5 := h11Y.cell 0 _ rfl
    have x0 := h12.cell 0 _ rfl
    have x1 := h12.cell 1 _ rfl
    have x2 := h12.cell 2 _ rfl
    have x3 := h12.cell 3 _ rfl
    have x4 := h12.cell 4 _ rfl
    have x5 := h12.cell 5 _ rfl
    have x6 := h12.cell 6 _ rfl
    have x7 := h12.cell 7 _ rfl
    obtain ⟨we, hwE⟩ : ∃ W, W = ((((((((wY.setCell ⟨g, i * 8, none⟩ (.int .i64 x.p.op)).setCell ⟨g, i * 8 + 1, none⟩ (.int .i64 x.p.fld)).setCell ⟨g, i * 8 + 2, none⟩ (.slice l.vo x.p.vals.length l.vc)).setCell ⟨g, i * 8 + 3, none⟩ (.slice l.ko x.p.kids.length l.kc)).setCell ⟨g, i * 8 + 4, none⟩ (.string ⟨x.sc.toArray⟩)).setCell ⟨g, i * 8 + 5, none⟩ (.string ⟨x.ct.toArray⟩)).setCell ⟨g, i * 8 + 6, none⟩ (.slice bo9 (x.kids.length + 1) bc9)).setCell ⟨g, i * 8 + 7, none⟩ (.int .i64 x.df)) := ⟨_, rfl⟩
    have hG : BoxL we g (set8 news (i * 8) (.int .i64 x.p.op) (.int .i64 x.p.fld) (.slice l.vo x.p.vals.length l.vc) (.slice l.ko x.p.kids.length l.kc) (.string ⟨x.sc.toArray⟩) (.string ⟨x.ct.toArray⟩) (.slice bo9 (x.kids.length + 1) bc9) (.int .i64 x.df)) := by rw [hwE]; exact hgY.set8 (.int .i64 x.p.op) (.int .i64 x.p.fld) (.slice l.vo x.p.vals.length l.vc) (.slice l.ko x.p.kids.length l.kc) (.string ⟨x.sc.toArray⟩) (.string ⟨x.ct.toArray⟩) (.slice bo9 (x.kids.length + 1) bc9) (.int .i64 x.df) hroom
    have hKE : Keep (fun k => k = g) wY we := by rw [hwE]; exact (((((((((Keep.refl (fun k => k = g) wY).set g _ _ (.inl rfl)).set g _ _ (.inl rfl)).set g _ _ (.inl rfl)).set g _ _ (.inl rfl)).set g _ _ (.inl rfl)).set g _ _ (.inl rfl)).set g _ _ (.inl rfl)).set g _ _ (.inl rfl))
    have hzE : we.heap.size = wY.heap.size := by rw [hwE]; simp [World.setCell]
    have HWE := Lib.hid hwE
    clear hwE
    go_upto_region 19 with fail
    rw [← HWE.out]
    clear HWE c0 d0 x0 c1 d1 x1 c2 d2 x2 c3 d3 x3 c4 d4 x4 c5 d5 x5 c6 d6 x6 c7 d7 x7 m5 hgY h12
    have hbE : Below w.heap.size w we := hbY.trans (hKE.below (fun k hk => by omega) hbY.size)
    have hLow : Low B w we := Low.of_below hbE hq.2.2.2.2.2
    have HT9 : Hid (TrIs we.heap.size we (setT t i ⟨x.p, x.sc, x.ct, x.kids ++ [((t.nodes.length : Nat) : Int)], x.df⟩) (some ⟨g, 0, none⟩) cap9) := Lib.hid (by
      refine TrIs.of_set (B := B) (w := w) (l := ⟨l.vo, l.vc, l.ko, l.kc, bo9, bc9⟩) (y := ⟨x.p, x.sc, x.ct, x.kids ++ [((t.nodes.length : Nat) : Int)], x.df⟩) HNL.out HALL.out hLow (by omega) hil ?_ (by first | exact hG | (have h9 := hG; rw [← HKL.out] at h9; exact h9)) hG.lt HCAP.out
      refine ⟨(HNI.out.p.low hLow).mono (by omega), ?_, HNI.out.sc, HNI.out.ct⟩
      exact ((HY.out.mid (fun k h1 h2 => hKE.same k h2 (by omega))).toB).mono (by omega))
    have h5E := h5Y.keep hKE (by omega)
    have h11E := h11Y.keep hKE (by omega)
    have HFE : Hid (Flds we ao xs) := Lib.hid (HF0.out.below hbE)
    have hTw : Hid (TrIs B we t (some ⟨nb, noff, none⟩) nc) := Lib.hid (HT0.out.low hLow)
    have hBwe : B ≤ we.heap.size := by omega
    have HSZ9 := Lib.hid (treeB_room HTB2.out HX.out (y := ⟨x.p, x.sc, x.ct, x.kids ++ [((t.nodes.length : Nat) : Int)], x.df⟩) (by have := HKL.out; show (x.kids ++ [((t.nodes.length : Nat) : Int)]).length ≤ _; omega) ⟨rfl, rfl, rfl⟩)
    have HL9 : Hid ((setT t i ⟨x.p, x.sc, x.ct, x.kids ++ [((t.nodes.length : Nat) : Int)], x.df⟩).nodes.length = t.nodes.length ∧ (setT t i ⟨x.p, x.sc, x.ct, x.kids ++ [((t.nodes.length : Nat) : Int)], x.df⟩).ms = t.ms ∧ (setT t i ⟨x.p, x.sc, x.ct, x.kids ++ [((t.nodes.length : Nat) : Int)], x.df⟩).nt = t.nt) := Lib.hid ⟨by show (t.nodes.set i _).length = _; rw [List.length_set], rfl, rfl⟩
    clear hKE hG hbY hzE hroom h5Y h11Y hLow
    have e0 := h11E.cell 0 _ rfl
    have e1 := h11E.cell 1 _ rfl
    have e2 := h11E.cell 2 _ rfl
    go_wp2_with fail
    (with_reducible refine (tvalid_l (setT t i ⟨x.p, x.sc, x.ct, x.kids ++ [((t.nodes.length : Nat) : Int)], x.df⟩) t.nodes.length t.ms t.nt (some ⟨g, 0, none⟩) cap9 we.heap.size ao cap xs false _ HL9 HT9 (Nat.le_refl _) HSZ9 HFE HXM HA).mono ?_)
    rintro e w9 ⟨rfl, hb⟩
    clear e0 e1 e2 HT9 HSZ9 HL9
    replace h5E := h5E.kept hb
    replace HFE : Hid (Flds w9 ao xs) := Lib.hid (HFE.out.below hb)
    have hTw9 : Hid (TrIs B w9 t (some ⟨nb, noff, none⟩) nc) := Lib.hid (hTw.out.low (Low.of_below hb hBwe))
    have hBw9 : B ≤ w9.heap.size := Nat.le_trans hBwe hb.size
    replace hbE := hbE.trans (hb.mono hbE.size)
    clear hb hTw
    have e0 := h5E.cell 0 _ rfl
    have e1 := h5E.cell 1 _ rfl
    have e2 := h5E.cell 2 _ rfl
    go_wp2_with fail
    (with_reducible refine (tvalid_h t (some ⟨nb, noff, none⟩) nc B ao cap xs true _ hTw9 hBw9 HSZ HSM HFE HXM HVB).mono ?_)
    rintro e w10 ⟨rfl, hb⟩
    go_wp2_with fail
    go_ret
    exact ⟨ret_one rfl, hbE.trans (hb.mono hbE.size)⟩
theorem treeAstray_walk (v u : Value) (n k how : Int) (w : World) (h : TreeIn w v) (hs : FldsIn w u) (_ : (Lit.int .i64 n).wf = true) (_ : (Lit.int .i64 k).wf = true) (_ : (Lit.int .i64 how).wf = true) :
    Calls Tryd.prog 5 #[v, u, .int .i64 n, .int .i64 k, .int .i64 how] w fun e w' => e = .returned (.bool true) ∧ Below w.heap.size w w' := by
  obtain ⟨t, no, nc, rfl, hT⟩ := h
  obtain ⟨ao, cap, xs, rfl, hF, h1, h2, h3⟩ := hs
  unfold maxLen at h2
  exact treeAstray_main t no nc ao cap xs n k how w hT hF (by omega) h3
end Go.Proofs.YtlmjkbdodecbmaaDoor
