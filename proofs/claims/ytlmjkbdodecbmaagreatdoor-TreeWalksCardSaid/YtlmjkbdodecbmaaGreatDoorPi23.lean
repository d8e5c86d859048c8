/-
  Pi23: TreE TreF SeqI SeqJ (what is needed of them).
-/
import Derived.Test.YtlmjkbdodecbmaaGreatDoorPi06
import Derived.Test.YtlmjkbdodecbmaaGreatDoorPi11
import Derived.Test.YtlmjkbdodecbmaaGreatDoorPi22
import Derived.RangeFuncNested
import Derived.RangeFuncBound
import Derived.RangeFuncCalls
import Derived.OwnWalkIn
import Derived.OrdersIn

namespace Go.Proofs.YtlmjkbdodecbmaaGreatDoor
open Go.RowKit Go.Shelf
set_option linter.unusedVariables false
set_option linter.unusedSimpArgs false
attribute [local go_sem] Oper.semAt_some field_nat
theorem treeWalk_any (no : Option Addr) (n nc : Nat) (ms nt : Int) (w : World) : Calls Tryz.prog 10 #[.agg #[.slice no n nc, .int .i64 ms, .int .i64 nt]] w fun e w' => e = .returned (.func (.func twalkF) #[] #[.pointer (some ⟨w.heap.size, 0, none⟩)]) ∧ w' = w.alloc (.cells #[.slice no n nc, .int .i64 ms, .int .i64 nt] 24) := by
  go_enter Tryz.func10, Tryz.ntmps10
  go_wp2_with fail
  go_ret
  exact ⟨rfl, rfl⟩
def deepL (l : List (Nat × Nat)) : Nat := l.foldl (fun m x => max m x.2) 0
theorem deepL_snoc (l : List (Nat × Nat)) (x : Nat × Nat) : deepL (l ++ [x]) = max (deepL l) x.2 := by unfold deepL; rw [List.foldl_append]; rfl
/-- The body's own: the depth so far. -/
def DpI (p3 : Nat) (w : World) (pre : List (Nat × Nat)) (S : Nat → Prop) (W : World) : Prop := (S = fun k => k = p3) ∧ BoxL W p3 [.int .i64 (deepL pre : Int)] ∧ Below w.heap.size w W
theorem DpI.mk {p3 : Nat} {w : World} {pre : List (Nat × Nat)} {S : Nat → Prop} {W : World} (h0 : S = fun k => k = p3) (h1 : BoxL W p3 [.int .i64 (deepL pre : Int)]) (h3 : Below w.heap.size w W) : DpI p3 w pre S W := ⟨h0, h1, h3⟩
theorem DpI.oth {p3 : Nat} {w : World} {pre : List (Nat × Nat)} {S : Nat → Prop} {W W' : World} {D : Nat} (h : DpI p3 w pre S W) (ho : Oth D S W W') (hw : w.heap.size ≤ D) : DpI p3 w pre S W' := by
  obtain ⟨rfl, i1, i3⟩ := h
  exact DpI.mk rfl (i1.block (ho.same _ i1.lt (.inr rfl))) (i3.trans ⟨ho.os, ho.tape, ho.output, ho.size, fun k hk => ho.same k (Nat.lt_of_lt_of_le hk i3.size) (.inl (by omega))⟩)
theorem dfs_dep {t : TR} {N : Nat} (ho : OnceF (kidsT t) N) : ∀ (f : Nat) (vis st : List (Nat × Nat)) (L : List (Nat × Nat)), StT t L N vis st f → ∀ x ∈ L, x.2 ≤ N + 1 := by
  intro f
  induction f with
  | zero => intro vis st L h; have := h.inv.len; have := h.fuel; omega
  | succ f ih =>
    intro vis st L h
    cases st with
    | nil =>
      intro x hx
      rw [← h.done] at hx
      have := h.dep x (by simp [hx])
      have := h.inv.len
      simp at this
      omega
    | cons y st =>
      obtain ⟨_, f', e, h2⟩ := h.step ho
      obtain rfl : f = f' := by omega
      exact ih _ _ _ h2
theorem walkT_dep (t : TR) (hN : t.nodes.length ≤ 1500) : ∀ x ∈ walkT t, x.2 ≤ 2000 := by
  intro x hx
  by_cases hs : shapeB t = true
  · obtain ⟨up, _, ho, h0, _, _, _⟩ := shapeB_true hs
    have hw : walkT t = dfsAll (kidsT t) t.N := by unfold walkT; rw [if_pos hs]
    rw [hw] at hx
    have := dfs_dep ho.f _ _ _ _ (StT.start h0) x hx
    unfold TR.N at this
    omega
  · unfold walkT at hx; rw [if_neg hs] at hx; cases hx
set_option maxRecDepth 100000 in
set_option maxHeartbeats 4000000 in
/-- Depth. -/
theorem tdepth_any (t : TR) (z : Nat) (no : Option Addr) (nc : Nat) (B : Nat) (w : World) (hT : TrIs B w t no nc) (hBw : B ≤ w.heap.size) (hsz : t.nodes.length + (t.nodes.map fun x => x.kids.length).sum ≤ 1500) (HZ : Hid (z = deepT t)) :
    Calls Tryz.prog 21 #[.agg #[.slice no t.nodes.length nc, .int .i64 t.ms, .int .i64 t.nt]] w fun e w' => e = .returned (.int .i64 (z : Int)) ∧ Below w.heap.size w w' := by
  refine (callsIn_wide (n := 0)).1 ?_
  refine callsIn_of_wp_marks Tryz.func21 rfl (by trivial) ?_ rfl
  simp only [Tryz.ntmps21, List.size_toArray, List.length_cons, List.length_nil, Nat.reduceAdd, Nat.reduceSub, Array.replicate_succ, Array.replicate_zero, List.push_toArray, List.append_toArray, List.nil_append, List.cons_append]
  obtain ⟨wR, hwR⟩ : ∃ W, W = ((w.alloc (.cells #[.slice no t.nodes.length nc, .int .i64 t.ms, .int .i64 t.nt] 24)).alloc (.cells #[.int .i64 0] 3)) := ⟨_, rfl⟩
  have hbR : Below w.heap.size w wR := by rw [hwR]; exact ((Below.refl _ w).alloc (Nat.le_refl _) _).alloc (by simp <;> omega) _
  have hszR : wR.heap.size = w.heap.size + 2 := by rw [hwR]; simp
  obtain ⟨p1, hp1⟩ : ∃ q, q = w.heap.size := ⟨_, rfl⟩
  obtain ⟨p3, hp3⟩ : ∃ q, q = w.heap.size + 1 := ⟨_, rfl⟩
  have hb1 : BoxL wR p1 [.slice no t.nodes.length nc, .int .i64 t.ms, .int .i64 t.nt] := by rw [hwR, hp1]; exact (BoxL.new w _ _).kept ((Below.refl _ _).alloc (Nat.le_refl _) _)
  have hb3 : BoxL wR p3 [.int .i64 ((deepL [] : Nat) : Int)] := by rw [hwR, hp3]; exact BoxL.of1 (by go_simp; rfl) (by go_simp)
  obtain ⟨wS, hwS⟩ : ∃ W, W = wR.alloc (.cells #[.slice no t.nodes.length nc, .int .i64 t.ms, .int .i64 t.nt] 24) := ⟨_, rfl⟩
  obtain ⟨px, hpx⟩ : ∃ q, q = wR.heap.size := ⟨_, rfl⟩
  have hbS : Below wR.heap.size wR wS := by rw [hwS]; exact (Below.refl _ _).alloc (Nat.le_refl _) _
  have hszS : wS.heap.size = wR.heap.size + 1 := by rw [hwS]; simp
  have hbx : BoxL wS px [.slice no t.nodes.length nc, .int .i64 t.ms, .int .i64 t.nt] := by rw [hwS, hpx]; exact BoxL.new wR _ _
  have hit := twalk1_iter B t no nc px wS (hT.low (Low.of_below (hbR.trans (hbS.mono hbR.size)) hBw)) (by omega) (by omega) hsz hbx
  have hb3S := hb3.kept hbS
  have hbwS := hbR.trans (hbS.mono hbR.size)
  obtain ⟨L, hL⟩ : ∃ L, L = walkT t := ⟨_, rfl⟩
  replace HZ : Hid (z = deepL L) := Lib.hid (by rw [HZ.out, hL]; rfl)
  have HDL : Hid (∀ x ∈ L, x.2 ≤ 2000) := Lib.hid (by rw [hL]; exact walkT_dep t (by omega))
  rw [← hL] at hit
  have HW := Lib.hid hwR
  have HWS := Lib.hid hwS
  have HX := Lib.hid hpx
  have H1 := Lib.hid hp1
  have H3 := Lib.hid hp3
  have HQ : p1 < p3 ∧ p3 < px ∧ px < wS.heap.size ∧ w.heap.size ≤ p1 ∧ B ≤ p1 := by omega
  have hBS : B ≤ wS.heap.size := by omega
  clear hwR hwS hpx hp1 hp3 hszR hszS hL hb3 hbS hbR hbx hT hsz
  have e1 := hb1.cell 0 _ rfl
  have e2 := hb1.cell 1 _ rfl
  have e3 := hb1.cell 2 _ rfl
  clear hb1
  gi_upto_region 2 with fail
  rw [← HW.out, ← H3.out, ← H1.out]
  gi_wp2_with fail
  refine ⟨trivial, rfl, callsIn_wide.2 ((treeWalk_any no t.nodes.length nc t.ms t.nt _).mono ?_)⟩
  rintro e w5 ⟨rfl, rfl⟩
  clear e1 e2 e3
  gi_wp2_with fail
  rw [← HWS.out, ← HX.out]
  clear HW HWS HX H1 H3
  obtain ⟨q1, q3, q4, q5, q6⟩ := HQ
  have hT1 : True := trivial
  refine wp_rangeW (gf := twalkF) (lb := #[.pointer (some ⟨px, 0, none⟩)]) rfl enters_twalk1 hit (fun W v x h => by cases h; rfl) (fun k hr => res_lt hBS q4 hr)
    (fun pre S W => DpI p3 w pre S W ∧ Hid (deepL pre ≤ 2000) ∧ wS.heap.size ≤ W.heap.size)
    (fun c pre S W => False)
    ?_ ?_ (fun k => k = p3) ?_ ?_
    (fun x9 a' W => a' = { tmps := #[.agg #[.slice no t.nodes.length nc, .int .i64 t.ms, .int .i64 t.nt], .pointer (some ⟨p1, 0, none⟩), .int .i64 0, .pointer (some ⟨p3, 0, none⟩), undef, .int .i64 (x9.2 : Int), .agg #[.slice no t.nodes.length nc, .int .i64 t.ms, .int .i64 t.nt], .func (.func twalkF) #[] #[.pointer (some ⟨px, 0, none⟩)], .int .i64 (x9.1 : Int), .int .i64 (x9.2 : Int), undef, undef, undef, undef], defers := [] })
    ?_ ?assign ?body ?done ?stop
  case assign =>
    rintro l8 pre x9 v S W K hi hnv hpre hK
    cases hnv
    gi_wp2
    exact hK _ _ (Below.refl _ _) hi rfl
  case body =>
    rintro l8 pre x9 a' S W ⟨hI, hN, hsW⟩ rfl hpre hS
    obtain ⟨rfl, i3, hWb⟩ := hI
    have hxd := HDL.out x9 (hpre.subset (by simp))
    have hnd := hN.out
    have HM : Hid (deepL (pre ++ [x9]) = max (deepL pre) x9.2) := Lib.hid (deepL_snoc _ _)
    have e3 := i3.cell 0 _ rfl
    have f3 := i3.free 0 (by simp)
    obtain ⟨m, hm⟩ : ∃ m, m = deepL pre := ⟨_, rfl⟩
    rw [← hm] at e3 i3 hnd
    have HMM := Lib.hid hm
    clear hpre hS hN hm
    gi_wp2_with fail
    have hmx : max ((m : Nat) : Int) ((x9.2 : Nat) : Int) = ((deepL (pre ++ [x9]) : Nat) : Int) := by rw [HM.out, ← HMM.out]; omega
    rw [hmx]
    have hle : deepL (pre ++ [x9]) ≤ 2000 := by rw [HM.out, ← HMM.out]; omega
    obtain ⟨wT, hwE⟩ : ∃ W', W' = W.setCell ⟨p3, 0, none⟩ (.int .i64 ((deepL (pre ++ [x9]) : Nat) : Int)) := ⟨_, rfl⟩
    have hKT : Keep (fun k => k = p3) W wT := by rw [hwE]; exact (Keep.refl _ _).set p3 0 _ (.inl rfl)
    have j3 : BoxL wT p3 [.int .i64 ((deepL (pre ++ [x9]) : Nat) : Int)] := by rw [hwE]; exact i3.set 0 _ (by simp)
    rw [← hwE]
    exact ⟨_, ⟨DpI.mk rfl j3 (hWb.trans (hKT.below (fun k hk => by omega) hWb.size)), Lib.hid hle, Nat.le_trans hsW hKT.size⟩, Foot.of_keep hKT, fun k hk => by have := j3.lt; rw [show k = p3 from hk]; exact this⟩
  case done =>
    rintro D S W hD ⟨hI, hN, hsW⟩ hK
    obtain ⟨rfl, i3, hWb⟩ := hI
    rw [← HZ.out] at i3
    have e3 := i3.cell 0 _ rfl
    have HK := Lib.hid hK
    clear hK i3 hN
    gi_wp2_with fail
    have hx9 : Ext D W (W.putObj D (.deferred none)) := Ext.put (Nat.le_refl _) HK.out rfl
    refine ⟨by simp, .inl ⟨_, _, rfl, run_takeDeferred HK.out, ?_⟩⟩
    refine ⟨_, results_tmp rfl _ _ _, ?_⟩
    exact ⟨ret_one rfl, below_extT hWb hx9 (by omega) hWb.size⟩
  case stop =>
    rintro D c pre S W hD hp hI hK
    exact hI.elim
  · rintro pre S W W' ⟨hI, hN, hsW⟩ ho
    exact ⟨hI.oth ho (by omega), hN, Nat.le_trans hsW ho.size⟩
  · rintro c pre S W W' hI ho
    exact hI
  · rintro k hk
    have hk9 : k = p3 := hk
    subst hk9
    exact ⟨fun hr => by rcases hr with hr | hr <;> omega, by omega⟩
  · exact ⟨DpI.mk rfl hb3S hbwS, Lib.hid (by decide), Nat.le_refl _⟩
  · rintro x9 a' W W' rfl hx
    rfl
/-- Whose kid a node is. -/
def upV (t : TR) (n : Int) : Int := if shapeB t = true ∧ 0 ≤ n ∧ n < (t.N : Int) then ((upT t).getD [])[n.toNat]?.getD 0 else -1
set_option maxRecDepth 100000 in
set_option maxHeartbeats 2000000 in
/-- Up. -/
theorem tup_any (t : TR) (n z : Int) (no : Option Addr) (nc : Nat) (B : Nat) (w : World) (hT : TrIs B w t no nc) (hBw : B ≤ w.heap.size) (hsz : t.nodes.length + (t.nodes.map fun x => x.kids.length).sum ≤ 1500) (HZ : Hid (z = upV t n)) :
    Calls Tryz.prog 37 #[.agg #[.slice no t.nodes.length nc, .int .i64 t.ms, .int .i64 t.nt], .int .i64 n] w fun e w' => e = .returned (.int .i64 z) ∧ Below w.heap.size w w' := by
  obtain ⟨sb, hsb⟩ : ∃ b, b = shapeB t := ⟨_, rfl⟩
  have HSB := Lib.hid hsb
  clear hsb
  obtain ⟨w0, hw0, hbf, hz0, px, hpx, hbx⟩ := boxT w no t.nodes.length nc t.ms t.nt
  replace hT := hT.low (Low.of_below hbf hBw)
  have HT : Hid (TrIs B w0 t no nc) := Lib.hid hT
  have hBw0 : B ≤ w0.heap.size := Nat.le_trans hBw hbf.size
  have HW := Lib.hid hw0
  have HSZ := Lib.hid hsz
  clear hw0 hz0 hT
  go_enter Tryz.func37, Tryz.ntmps37
  go_upto_region 1 with fail
  rw [← HW.out, ← hpx]
  clear hpx HW
  have e0 := hbx.cell 0 _ rfl
  have e1 := hbx.cell 1 _ rfl
  have e2 := hbx.cell 2 _ rfl
  go_wp2_with fail
  (with_reducible refine (tshape_h t sb no nc B _ HT hBw0 HSZ HSB).mono ?_)
  rintro e w3 ⟨v, rfl, hb, hy⟩
  replace hbf := hbf.trans (hb.mono hbf.size)
  replace hbx := hbx.kept hb
  have HY := Lib.hid hy
  clear e0 e1 e2 hy
  clear hbx
  cases sb
  · have HZ2 : Hid (z = -1) := Lib.hid (by rw [HZ.out]; unfold upV; rw [if_neg (by rw [← HSB.out]; simp)])
    clear HY hb
    go_wp2_with fail
    go_ret
    exact ⟨ret_one (congrArg (Value.int .i64) HZ2.out.symm), hbf⟩
  · obtain ⟨ao, cap, up, rfl, hup, hI⟩ := HY.out rfl
    have hol := (upT_once hup).len
    have HUL : Hid (up.length = t.N) := Lib.hid hol
    have HUP := Lib.hid hup
    have hul : up.length ≤ 9223372036854775807 := hI.le
    have HI := Lib.hid hI
    clear HY hb hup hI hol
    by_cases hn0 : n < 0
    · have HZ2 : Hid (z = -1) := Lib.hid (by rw [HZ.out]; unfold upV; rw [if_neg (by omega)])
      go_wp2_with fail
      go_ret
      exact ⟨ret_one (congrArg (Value.int .i64) HZ2.out.symm), hbf⟩
    · by_cases hn1 : ((up.length : Nat) : Int) ≤ n
      · have HZ2 : Hid (z = -1) := Lib.hid (by rw [HZ.out]; unfold upV; rw [if_neg (by have := HUL.out; omega)])
        go_wp2_with fail
        go_ret
        exact ⟨ret_one (congrArg (Value.int .i64) HZ2.out.symm), hbf⟩
      · obtain ⟨k, rfl⟩ : ∃ k : Nat, n = (k : Int) := ⟨n.toNat, by omega⟩
        obtain ⟨u, hu⟩ : ∃ u, up[k]? = some u := ⟨_, List.getElem?_eq_getElem (by omega)⟩
        have HZ2 : Hid (z = u) := Lib.hid (by
          rw [HZ.out]; unfold upV
          rw [if_pos ⟨HSB.out.symm, by omega, by have := HUL.out; omega⟩, HUP.out]
          simp [hu])
        obtain ⟨g, off, rfl, hg, hc⟩ := HI.out.at_ k u hu
        have hq : ((k : Nat) : Int) < ((up.length : Nat) : Int) := by omega
        clear hu
        go_wp2_with fail
        go_ret
        exact ⟨ret_one (congrArg (Value.int .i64) HZ2.out.symm), hbf⟩
def leafB (t : TR) (n : Int) : Bool := shapeB t && (decide (0 ≤ n) && (decide (n < (t.N : Int)) && decide (kidsT t n.toNat = [])))
set_option maxRecDepth 100000 in
set_option maxHeartbeats 2000000 in
/-- Leaf. -/
theorem tleaf_any (t : TR) (n : Int) (b : Bool) (no : Option Addr) (nc : Nat) (B : Nat) (w : World) (hT : TrIs B w t no nc) (hBw : B ≤ w.heap.size) (hsz : t.nodes.length + (t.nodes.map fun x => x.kids.length).sum ≤ 1500) (HB : Hid (b = leafB t n)) :
    Calls Tryz.prog 36 #[.agg #[.slice no t.nodes.length nc, .int .i64 t.ms, .int .i64 t.nt], .int .i64 n] w fun e w' => e = .returned (.bool b) ∧ Below w.heap.size w w' := by
  obtain ⟨sb, hsb⟩ : ∃ b, b = shapeB t := ⟨_, rfl⟩
  have HSB := Lib.hid hsb
  clear hsb
  obtain ⟨w0, hw0, hbf, hz0, px, hpx, hbx⟩ := boxT w no t.nodes.length nc t.ms t.nt
  replace hT := hT.low (Low.of_below hbf hBw)
  have HT : Hid (TrIs B w0 t no nc) := Lib.hid hT
  have hBw0 : B ≤ w0.heap.size := Nat.le_trans hBw hbf.size
  have HW := Lib.hid hw0
  have HSZ := Lib.hid hsz
  clear hw0 hz0 hT
  go_enter Tryz.func36, Tryz.ntmps36
  go_upto_region 1 with fail
  rw [← HW.out, ← hpx]
  clear hpx HW
  have e0 := hbx.cell 0 _ rfl
  have e1 := hbx.cell 1 _ rfl
  have e2 := hbx.cell 2 _ rfl
  go_wp2_with fail
  (with_reducible refine (tshape_h t sb no nc B _ HT hBw0 HSZ HSB).mono ?_)
  rintro e w3 ⟨v, rfl, hb, hy⟩
  replace hbf := hbf.trans (hb.mono hbf.size)
  replace hbx := hbx.kept hb
  have HY := Lib.hid hy
  clear e0 e1 e2 hy
  replace HT : Hid (TrIs B w3 t no nc) := Lib.hid (HT.out.low (Low.of_below hb hBw0))
  clear HY hb
  have e0 := hbx.cell 0 _ rfl
  clear hbx
  cases sb
  · have HB2 : Hid (b = false) := Lib.hid (by rw [HB.out]; unfold leafB; rw [← HSB.out]; rfl)
    go_wp2_with fail
    go_ret
    exact ⟨ret_one (congrArg Value.bool HB2.out.symm), hbf⟩
  · by_cases hn0 : 0 ≤ n
    · by_cases hn1 : n < ((t.nodes.length : Nat) : Int)
      · obtain ⟨k, rfl⟩ : ∃ k : Nat, n = (k : Int) := ⟨n.toNat, by omega⟩
        obtain ⟨x, hx⟩ : ∃ x, t.nodes[k]? = some x := ⟨_, List.getElem?_eq_getElem (by omega)⟩
        have hkb : (((x.kids.length : Nat) : Int) == 0) = decide (kidsT t k = []) := by
          have hkd : kidsT t k = x.kids.map Int.toNat := by unfold kidsT; rw [hx]
          rw [hkd, Bool.eq_iff_iff]
          simp
        have HB2 : Hid (b = (((x.kids.length : Nat) : Int) == 0)) := Lib.hid (by
          rw [hkb, HB.out]; unfold leafB
          rw [← HSB.out, decide_eq_true hn0, decide_eq_true (show ((k : Nat) : Int) < (t.N : Int) from hn1)]; rfl)
        obtain ⟨g, off, l, rfl, hg, hNI, hnd⟩ := HT.out.at_ k x hx
        have c6 := hnd.c6
        clear hx hkb hnd hNI
        go_wp2_with fail
        go_ret
        exact ⟨ret_one (congrArg Value.bool HB2.out.symm), hbf⟩
      · have HB2 : Hid (b = false) := Lib.hid (by rw [HB.out]; unfold leafB TR.N; rw [decide_eq_false hn1]; simp)
        go_wp2_with fail
        go_ret
        exact ⟨ret_one (congrArg Value.bool HB2.out.symm), hbf⟩
    · have HB2 : Hid (b = false) := Lib.hid (by rw [HB.out]; unfold leafB; rw [decide_eq_false hn0]; simp)
      go_wp2_with fail
      go_ret
      exact ⟨ret_one (congrArg Value.bool HB2.out.symm), hbf⟩
end Go.Proofs.YtlmjkbdodecbmaaGreatDoor

namespace Go.Proofs.YtlmjkbdodecbmaaGreatDoor
open Go.RowKit Go.Shelf
set_option linter.unusedVariables false
set_option linter.unusedSimpArgs false
attribute [local go_sem] field_nat
theorem tnode_h (x : TN) (l : NdL) (B : Nat) (ao : Option Addr) (cap : Nat) (xs : List FV) (b : Bool) (w : World) (hNI : Hid (NdIs B w x l)) (hBw : B ≤ w.heap.size) (hsm : Hid (SmN x)) (hf : Hid (Flds w ao xs)) (hxl : xs.length ≤ 1000000) (HB : Hid (b = nodeB (xs.map (·.f)) x)) :
    Calls Tryz.prog 70 #[.agg #[.int .i64 x.p.op, .int .i64 x.p.fld, .slice l.vo x.p.vals.length l.vc, .slice l.ko x.p.kids.length l.kc, .string ⟨x.sc.toArray⟩, .string ⟨x.ct.toArray⟩, .slice l.io x.kids.length l.ic, .int .i64 x.df], .slice ao xs.length cap] w fun e w' => e = .returned (.bool b) ∧ Below w.heap.size w w' := tnode_any x l B ao cap xs b w hNI.out hBw hsm hf hxl HB
theorem tdepth_h (t : TR) (z : Nat) (no : Option Addr) (nc : Nat) (B : Nat) (w : World) (hT : Hid (TrIs B w t no nc)) (hBw : B ≤ w.heap.size) (hsz : Hid (t.nodes.length + (t.nodes.map fun x => x.kids.length).sum ≤ 1500)) (HZ : Hid (z = deepT t)) :
    Calls Tryz.prog 21 #[.agg #[.slice no t.nodes.length nc, .int .i64 t.ms, .int .i64 t.nt]] w fun e w' => e = .returned (.int .i64 (z : Int)) ∧ Below w.heap.size w w' := tdepth_any t z no nc B w hT.out hBw hsz.out HZ
set_option maxRecDepth 100000 in
set_option maxHeartbeats 4000000 in
/-- Valid. -/
theorem tvalid_any (t : TR) (no : Option Addr) (nc : Nat) (B : Nat) (ao : Option Addr) (cap : Nat) (xs : List FV) (b : Bool) (w : World) (hT : TrIs B w t no nc) (hBw : B ≤ w.heap.size) (hsz : t.nodes.length + (t.nodes.map fun x => x.kids.length).sum ≤ 1500) (hsm : Hid (∀ x ∈ t.nodes, SmN x)) (hf : Hid (Flds w ao xs)) (hxl : xs.length ≤ 1000000) (HB : Hid (b = validT (xs.map (·.f)) t)) :
    Calls Tryz.prog 19 #[.agg #[.slice no t.nodes.length nc, .int .i64 t.ms, .int .i64 t.nt], .slice ao xs.length cap] w fun e w' => e = .returned (.bool b) ∧ Below w.heap.size w w' := by
  obtain ⟨w0, hw0, hbf, hz0, px, hpx, hbx⟩ := boxT w no t.nodes.length nc t.ms t.nt
  have HT : Hid (TrIs B w0 t no nc) := Lib.hid (hT.low (Low.of_below hbf hBw))
  have HF : Hid (Flds w0 ao xs) := Lib.hid (hf.out.below hbf)
  have hBw0 : B ≤ w0.heap.size := Nat.le_trans hBw hbf.size
  have HW := Lib.hid hw0
  have HSZ := Lib.hid hsz
  have hNl : t.nodes.length ≤ 2000 := by omega
  have hng : ¬ (2000 : Int) < ((t.nodes.length : Nat) : Int) := by omega
  clear hw0 hz0 hT hf hsz
  go_enter Tryz.func19, Tryz.ntmps19
  go_upto_region 1 with fail
  rw [← HW.out, ← hpx]
  clear hpx HW
  have e0 := hbx.cell 0 _ rfl
  have e1 := hbx.cell 1 _ rfl
  have e2 := hbx.cell 2 _ rfl
  by_cases hm1 : t.ms < 1
  case pos =>
    have HB2 : Hid (b = false) := Lib.hid (by rw [HB.out]; unfold validT headT; rw [decide_eq_false (show ¬ 1 ≤ t.ms by omega)]; simp)
    go_wp2_with fail
    go_ret
    exact ⟨ret_one (congrArg Value.bool HB2.out.symm), hbf⟩
  case neg =>
  by_cases hm2 : 6 < t.ms
  case pos =>
    have HB2 : Hid (b = false) := Lib.hid (by rw [HB.out]; unfold validT headT; rw [decide_eq_false (show ¬ t.ms ≤ 6 by omega)]; simp)
    go_wp2_with fail
    go_ret
    exact ⟨ret_one (congrArg Value.bool HB2.out.symm), hbf⟩
  case neg =>
  obtain ⟨nt, hnt⟩ : ∃ n, n = t.nt := ⟨_, rfl⟩
  rw [← hnt] at e2 hbx ⊢
  have HNT := Lib.hid hnt
  clear hnt
  have key : ∀ (hn9 : nt = 2 ∨ nt = 3), Hid (b = (t.nodes.all (nodeB (xs.map (·.f))) && (shapeB t && decide (deepT t ≤ 40)))) := fun hn9 => Lib.hid (by
    rw [HB.out]; unfold validT headT
    rw [← HNT.out, decide_eq_true hNl, decide_eq_true (show 1 ≤ t.ms by omega), decide_eq_true (show t.ms ≤ 6 by omega)]
    rcases hn9 with rfl | rfl <;> rfl)
  by_cases hn9 : nt = 2 ∨ nt = 3
  case neg =>
    have h2 : (nt != 2) = true := by rw [bne_iff_ne]; omega
    have h3 : (nt != 3) = true := by rw [bne_iff_ne]; omega
    have HB2 : Hid (b = false) := Lib.hid (by rw [HB.out]; unfold validT headT; rw [← HNT.out, decide_eq_false (show ¬ nt = 2 by omega), decide_eq_false (show ¬ nt = 3 by omega)]; simp)
    clear hn9 key
    go_wp2_with fail
    go_ret
    exact ⟨ret_one (congrArg Value.bool HB2.out.symm), hbf⟩
  case pos =>
  have HB9 := key hn9
  clear key HB
  rcases hn9 with rfl | rfl
  · obtain ⟨nt, hnt⟩ : ∃ n : Int, n = 2 := ⟨_, rfl⟩
    have hnt2 := HNT.out
    go_wp2_with fail
    rw [hnt2] at hbx
    clear hnt hnt2 e0 e1 e2
    go_loopg [36] t.nodes.length (fun gg iv wr => ∃ (i : Nat), i + gg = t.nodes.length ∧ iv = .int .i64 (i : Int) ∧ Hid (((t.nodes.drop i).all (nodeB (xs.map (·.f))) && (shapeB t && decide (deepT t ≤ 40))) = b) ∧ BoxL wr px [.slice no t.nodes.length nc, .int .i64 t.ms, .int .i64 t.nt] ∧ Below w0.heap.size w0 wr ∧ Below w.heap.size w wr)
    case atStart => exact ⟨0, by omega, rfl, Lib.hid HB9.out.symm, hbx, Below.refl _ _, hbf⟩
    clear hbx hbf HB9
    case round =>
      obtain ⟨i, hi, rfl, HR, hbx, hb0, hbf⟩ := hrel
      by_cases hil : i < t.nodes.length
      case pos =>
        have hii : ((i : Nat) : Int) < ((t.nodes.length : Nat) : Int) := by omega
        have hqi : (0 : Int) ≤ (i : Int) := by omega
        obtain ⟨x, hx9⟩ : ∃ k, t.nodes[i]? = some k := ⟨_, List.getElem?_eq_getElem hil⟩
        have HSX := Lib.hid (hsm.out x (List.mem_of_getElem? hx9))
        rw [nodesB_drop hx9] at HR
        obtain ⟨nb, noff, l, rfl, hbB, hNI, hnd⟩ := (HT.out.low (Low.of_below hb0 hBw0)).at_ i x hx9
        obtain ⟨c0, c1, c2, c3, c4, c5, c6, c7⟩ := hnd
        obtain ⟨d, hd⟩ : ∃ d, d = nodeB (xs.map (·.f)) x := ⟨_, rfl⟩
        rw [← hd] at HR
        have HD := Lib.hid hd
        clear hd hx9
        obtain ⟨w1, hwE, hb1, -, pv, hpE, hbv⟩ := boxN wr x l
        have HW := Lib.hid hwE
        clear hwE
        go_upto_region 6 with fail
        rw [← HW.out, ← hpE]
        clear HW hpE c0 c1 c2 c3 c4 c5 c6 c7
        have HNI : Hid (NdIs B w1 x l) := Lib.hid (hNI.low (Low.of_below hb1 (Nat.le_trans hBw0 hb0.size)))
        replace hb0 := hb0.trans (hb1.mono hb0.size)
        replace hbx := hbx.kept hb1
        replace hbf := hbf.trans (hb1.mono hbf.size)
        have HF2 : Hid (Flds w1 ao xs) := Lib.hid (HF.out.below hb0)
        have hBw1 : B ≤ w1.heap.size := Nat.le_trans hBw0 hb0.size
        have v0 := hbv.cell 0 _ rfl
        have v1 := hbv.cell 1 _ rfl
        have v2 := hbv.cell 2 _ rfl
        have v3 := hbv.cell 3 _ rfl
        have v4 := hbv.cell 4 _ rfl
        have v5 := hbv.cell 5 _ rfl
        have v6 := hbv.cell 6 _ rfl
        have v7 := hbv.cell 7 _ rfl
        clear hb1 hbv hNI
        go_wp2_with fail
        (with_reducible refine (tnode_h x l B ao cap xs d _ HNI hBw1 HSX HF2 hxl HD).mono ?_)
        rintro e w3 ⟨rfl, hb⟩
        replace hb0 := hb0.trans (hb.mono hb0.size)
        replace hbx := hbx.kept hb
        replace hbf := hbf.trans (hb.mono hbf.size)
        clear v0 v1 v2 v3 v4 v5 v6 v7 hb
        cases d
        · have HB2 : Hid (b = false) := Lib.hid (by rw [← HR.out]; rfl)
          go_wp2_with fail
          go_ret
          exact ⟨ret_one (congrArg Value.bool HB2.out.symm), hbf⟩
        · have HR2 : Hid (((t.nodes.drop (i + 1)).all (nodeB (xs.map (·.f))) && (shapeB t && decide (deepT t ≤ 40))) = b) := Lib.hid (by rw [← HR.out]; rfl)
          go_wp2_with fail
          go_roundg (gk - 1)
          case measure => omega
          case rel => exact ⟨i + 1, by omega, by go_num, HR2, hbx, hb0, hbf⟩
      case neg =>
      have hii : ¬ ((i : Nat) : Int) < ((t.nodes.length : Nat) : Int) := by omega
      have HB3 : Hid (b = (shapeB t && decide (deepT t ≤ 40))) := Lib.hid (by rw [← HR.out, List.drop_eq_nil_of_le (by omega)]; rfl)
      obtain ⟨sb, hsb⟩ : ∃ b, b = shapeB t := ⟨_, rfl⟩
      rw [← hsb] at HB3
      have HSB := Lib.hid hsb
      obtain ⟨z, hz⟩ : ∃ z, z = deepT t := ⟨_, rfl⟩
      rw [← hz] at HB3
      have HZ := Lib.hid hz
      have HT2 : Hid (TrIs B wr t no nc) := Lib.hid (HT.out.low (Low.of_below hb0 hBw0))
      have hBw2 : B ≤ wr.heap.size := Nat.le_trans hBw0 hb0.size
      have e0 := hbx.cell 0 _ rfl
      have e1 := hbx.cell 1 _ rfl
      have e2 := hbx.cell 2 _ rfl
      clear hsb hz HR hil hi
      go_wp2_with fail
      (with_reducible refine (tshape_h t sb no nc B _ HT2 hBw2 HSZ HSB).mono ?_)
      rintro e w3 ⟨v, rfl, hb, -⟩
      have HT3 : Hid (TrIs B w3 t no nc) := Lib.hid (HT2.out.low (Low.of_below hb hBw2))
      have hBw3 : B ≤ w3.heap.size := Nat.le_trans hBw2 hb.size
      replace hbf := hbf.trans (hb.mono hbf.size)
      replace hbx := hbx.kept hb
      clear e0 e1 e2 hb
      have e0 := hbx.cell 0 _ rfl
      have e1 := hbx.cell 1 _ rfl
      have e2 := hbx.cell 2 _ rfl
      clear hbx
      cases sb
      · have HB2 : Hid (b = false) := Lib.hid (by rw [HB3.out]; rfl)
        go_wp2_with fail
        go_ret
        exact ⟨ret_one (congrArg Value.bool HB2.out.symm), hbf⟩
      · replace HB3 : Hid (b = decide (z ≤ 40)) := Lib.hid (by rw [HB3.out]; rfl)
        go_wp2_with fail
        (with_reducible refine (tdepth_h t z no nc B _ HT3 hBw3 HSZ HZ).mono ?_)
        rintro e w4 ⟨rfl, hb⟩
        replace hbf := hbf.trans (hb.mono hbf.size)
        clear e0 e1 e2 hb
        by_cases hz4 : z ≤ 40
        · have HB2 : Hid (b = true) := Lib.hid (by rw [HB3.out, decide_eq_true hz4])
          have hzg : ((z : Nat) : Int) ≤ 40 := by omega
          go_wp2_with fail
          go_ret
          exact ⟨ret_one (congrArg Value.bool HB2.out.symm), hbf⟩
        · have HB2 : Hid (b = false) := Lib.hid (by rw [HB3.out, decide_eq_false hz4])
          have hzg : ¬ ((z : Nat) : Int) ≤ 40 := by omega
          go_wp2_with fail
          go_ret
          exact ⟨ret_one (congrArg Value.bool (by rw [HB2.out]; exact decide_eq_false (by omega))), hbf⟩
  · obtain ⟨nt, hnt⟩ : ∃ n : Int, n = 3 := ⟨_, rfl⟩
    have hnt2 := HNT.out
    go_wp2_with fail
    rw [hnt2] at hbx
    clear hnt hnt2 e0 e1 e2
    go_loopg [36] t.nodes.length (fun gg iv wr => ∃ (i : Nat), i + gg = t.nodes.length ∧ iv = .int .i64 (i : Int) ∧ Hid (((t.nodes.drop i).all (nodeB (xs.map (·.f))) && (shapeB t && decide (deepT t ≤ 40))) = b) ∧ BoxL wr px [.slice no t.nodes.length nc, .int .i64 t.ms, .int .i64 t.nt] ∧ Below w0.heap.size w0 wr ∧ Below w.heap.size w wr)
    case atStart => exact ⟨0, by omega, rfl, Lib.hid HB9.out.symm, hbx, Below.refl _ _, hbf⟩
    clear hbx hbf HB9
    case round =>
      obtain ⟨i, hi, rfl, HR, hbx, hb0, hbf⟩ := hrel
      by_cases hil : i < t.nodes.length
      case pos =>
        have hii : ((i : Nat) : Int) < ((t.nodes.length : Nat) : Int) := by omega
        have hqi : (0 : Int) ≤ (i : Int) := by omega
        obtain ⟨x, hx9⟩ : ∃ k, t.nodes[i]? = some k := ⟨_, List.getElem?_eq_getElem hil⟩
        have HSX := Lib.hid (hsm.out x (List.mem_of_getElem? hx9))
        rw [nodesB_drop hx9] at HR
        obtain ⟨nb, noff, l, rfl, hbB, hNI, hnd⟩ := (HT.out.low (Low.of_below hb0 hBw0)).at_ i x hx9
        obtain ⟨c0, c1, c2, c3, c4, c5, c6, c7⟩ := hnd
        obtain ⟨d, hd⟩ : ∃ d, d = nodeB (xs.map (·.f)) x := ⟨_, rfl⟩
        rw [← hd] at HR
        have HD := Lib.hid hd
        clear hd hx9
        obtain ⟨w1, hwE, hb1, -, pv, hpE, hbv⟩ := boxN wr x l
        have HW := Lib.hid hwE
        clear hwE
        go_upto_region 6 with fail
        rw [← HW.out, ← hpE]
        clear HW hpE c0 c1 c2 c3 c4 c5 c6 c7
        have HNI : Hid (NdIs B w1 x l) := Lib.hid (hNI.low (Low.of_below hb1 (Nat.le_trans hBw0 hb0.size)))
        replace hb0 := hb0.trans (hb1.mono hb0.size)
        replace hbx := hbx.kept hb1
        replace hbf := hbf.trans (hb1.mono hbf.size)
        have HF2 : Hid (Flds w1 ao xs) := Lib.hid (HF.out.below hb0)
        have hBw1 : B ≤ w1.heap.size := Nat.le_trans hBw0 hb0.size
        have v0 := hbv.cell 0 _ rfl
        have v1 := hbv.cell 1 _ rfl
        have v2 := hbv.cell 2 _ rfl
        have v3 := hbv.cell 3 _ rfl
        have v4 := hbv.cell 4 _ rfl
        have v5 := hbv.cell 5 _ rfl
        have v6 := hbv.cell 6 _ rfl
        have v7 := hbv.cell 7 _ rfl
        clear hb1 hbv hNI
        go_wp2_with fail
        (with_reducible refine (tnode_h x l B ao cap xs d _ HNI hBw1 HSX HF2 hxl HD).mono ?_)
        rintro e w3 ⟨rfl, hb⟩
        replace hb0 := hb0.trans (hb.mono hb0.size)
        replace hbx := hbx.kept hb
        replace hbf := hbf.trans (hb.mono hbf.size)
        clear v0 v1 v2 v3 v4 v5 v6 v7 hb
        cases d
        · have HB2 : Hid (b = false) := Lib.hid (by rw [← HR.out]; rfl)
          go_wp2_with fail
          go_ret
          exact ⟨ret_one (congrArg Value.bool HB2.out.symm), hbf⟩
        · have HR2 : Hid (((t.nodes.drop (i + 1)).all (nodeB (xs.map (·.f))) && (shapeB t && decide (deepT t ≤ 40))) = b) := Lib.hid (by rw [← HR.out]; rfl)
          go_wp2_with fail
          go_roundg (gk - 1)
          case measure => omega
          case rel => exact ⟨i + 1, by omega, by go_num, HR2, hbx, hb0, hbf⟩
      case neg =>
      have hii : ¬ ((i : Nat) : Int) < ((t.nodes.length : Nat) : Int) := by omega
      have HB3 : Hid (b = (shapeB t && decide (deepT t ≤ 40))) := Lib.hid (by rw [← HR.out, List.drop_eq_nil_of_le (by omega)]; rfl)
      obtain ⟨sb, hsb⟩ : ∃ b, b = shapeB t := ⟨_, rfl⟩
      rw [← hsb] at HB3
      have HSB := Lib.hid hsb
      obtain ⟨z, hz⟩ : ∃ z, z = deepT t := ⟨_, rfl⟩
      rw [← hz] at HB3
      have HZ := Lib.hid hz
      have HT2 : Hid (TrIs B wr t no nc) := Lib.hid (HT.out.low (Low.of_below hb0 hBw0))
      have hBw2 : B ≤ wr.heap.size := Nat.le_trans hBw0 hb0.size
      have e0 := hbx.cell 0 _ rfl
      have e1 := hbx.cell 1 _ rfl
      have e2 := hbx.cell 2 _ rfl
      clear hsb hz HR hil hi
      go_wp2_with fail
      (with_reducible refine (tshape_h t sb no nc B _ HT2 hBw2 HSZ HSB).mono ?_)
      rintro e w3 ⟨v, rfl, hb, -⟩
      have HT3 : Hid (TrIs B w3 t no nc) := Lib.hid (HT2.out.low (Low.of_below hb hBw2))
      have hBw3 : B ≤ w3.heap.size := Nat.le_trans hBw2 hb.size
      replace hbf := hbf.trans (hb.mono hbf.size)
      replace hbx := hbx.kept hb
      clear e0 e1 e2 hb
      have e0 := hbx.cell 0 _ rfl
      have e1 := hbx.cell 1 _ rfl
      have e2 := hbx.cell 2 _ rfl
      clear hbx
      cases sb
      · have HB2 : Hid (b = false) := Lib.hid (by rw [HB3.out]; rfl)
        go_wp2_with fail
        go_ret
        exact ⟨ret_one (congrArg Value.bool HB2.out.symm), hbf⟩
      · replace HB3 : Hid (b = decide (z ≤ 40)) := Lib.hid (by rw [HB3.out]; rfl)
        go_wp2_with fail
        (with_reducible refine (tdepth_h t z no nc B _ HT3 hBw3 HSZ HZ).mono ?_)
        rintro e w4 ⟨rfl, hb⟩
        replace hbf := hbf.trans (hb.mono hbf.size)
        clear e0 e1 e2 hb
        by_cases hz4 : z ≤ 40
        · have HB2 : Hid (b = true) := Lib.hid (by rw [HB3.out, decide_eq_true hz4])
          have hzg : ((z : Nat) : Int) ≤ 40 := by omega
          go_wp2_with fail
          go_ret
          exact ⟨ret_one (congrArg Value.bool HB2.out.symm), hbf⟩
        · have HB2 : Hid (b = false) := Lib.hid (by rw [HB3.out, decide_eq_false hz4])
          have hzg : ¬ ((z : Nat) : Int) ≤ 40 := by omega
          go_wp2_with fail
          go_ret
          exact ⟨ret_one (congrArg Value.bool (by rw [HB2.out]; exact decide_eq_false (by omega))), hbf⟩
end Go.Proofs.YtlmjkbdodecbmaaGreatDoor

namespace Go.Proofs.YtlmjkbdodecbmaaGreatDoor
open Go.RowKit
set_option linter.unusedVariables false
section
variable {P : Program} {ops : Array Oper} {Q : Exit → Act → World → Prop} {S : World → Prop} {md : Region.Mode}
theorem rowsIn_round {l n : Nat} {row : String} {args : Array Value} {w : World} {R : Value → World → Prop} (h : Rows P row args w R) : RowsIn (Fence.wide.inRound l) n P row args w R :=
  fun c cs _ => let ⟨v, w', r, s⟩ := h c cs; ⟨v, w', r, stepsIn_wide.2 s⟩
theorem callsIn_round {l n : Nat} {f : FuncId} {args : Array Value} {w : World} {R : Ending → World → Prop} (h : Calls P f args w R) : CallsIn (Fence.wide.inRound l) n P f args w R :=
  callsIn_wide.2 h
theorem wpIn_of_wp {l : Nat} {o : Oper} {a : Act} {w : World} {K K' : Act → World → Prop} (hnd : ∀ c, o.op ≠ .defer c) (h : ∀ a w, K a w → K' a w) (hh : Oper.wp P o a w K Q) : Oper.wpIn (Fence.wide.inRound l) 0 P o a w K' Q := by
  unfold Oper.wp at hh
  refine ⟨fun f _ => trivial, ?_⟩
  rw [Oper.semAt_plain _ _ _ hnd]
  generalize (execOp a.eval o).run P w = r at *
  cases r with
  | ok x w' =>
    cases x <;> simp only [Oper.upon, Oper.uponIn] at hh ⊢ <;>
      first
        | exact h _ _ hh
        | exact ⟨fun h9 => by simp [Fence.wide] at h9, callsIn_round (Calls.mono hh (fun e w'' he => by cases e <;> first | exact h _ _ he | exact he))⟩
        | exact ⟨fun h9 => by simp [Fence.wide] at h9, rowsIn_round (Rows.mono hh (fun _ _ he => h _ _ he))⟩
        | exact hh.elim
  | halt x w' => cases x <;> simp only [Oper.upon, Oper.uponIn] at hh ⊢ <;> exact hh
def noDefers (ops : Array Oper) : Bool := ops.toList.all fun o => match o.op with | .defer _ => false | _ => true
theorem wpOpIn_of_wpOp {l i : Nat} {a : Act} {w : World} {K K' : Act → World → Prop} (hnd : noDefers ops = true) (hlo : ¬ LetsOut Q) (h : ∀ a w, K a w → K' a w) (hh : wpOp P ops Q i K a w) : wpOpIn (Fence.wide.inRound l) 0 P ops Q i K' a w := by
  unfold wpOp at hh
  unfold wpOpIn
  split
  · exact h _ _ (by simpa [*] using hh)
  · rename_i o ho
    simp only [ho] at hh
    have hno : ∀ c, o.op ≠ .defer c := fun c e => by
      unfold noDefers at hnd
      have h1 := List.all_eq_true.1 hnd o (Array.mem_toList_iff.2 (Array.mem_of_getElem? ho))
      rw [e] at h1
      simp at h1
    split
    · rename_i hw
      simp only [hw, if_true] at hh
      rcases hh with hh | ⟨_, hh⟩
      · exact wpIn_of_wp hno h hh
      · exact (hlo hh).elim
    · rename_i hw
      simp only [hw] at hh
      exact ⟨fun f _ => trivial, h _ _ hh⟩
theorem wpAnyIn_of_wpAny {l : Nat} (hnd : noDefers ops = true) (hlo : ¬ LetsOut Q) : ∀ (fuel : Nat) (listed : Array Bool) (a : Act) (w : World), wpAny P md ops Q fuel listed a w → wpAnyIn (Fence.wide.inRound l) 0 P md ops Q fuel listed a w := by
  intro fuel
  induction fuel with
  | zero => intro listed a w h; exact h
  | succ fuel ih =>
    intro listed a w h
    exact ⟨h.1, fun i hi => wpOpIn_of_wpOp hnd hlo (fun a w h9 => ih _ a w h9) (h.2 i hi)⟩
end
end Go.Proofs.YtlmjkbdodecbmaaGreatDoor

namespace Go.Proofs.YtlmjkbdodecbmaaGreatDoor
open Go.RowKit
set_option linter.unusedVariables false
section
variable {P : Program} {ops : Array Oper} {Q : Exit → Act → World → Prop} {S : World → Prop}
theorem pop_replicate (n : Nat) : (Array.replicate n false).pop = Array.replicate (n - 1) false := by
  apply Array.ext_getElem?
  intro j
  simp only [Array.getElem?_pop, Array.getElem?_replicate, Array.size_replicate]
  split
  · rw [if_pos (by omega)]
  · rfl
end
end Go.Proofs.YtlmjkbdodecbmaaGreatDoor
