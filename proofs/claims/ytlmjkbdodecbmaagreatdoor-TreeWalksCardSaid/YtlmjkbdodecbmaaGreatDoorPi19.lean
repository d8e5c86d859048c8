/-
  Pi19: LogC TreA (what is needed of them).
-/
import Derived.Test.YtlmjkbdodecbmaaGreatDoorPi14
import Derived.Test.YtlmjkbdodecbmaaGreatDoorPi15
import Derived.Test.YtlmjkbdodecbmaaGreatDoorPi16
import Derived.Test.YtlmjkbdodecbmaaGreatDoorPi18
import Derived.Sort.CutIn
import Derived.WalkMore

namespace Go.Proofs.YtlmjkbdodecbmaaGreatDoor
open Go.RowKit Go.Shelf
set_option linter.unusedVariables false
set_option linter.unusedSimpArgs false
attribute [local go_sem] Oper.semAt_some field_nat
/-- A function with a label. -/
theorem wpIn_scope9 {P : Program} {Q : Exit → Act → World → Prop} {a : Act} {w : World} {c : Code} (h : c.wpIn Fence.wide 0 P (Exit.noGoto Q) a w) : (Code.scope c).wpIn Fence.wide 0 P Q a w :=
  wpIn_wide.2 (wp_scope_straight (wpIn_wide.1 h))
theorem lone_h (x : PT) (vo : Option Addr) (vc : Nat) (ko : Option Addr) (kc : Nat) (ao : Option Addr) (cap : Nat) (xs : List FV) (b : Bool) (w : World) (hf : Hid (Flds w ao xs)) (hxl : xs.length ≤ 1000000) (hvs : Hid (Vals w vo x.vals)) (hvl : Hid (∀ v ∈ x.vals, v.n.length ≤ 1000000)) (hvm : Hid (x.vals.length ≤ 9223372036854775807)) (hkm : Hid (x.kids.length ≤ 9223372036854775807)) (HB : Hid (b = oneB (xs.map (·.f)) x)) :
    Calls Tryz.prog 112 #[.agg #[.int .i64 x.op, .int .i64 x.fld, .slice vo x.vals.length vc, .slice ko x.kids.length kc], .slice ao xs.length cap] w fun e w' => e = .returned (.bool b) ∧ Below w.heap.size w w' :=
  lone_any x.op x.fld x.vals x.kids vo vc ko kc ao cap xs b w hf hxl hvs hvl hvm.out hkm.out (Lib.hid (by rw [PT.eta]; exact HB.out))
/-- One part of a predicate. -/
def okP (fs : List F5) (x : PT × Nat) : Bool := decide (x.2 ≤ 40) && oneB fs x.1
theorem validP_eq (fs : List F5) (p : PT) : validP fs p = (walkP 1 p).all (okP fs) := rfl
theorem smP_walk {K : Nat} (p : PT) : SmP K p → ∀ d, ∀ x ∈ walkP d p, SmP K x.1 := by
  refine PT.rec (motive_1 := fun p => SmP K p → ∀ d, ∀ x ∈ walkP d p, SmP K x.1) (motive_2 := fun ks => (∀ k ∈ ks, SmP K k) → ∀ d, ∀ x ∈ walksP d ks, SmP K x.1) ?_ ?_ ?_ p
  · intro op fld vs ks ih h d x hx
    rw [walkP] at hx
    rcases List.mem_cons.1 hx with rfl | hx
    · exact h
    · exact ih h.out.2.2.2 (d + 1) x hx
  · intro _ d x hx
    rw [walksP] at hx
    cases hx
  · intro k ks ih1 ih2 h d x hx
    rw [walksP] at hx
    rcases List.mem_append.1 hx with hx | hx
    · exact ih1 (h k (by simp)) d x hx
    · exact ih2 (fun y hy => h y (by simp [hy])) d x hx
theorem all_pre {α : Type} {f : α → Bool} {pre : List α} {x : α} {L : List α} (h : pre ++ [x] <+: L) (hx : f x = false) : L.all f = false := by
  obtain ⟨r, rfl⟩ := h
  simp [hx]
theorem below_extT {B D : Nat} {w W W' : World} (h : Below B w W) (hx : Ext D W W') (hD : B ≤ D) (hB : B ≤ W.heap.size) : Below B w W' := h.trans ⟨hx.os, hx.tape, hx.output, hx.size, fun k hk => hx.low k (by omega) (by omega)⟩
theorem Foot.of_keep {S : Nat → Prop} {W W' : World} (h : Keep S W W') : Foot S S W W' := ⟨h.os, h.tape, h.output, h.size, h.same, fun k hk => .inl hk⟩
/-- The body's own: the yes or no. -/
def VdI (p3 p5 : Nat) (ao : Option Addr) (n cap : Nat) (w : World) (b : Bool) (S : Nat → Prop) (W : World) : Prop := (S = fun k => k = p5) ∧ BoxL W p5 [.bool b] ∧ BoxL W p3 [.slice ao n cap] ∧ Below w.heap.size w W
theorem VdI.mk {p3 p5 : Nat} {ao : Option Addr} {n cap : Nat} {w : World} {b : Bool} {S : Nat → Prop} {W : World} (h0 : S = fun k => k = p5) (h1 : BoxL W p5 [.bool b]) (h2 : BoxL W p3 [.slice ao n cap]) (h3 : Below w.heap.size w W) : VdI p3 p5 ao n cap w b S W := ⟨h0, h1, h2, h3⟩
theorem VdI.oth {p3 p5 : Nat} {ao : Option Addr} {n cap : Nat} {w : World} {b : Bool} {S : Nat → Prop} {W W' : World} {D : Nat} (h : VdI p3 p5 ao n cap w b S W) (ho : Oth D S W W') (h3 : p3 < D) (hw : w.heap.size ≤ D) : VdI p3 p5 ao n cap w b S W' := by
  obtain ⟨rfl, i1, i2, i3⟩ := h
  refine VdI.mk rfl (i1.block (ho.same _ i1.lt (.inr rfl))) (i2.block (ho.same _ i2.lt (.inl h3))) (i3.trans ⟨ho.os, ho.tape, ho.output, ho.size, fun k hk => ho.same k (Nat.lt_of_lt_of_le hk i3.size) (.inl (by omega))⟩)
set_option maxRecDepth 100000 in
set_option maxHeartbeats 4000000 in
/-- Valid. -/
theorem lvalid_any (p : PT) (vo : Option Addr) (vc : Nat) (ko : Option Addr) (kc : Nat) (B : Nat) (ao : Option Addr) (cap : Nat) (xs : List FV) (b : Bool) (w : World) (hP : PtIs B w p vo vc ko kc) (hBw : B ≤ w.heap.size) (hsz : sizeP p ≤ 2000) (hsm : Hid (SmP 4000 p)) (hf : Flds w ao xs) (hxl : xs.length ≤ 1000000) (HB : Hid (b = validP (xs.map (·.f)) p)) :
    Calls Tryz.prog 96 #[.agg #[.int .i64 p.op, .int .i64 p.fld, .slice vo p.vals.length vc, .slice ko p.kids.length kc], .slice ao xs.length cap] w fun e w' => e = .returned (.bool b) ∧ Below w.heap.size w w' := by
  refine (callsIn_wide (n := 0)).1 ?_
  refine callsIn_of_wp_marks Tryz.func96 rfl (by trivial) ?_ rfl
  simp only [Tryz.ntmps96, List.size_toArray, List.length_cons, List.length_nil, Nat.reduceAdd, Nat.reduceSub, Array.replicate_succ, Array.replicate_zero, List.push_toArray, List.append_toArray, List.nil_append, List.cons_append]
  obtain ⟨wR, hwR⟩ : ∃ W, W = ((w.alloc (.cells #[.int .i64 p.op, .int .i64 p.fld, .slice vo p.vals.length vc, .slice ko p.kids.length kc] 34)).alloc (.cells #[.slice ao xs.length cap] 54)).alloc (.cells #[.bool true] 4) := ⟨_, rfl⟩
  have hbR : Below w.heap.size w wR := by rw [hwR]; exact (((Below.refl _ w).alloc (Nat.le_refl _) _).alloc (by simp <;> omega) _).alloc (by simp <;> omega) _
  have hszR : wR.heap.size = w.heap.size + 3 := by rw [hwR]; simp
  obtain ⟨p2, hp2⟩ : ∃ q, q = w.heap.size := ⟨_, rfl⟩
  obtain ⟨p3, hp3⟩ : ∃ q, q = w.heap.size + 1 := ⟨_, rfl⟩
  obtain ⟨p5, hp5⟩ : ∃ q, q = w.heap.size + 1 + 1 := ⟨_, rfl⟩
  have hb2 : BoxL wR p2 [.int .i64 p.op, .int .i64 p.fld, .slice vo p.vals.length vc, .slice ko p.kids.length kc] := by rw [hwR, hp2]; exact ((BoxL.new w _ _).kept ((Below.refl _ _).alloc (Nat.le_refl _) _)).kept ((Below.refl _ _).alloc (Nat.le_refl _) _)
  have hb3 : BoxL wR p3 [.slice ao xs.length cap] := by rw [hwR, hp3]; exact BoxL.of1 (by go_simp) (by go_simp)
  have hb5 : BoxL wR p5 [.bool true] := by rw [hwR, hp5]; exact BoxL.of1 (by go_simp) (by go_simp)
  obtain ⟨wS, hwS⟩ : ∃ W, W = wR.alloc (.cells #[.int .i64 p.op, .int .i64 p.fld, .slice vo p.vals.length vc, .slice ko p.kids.length kc] 34) := ⟨_, rfl⟩
  obtain ⟨px, hpx⟩ : ∃ q, q = wR.heap.size := ⟨_, rfl⟩
  have hbS : Below wR.heap.size wR wS := by rw [hwS]; exact (Below.refl _ _).alloc (Nat.le_refl _) _
  have hszS : wS.heap.size = wR.heap.size + 1 := by rw [hwS]; simp
  have hbx : BoxL wS px [.int .i64 p.op, .int .i64 p.fld, .slice vo p.vals.length vc, .slice ko p.kids.length kc] := by rw [hwS, hpx]; exact BoxL.new wR _ _
  have hit := walk1_iter B p vo vc ko kc px wS (hP.low (Low.of_below (hbR.trans (hbS.mono hbR.size)) hBw)) (by omega) (by omega) hsz ⟨hbx.cell 0 _ rfl, hbx.cell 1 _ rfl, hbx.cell 2 _ rfl, hbx.cell 3 _ rfl⟩
  have hb3S := hb3.kept hbS
  have hb5S := hb5.kept hbS
  have HF := Lib.hid hf
  have hbwS := hbR.trans (hbS.mono hbR.size)
  obtain ⟨fs, hfs⟩ : ∃ l, l = xs.map (·.f) := ⟨_, rfl⟩
  rw [← hfs] at HB
  have HFS := Lib.hid hfs
  obtain ⟨L, hL⟩ : ∃ L, L = walkP 1 p := ⟨_, rfl⟩
  replace HB : Hid (b = L.all (okP fs)) := Lib.hid (by rw [HB.out, validP_eq, hL])
  have HSM : Hid (∀ x ∈ L, SmP 4000 x.1) := Lib.hid (by rw [hL]; exact smP_walk p hsm.out 1)
  rw [← hL] at hit
  have HW := Lib.hid hwR
  have HWS := Lib.hid hwS
  have HX := Lib.hid hpx
  have H2 := Lib.hid hp2
  have H3 := Lib.hid hp3
  have H5 := Lib.hid hp5
  have HQ : p2 < p3 ∧ p3 < p5 ∧ p5 < px ∧ px < wS.heap.size ∧ w.heap.size ≤ p2 ∧ B ≤ p2 := by omega
  have hBS : B ≤ wS.heap.size := by omega
  clear hwR hwS hpx hp2 hp3 hp5 hP hszR hszS hL hfs hf hsm hb3 hb5 hbS hbR hbx
  have e2 := hb2.cell 0 _ rfl
  have e21 := hb2.cell 1 _ rfl
  have e22 := hb2.cell 2 _ rfl
  have e23 := hb2.cell 3 _ rfl
  clear hb2
  gi_wp2_with fail
  refine wpIn_scope9 ?_
  gi_wp2_with fail
  refine wpIn_label ?_
  gi_upto_region 2 with fail
  rw [← HW.out, ← H5.out, ← H3.out, ← H2.out]
  gi_wp2_with fail
  refine ⟨trivial, rfl, callsIn_wide.2 ((logicWalk_any p.op p.fld vo p.vals.length vc ko p.kids.length kc _).mono ?_)⟩
  rintro e w5 ⟨rfl, rfl⟩
  clear e2 e21 e22 e23
  gi_wp2_with fail
  rw [← HWS.out, ← HX.out]
  clear HW HWS HX H2 H3 H5
  obtain ⟨q1, q2, q3, q4, q5, q6⟩ := HQ
  have hT1 : True := trivial
  refine wp_rangeW (gf := walkF) (lb := #[.pointer (some ⟨px, 0, none⟩)]) rfl enters_walk1 hit (fun W v x h => by obtain ⟨a, b, c, d, rfl, _⟩ := h; rfl) (fun k hr => res_lt hBS q4 hr)
    (fun pre S W => VdI p3 p5 ao xs.length cap w true S W ∧ Hid (pre.all (okP fs) = true) ∧ wS.heap.size ≤ W.heap.size)
    (fun c pre S W => c = .exit 0 ∧ VdI p3 p5 ao xs.length cap w false S W ∧ Hid (L.all (okP fs) = false) ∧ wS.heap.size ≤ W.heap.size)
    ?_ ?_ (fun k => k = p5) ?_ ?_
    (fun x9 a' W => ∃ (b9 : Nat) (kvo : Option Addr) (kvc : Nat) (kko : Option Addr) (kkc : Nat), wS.heap.size ≤ b9 ∧ BoxL W b9 [.int .i64 x9.1.op, .int .i64 x9.1.fld, .slice kvo x9.1.vals.length kvc, .slice kko x9.1.kids.length kkc] ∧ PtIs B W x9.1 kvo kvc kko kkc ∧ a' = { tmps := #[.agg #[.int .i64 p.op, .int .i64 p.fld, .slice vo p.vals.length vc, .slice ko p.kids.length kc], .slice ao xs.length cap, .pointer (some ⟨p2, 0, none⟩), .pointer (some ⟨p3, 0, none⟩), .bool false, .pointer (some ⟨p5, 0, none⟩), .pointer (some ⟨b9, 0, none⟩), .int .i64 (x9.2 : Int), .agg #[.int .i64 p.op, .int .i64 p.fld, .slice vo p.vals.length vc, .slice ko p.kids.length kc], .func (.func walkF) #[] #[.pointer (some ⟨px, 0, none⟩)], .agg #[.int .i64 x9.1.op, .int .i64 x9.1.fld, .slice kvo x9.1.vals.length kvc, .slice kko x9.1.kids.length kkc], .int .i64 (x9.2 : Int), undef, undef, undef, undef, undef, undef, undef, undef, undef], defers := [] })
    ?_ ?assign ?body ?done ?stop
  case assign =>
    rintro l8 pre x9 v S W K hi hnv hpre hK
    obtain ⟨kvo, kvc, kko, kkc, rfl, hX9⟩ := hnv
    gi_wp2
    obtain ⟨hI, hN, hsW⟩ := hi
    have hb : Below W.heap.size W (W.alloc (.cells #[.int .i64 x9.1.op, .int .i64 x9.1.fld, .slice kvo x9.1.vals.length kvc, .slice kko x9.1.kids.length kkc] 34)) := (Below.refl _ W).alloc (Nat.le_refl _) _
    have hBW : B ≤ W.heap.size := by omega
    refine hK _ _ hb ⟨hI.oth (D := wS.heap.size) (Oth.of_below hb) (by omega) (by omega), hN, Nat.le_trans hsW hb.size⟩ ⟨W.heap.size, kvo, kvc, kko, kkc, hsW, BoxL.new W _ _, hX9.low (Low.of_below hb hBW), ?_⟩
    rfl
  case body =>
    rintro l8 pre x9 a' S W ⟨hI, hN, hsW⟩ ⟨b9, kvo, kvc, kko, kkc, hq9, hB9, hX9, rfl⟩ hpre hS
    obtain ⟨rfl, i5, i3, hWb⟩ := hI
    have hxL : x9 ∈ L := hpre.subset (by simp)
    obtain ⟨hs1, hs2, hs3, hs4⟩ := (HSM.out x9 hxL).out
    have hvs : Hid (Vals W kvo x9.1.vals) := Lib.hid hX9.vals.v
    have hvl : Hid (∀ v ∈ x9.1.vals, v.n.length ≤ 1000000) := Lib.hid (fun v hv => by have := (hs3 v hv).1; omega)
    have hvm : Hid (x9.1.vals.length ≤ 9223372036854775807) := Lib.hid (by omega)
    have hkm : Hid (x9.1.kids.length ≤ 9223372036854775807) := Lib.hid (by omega)
    have HF2 : Hid (Flds W ao xs) := Lib.hid (HF.out.below hWb)
    have HPRE := Lib.hid hpre
    clear hxL hs1 hs2 hs3 hs4 hX9 hpre hS
    by_cases hd : (40 : Int) < (x9.2 : Int)
    · have hfl : Hid (L.all (okP fs) = false) := Lib.hid (all_pre HPRE.out (by unfold okP; rw [decide_eq_false (by omega)]; rfl))
      have e5 := i5.cell 0 _ rfl
      have f5 := i5.free 0 (by simp)
      clear hvs hvl hvm hkm HF2 HPRE hN
      gi_wp2_with fail
      refine ⟨trivial, ?_⟩
      gi_wp2_with fail
      obtain ⟨wT, hwE⟩ : ∃ W', W' = W.setCell ⟨p5, 0, none⟩ (.bool false) := ⟨_, rfl⟩
      have hKT : Keep (fun k => k = p5) W wT := by rw [hwE]; exact (Keep.refl _ _).set p5 0 _ (.inl rfl)
      have j5 : BoxL wT p5 [.bool false] := by rw [hwE]; exact i5.set 0 _ (by simp)
      rw [← hwE]
      exact ⟨_, ⟨rfl, VdI.mk rfl j5 (i3.keep hKT (by omega)) (hWb.trans (hKT.below (fun k hk => by omega) hWb.size)), hfl, Nat.le_trans hsW hKT.size⟩, Foot.of_keep hKT⟩
    · obtain ⟨d, hdd⟩ : ∃ d, d = oneB fs x9.1 := ⟨_, rfl⟩
      have HD : Hid (d = oneB (xs.map (·.f)) x9.1) := Lib.hid (by rw [hdd, HFS.out])
      have hok : okP fs x9 = d := by unfold okP; rw [decide_eq_true (by omega), hdd]; rfl
      have HOK := Lib.hid hok
      clear hdd hok
      have e3 := i3.cell 0 _ rfl
      have e90 := hB9.cell 0 _ rfl
      have e91 := hB9.cell 1 _ rfl
      have e92 := hB9.cell 2 _ rfl
      have e93 := hB9.cell 3 _ rfl
      clear hB9
      gi_wp2_with fail
      refine ⟨trivial, rfl, CallsIn.inRound l8 (callsIn_wide.2 ((lone_h x9.1 kvo kvc kko kkc ao cap xs d _ HF2 hxl hvs hvl hvm hkm HD).mono ?_))⟩
      rintro e w5 ⟨rfl, hb⟩
      clear e3 e90 e91 e92 e93 hvs hvl hvm hkm HF2
      replace i5 := i5.kept hb
      replace i3 := i3.kept hb
      replace hWb := hWb.trans (hb.mono hWb.size)
      have hft : Foot (fun k => k = p5) (fun k => k = p5) W w5 := Foot.of_below hb
      have HFT := Lib.hid hft
      replace hsW := Nat.le_trans hsW hb.size
      clear hft hb
      cases d
      · have hfl : Hid (L.all (okP fs) = false) := Lib.hid (all_pre HPRE.out HOK.out)
        have e5 := i5.cell 0 _ rfl
        have f5 := i5.free 0 (by simp)
        clear HPRE hN
        gi_wp2_with fail
        obtain ⟨wT, hwE⟩ : ∃ W', W' = w5.setCell ⟨p5, 0, none⟩ (.bool false) := ⟨_, rfl⟩
        have hKT : Keep (fun k => k = p5) w5 wT := by rw [hwE]; exact (Keep.refl _ _).set p5 0 _ (.inl rfl)
        have j5 : BoxL wT p5 [.bool false] := by rw [hwE]; exact i5.set 0 _ (by simp)
        rw [← hwE]
        exact ⟨_, ⟨rfl, VdI.mk rfl j5 (i3.keep hKT (by omega)) (hWb.trans (hKT.below (fun k hk => by omega) hWb.size)), hfl, Nat.le_trans hsW hKT.size⟩, HFT.out.trans (Foot.of_keep hKT)⟩
      · have hok : Hid ((pre ++ [x9]).all (okP fs) = true) := Lib.hid (by rw [List.all_append, hN.out, List.all_cons, HOK.out]; rfl)
        clear HPRE hN
        gi_wp2_with fail
        exact ⟨_, ⟨VdI.mk rfl i5 i3 hWb, hok, hsW⟩, HFT.out, fun k hk => by have := i5.lt; rw [show k = p5 from hk]; exact this⟩
  case done =>
    rintro D S W hD ⟨hI, hN, hsW⟩ hK
    obtain ⟨rfl, i5, i3, hWb⟩ := hI
    have HB2 : Hid (b = true) := Lib.hid (by rw [HB.out]; exact hN.out)
    have e5 := i5.cell 0 _ rfl
    have HK := Lib.hid hK
    clear hK i3 hN
    gi_wp2_with fail
    have hx9 : Ext D W (W.putObj D (.deferred none)) := Ext.put (Nat.le_refl _) HK.out rfl
    refine ⟨by simp, .inl ⟨_, _, rfl, run_takeDeferred HK.out, ?_⟩⟩
    refine ⟨_, results_tmp rfl _ _ _, ?_⟩
    exact ⟨ret_one (congrArg Value.bool HB2.out.symm), below_extT hWb hx9 (by omega) hWb.size⟩
  case stop =>
    rintro D c pre S W hD hp ⟨rfl, hI, hN, hsW⟩ hK
    obtain ⟨rfl, i5, i3, hWb⟩ := hI
    have HB2 : Hid (b = false) := Lib.hid (by rw [HB.out]; exact hN.out)
    have e5 := i5.cell 0 _ rfl
    have HK := Lib.hid hK
    clear hK i3 hN hp
    gi_wp2_with fail
    have hx9 : Ext D W (W.putObj D (.deferred none)) := Ext.put (Nat.le_refl _) HK.out rfl
    refine ⟨by simp, .inl ⟨_, _, rfl, run_takeDeferred HK.out, ?_⟩⟩
    refine ⟨_, results_tmp rfl _ _ _, ?_⟩
    exact ⟨ret_one (congrArg Value.bool HB2.out.symm), below_extT hWb hx9 (by omega) hWb.size⟩
  · rintro pre S W W' ⟨hI, hN, hsW⟩ ho
    exact ⟨hI.oth ho (by omega) (by omega), hN, Nat.le_trans hsW ho.size⟩
  · rintro c pre S W W' ⟨rfl, hI, hN, hsW⟩ ho
    exact ⟨rfl, hI.oth ho (by omega) (by omega), hN, Nat.le_trans hsW ho.size⟩
  · rintro k hk
    have hk9 : k = p5 := hk
    subst hk9
    exact ⟨fun hr => by rcases hr with hr | hr <;> omega, by omega⟩
  · exact ⟨VdI.mk rfl hb5S hb3S hbwS, Lib.hid rfl, Nat.le_refl _⟩
  · rintro x9 a' W W' ⟨b9, kvo, kvc, kko, kkc, hq9, hB9, hX9, rfl⟩ hx
    exact ⟨b9, kvo, kvc, kko, kkc, hq9, hB9.ext hx (by simp), hX9.low (fun k hk => hx.low k (by omega) (by have := hB9.lt; omega)), rfl⟩
end Go.Proofs.YtlmjkbdodecbmaaGreatDoor

namespace Go.Proofs.YtlmjkbdodecbmaaGreatDoor
open Go.RowKit
set_option linter.unusedVariables false
set_option linter.unusedSimpArgs false
attribute [local go_sem] field_nat
/-- A row of ints, below B. -/
structure IntsB (B : Nat) (w : World) (io : Option Addr) (ic : Nat) (ns : List Int) : Prop where
  cap : ns.length ≤ ic ∧ ic ≤ maxLen
  no : io = none → ic = 0
  at_ : ∀ (i : Nat) (n : Int), ns[i]? = some n → ∃ b off, io = some ⟨b, off, none⟩ ∧ b < B ∧ w.cell? ⟨b, off + i, none⟩ = some (.int .i64 n)
theorem IntsB.low {B : Nat} {w w' : World} {io : Option Addr} {ic : Nat} {ns : List Int} (h : IntsB B w io ic ns) (hl : Low B w w') : IntsB B w' io ic ns :=
  ⟨h.cap, h.no, fun i n hi => by obtain ⟨b, off, e, hb, hc⟩ := h.at_ i n hi; exact ⟨b, off, e, hb, (hl.cell hb).trans hc⟩⟩
theorem IntsB.mono {B B' : Nat} {w : World} {io : Option Addr} {ic : Nat} {ns : List Int} (h : IntsB B w io ic ns) (hB : B ≤ B') : IntsB B' w io ic ns :=
  ⟨h.cap, h.no, fun i n hi => by obtain ⟨b, off, e, hb, hc⟩ := h.at_ i n hi; exact ⟨b, off, e, by omega, hc⟩⟩
theorem IntsB.le {B : Nat} {w : World} {io : Option Addr} {ic : Nat} {ns : List Int} (h : IntsB B w io ic ns) : ns.length ≤ 9223372036854775807 := by
  have := h.cap
  unfold maxLen at this
  omega
/-- Eight cells that lie. -/
structure At8 (w : World) (b o : Nat) (x0 x1 x2 x3 x4 x5 x6 x7 : Value) : Prop where
  c0 : w.cell? ⟨b, o, none⟩ = some x0
  c1 : w.cell? ⟨b, o + 1, none⟩ = some x1
  c2 : w.cell? ⟨b, o + 2, none⟩ = some x2
  c3 : w.cell? ⟨b, o + 3, none⟩ = some x3
  c4 : w.cell? ⟨b, o + 4, none⟩ = some x4
  c5 : w.cell? ⟨b, o + 5, none⟩ = some x5
  c6 : w.cell? ⟨b, o + 6, none⟩ = some x6
  c7 : w.cell? ⟨b, o + 7, none⟩ = some x7
theorem At8.drew {w : World} {b o : Nat} {x0 x1 x2 x3 x4 x5 x6 x7 : Value} (h : At8 w b o x0 x1 x2 x3 x4 x5 x6 x7) : At8 w.drew b o x0 x1 x2 x3 x4 x5 x6 x7 := ⟨h.c0, h.c1, h.c2, h.c3, h.c4, h.c5, h.c6, h.c7⟩
theorem At8.block {w w' : World} {b o : Nat} {x0 x1 x2 x3 x4 x5 x6 x7 : Value} (h : At8 w b o x0 x1 x2 x3 x4 x5 x6 x7) (hb : w'.heap[b]? = w.heap[b]?) : At8 w' b o x0 x1 x2 x3 x4 x5 x6 x7 := by
  have e : ∀ i, w'.cell? ⟨b, i, none⟩ = w.cell? ⟨b, i, none⟩ := fun i => World.cell?_of_block (a := ⟨b, i, none⟩) hb
  exact ⟨(e _).trans h.c0, (e _).trans h.c1, (e _).trans h.c2, (e _).trans h.c3, (e _).trans h.c4, (e _).trans h.c5, (e _).trans h.c6, (e _).trans h.c7⟩
theorem At8.lt {w : World} {b o : Nat} {x0 x1 x2 x3 x4 x5 x6 x7 : Value} (h : At8 w b o x0 x1 x2 x3 x4 x5 x6 x7) : b < w.heap.size := World.block_lt_of_cell? w ⟨b, o, none⟩ h.c0
theorem At8.kept {w w' : World} {b o : Nat} {x0 x1 x2 x3 x4 x5 x6 x7 : Value} (h : At8 w b o x0 x1 x2 x3 x4 x5 x6 x7) (hb : Below w.heap.size w w') : At8 w' b o x0 x1 x2 x3 x4 x5 x6 x7 := h.block (hb.block b h.lt)
/-- A node as it lies: where its lists lie. -/
structure NdL where
  vo : Option Addr
  vc : Nat
  ko : Option Addr
  kc : Nat
  io : Option Addr
  ic : Nat
structure NdIs (B : Nat) (w : World) (n : TN) (l : NdL) : Prop where
  p : PtIs B w n.p l.vo l.vc l.ko l.kc
  k : IntsB B w l.io l.ic n.kids
  sc : n.sc.length ≤ 9223372036854775807
  ct : n.ct.length ≤ 9223372036854775807
theorem NdIs.low {B : Nat} {w w' : World} {n : TN} {l : NdL} (h : NdIs B w n l) (hl : Low B w w') : NdIs B w' n l := ⟨h.p.low hl, h.k.low hl, h.sc, h.ct⟩
theorem NdIs.mono {B B' : Nat} {w : World} {n : TN} {l : NdL} (h : NdIs B w n l) (hB : B ≤ B') : NdIs B' w n l := ⟨h.p.mono hB, h.k.mono hB, h.sc, h.ct⟩
/-- A node's cells. -/
abbrev ndAt (w : World) (b o : Nat) (n : TN) (l : NdL) : Prop := At8 w b o (.int .i64 n.p.op) (.int .i64 n.p.fld) (.slice l.vo n.p.vals.length l.vc) (.slice l.ko n.p.kids.length l.kc) (.string ⟨n.sc.toArray⟩) (.string ⟨n.ct.toArray⟩) (.slice l.io n.kids.length l.ic) (.int .i64 n.df)
/-- A tree in memory: its row of nodes. -/
structure TrIs (B : Nat) (w : World) (t : TR) (no : Option Addr) (nc : Nat) : Prop where
  cap : t.nodes.length ≤ nc ∧ nc ≤ maxLen
  nn : no = none → nc = 0
  at_ : ∀ (i : Nat) (n : TN), t.nodes[i]? = some n → ∃ b off l, no = some ⟨b, off, none⟩ ∧ b < B ∧ NdIs B w n l ∧ ndAt w b (off + i * 8) n l
theorem TrIs.low {B : Nat} {w w' : World} {t : TR} {no : Option Addr} {nc : Nat} (h : TrIs B w t no nc) (hl : Low B w w') : TrIs B w' t no nc :=
  ⟨h.cap, h.nn, fun i n hi => by
    obtain ⟨b, off, l, e, hb, h1, h2⟩ := h.at_ i n hi
    exact ⟨b, off, l, e, hb, h1.low hl, h2.block (hl b hb)⟩⟩
theorem TrIs.mono {B B' : Nat} {w : World} {t : TR} {no : Option Addr} {nc : Nat} (h : TrIs B w t no nc) (hB : B ≤ B') : TrIs B' w t no nc :=
  ⟨h.cap, h.nn, fun i n hi => by
    obtain ⟨b, off, l, e, hb, h1, h2⟩ := h.at_ i n hi
    exact ⟨b, off, l, e, by omega, h1.mono hB, h2⟩⟩
theorem TrIs.le {B : Nat} {w : World} {t : TR} {no : Option Addr} {nc : Nat} (h : TrIs B w t no nc) : t.nodes.length ≤ 9223372036854775807 := by
  have := h.cap
  unfold maxLen at this
  omega
/-- What is left of the room behind nodes. -/
def treeR : Int → List TN → Int
  | n, [] => n
  | n, x :: r => if n < 0 then n else treeR (predR (roomL n [4, x.sc.length, x.ct.length, x.kids.length]) x.p) r
theorem treeR_neg {n : Int} (h : n < 0) (ls : List TN) : treeR n ls = n := by
  cases ls with
  | nil => rfl
  | cons v r => rw [treeR, if_pos h]
theorem treeR_drop {n : Int} {ls : List TN} {i : Nat} {x : TN} (h : ls[i]? = some x) (hn : ¬ n < 0) : treeR n (ls.drop i) = treeR (predR (roomL n [4, x.sc.length, x.ct.length, x.kids.length]) x.p) (ls.drop (i + 1)) := by
  have hi : i < ls.length := (List.getElem?_eq_some_iff.1 h).1
  rw [List.drop_eq_getElem_cons hi, (List.getElem?_eq_some_iff.1 h).2, treeR, if_neg hn]
/-- A node that is small. -/
structure SmN (n : TN) : Prop where
  sc : n.sc.length ≤ 4000
  ct : n.ct.length ≤ 4000
  kids : n.kids.length ≤ 4000
  p : SmP 4000 n.p
  sz : sizeP n.p ≤ 2000
theorem treeR_le : ∀ (ls : List TN) (n : Int), 0 ≤ treeR n ls → n ≤ 2000 → treeR n ls + ((ls.length : Nat) : Int) + (((ls.map fun x => x.kids.length).sum : Nat) : Int) ≤ n ∧ 0 ≤ n ∧ ∀ x ∈ ls, SmN x := by
  intro ls
  induction ls with
  | nil => intro n h hn; rw [treeR] at h ⊢; simp; exact h
  | cons x r ih =>
    intro n h hn
    rw [treeR] at h ⊢
    by_cases h0 : n < 0
    · rw [if_pos h0] at h; omega
    · rw [if_neg h0] at h ⊢
      have h9 : 0 ≤ predR (roomL n [4, x.sc.length, x.ct.length, x.kids.length]) x.p := by
        by_cases h8 : predR (roomL n [4, x.sc.length, x.ct.length, x.kids.length]) x.p < 0
        · rw [treeR_neg h8] at h; omega
        · omega
      have h7 : 0 ≤ roomL n [4, x.sc.length, x.ct.length, x.kids.length] := by
        by_cases h8 : roomL n [4, x.sc.length, x.ct.length, x.kids.length] < 0
        · have hz : predR (roomL n [4, x.sc.length, x.ct.length, x.kids.length]) x.p < 0 := by
            generalize roomL n [4, x.sc.length, x.ct.length, x.kids.length] = m at h8
            have hl : roomL m [1] ≤ m ∨ roomL m [1] = -1 := roomL_le _ _
            have hl2 : roomL m [1] < 0 := by omega
            rw [predR_eq, valsRoom_neg hl2, predsR_neg hl2]; exact hl2
          omega
        · omega
      obtain ⟨h5, h6⟩ := roomL_sum _ h7
      simp only [List.sum_cons, List.sum_nil, Int.natCast_add] at h5
      obtain ⟨h1, h2, h3⟩ := predR_le x.p _ h9 (by omega)
      obtain ⟨k1, k2, k3⟩ := ih _ h (by omega)
      rw [List.length_cons, List.map_cons, List.sum_cons]
      refine ⟨by omega, by omega, fun y hy => ?_⟩
      rcases List.mem_cons.1 hy with rfl | hy
      · exact ⟨by omega, by omega, by omega, h3, by omega⟩
      · exact k3 y hy
/-- Tree. -/
def treeB (t : TR) : Bool := decide (0 ≤ treeR 1500 t.nodes)
theorem treeB_le {t : TR} (h : treeB t = true) : t.nodes.length + (t.nodes.map fun x => x.kids.length).sum ≤ 1500 ∧ ∀ x ∈ t.nodes, SmN x := by
  unfold treeB at h
  simp only [decide_eq_true_eq] at h
  obtain ⟨h1, h2, h3⟩ := treeR_le t.nodes 1500 h (by decide)
  exact ⟨by omega, h3⟩
theorem boxT (w : World) (no : Option Addr) (nl nc : Nat) (ms nt : Int) : ∃ w0, w0 = w.alloc (.cells #[.slice no nl nc, .int .i64 ms, .int .i64 nt] 24) ∧ Below w.heap.size w w0 ∧ w0.heap.size = w.heap.size + 1 ∧ ∃ p, p = w.heap.size ∧ BoxL w0 p [.slice no nl nc, .int .i64 ms, .int .i64 nt] :=
  ⟨_, rfl, (Below.refl _ w).alloc (Nat.le_refl _) _, by simp, _, rfl, BoxL.new w _ _⟩
theorem bpred_h (p : PT) (n z : Int) (vo : Option Addr) (vc : Nat) (ko : Option Addr) (kc : Nat) (B : Nat) (w : World) (hP : PtIs B w p vo vc ko kc) (HBS : B ≤ w.heap.size) (h1 : Hid (-1 ≤ n ∧ n ≤ 1000000000)) (HZ : Hid (z = predR n p)) :
    Calls Tryz.prog 83 #[.int .i64 n, .agg #[.int .i64 p.op, .int .i64 p.fld, .slice vo p.vals.length vc, .slice ko p.kids.length kc]] w fun e w' => e = .returned (.int .i64 z) ∧ Below w.heap.size w w' := bpred_any p n z vo vc ko kc B w hP (Lib.hid HBS) h1.out.1 h1.out.2 HZ
set_option maxRecDepth 100000 in
set_option maxHeartbeats 4000000 in
/-- tree. -/
theorem btree_any (t : TR) (z : Int) (no : Option Addr) (nc : Nat) (B : Nat) (w : World) (hT : TrIs B w t no nc) (hBw : B ≤ w.heap.size) (HZ : Hid (z = treeR 1500 t.nodes)) :
    Calls Tryz.prog 34 #[.int .i64 1500, .agg #[.slice no t.nodes.length nc, .int .i64 t.ms, .int .i64 t.nt]] w fun e w' => e = .returned (.int .i64 z) ∧ Below w.heap.size w w' := by
  obtain ⟨w0, hw0, hbf, hz0, px, hpx, hbx⟩ := boxT w no t.nodes.length nc t.ms t.nt
  replace hT := hT.low (Low.of_below hbf hBw)
  replace hBw := Nat.le_trans hBw hbf.size
  have hkl := hT.le
  have HW := Lib.hid hw0
  clear hw0 hz0
  go_enter Tryz.func34, Tryz.ntmps34
  go_upto_region 1 with fail
  rw [← HW.out, ← hpx]
  clear hpx HW
  go_wp2_with fail
  go_loopg [0, 5] t.nodes.length (fun gg nv iv wr => ∃ (m : Int) (i : Nat), i + gg = t.nodes.length ∧ nv = .int .i64 m ∧ iv = .int .i64 (i : Int) ∧ -1 ≤ m ∧ m ≤ 1000000000 ∧ Hid (treeR m (t.nodes.drop i) = z) ∧ BoxL wr px [.slice no t.nodes.length nc, .int .i64 t.ms, .int .i64 t.nt] ∧ TrIs B wr t no nc ∧ B ≤ wr.heap.size ∧ Below w.heap.size w wr)
  case atStart => exact ⟨1500, 0, by omega, rfl, rfl, by omega, by omega, Lib.hid HZ.out.symm, hbx, hT, hBw, hbf⟩
  clear hbx hT hBw hbf HZ
  case round =>
    obtain ⟨m, i, hi, rfl, rfl, hq1, hq2, HR, hbx, hT, hBw, hbf⟩ := hrel
    have e0 := hbx.cell 0 _ rfl
    by_cases hil : ¬ i < t.nodes.length
    case pos =>
      have hre : m = z := by rw [← HR.out, List.drop_eq_nil_of_le (by omega)]; rw [treeR]
      have HRE := Lib.hid hre
      have hii : ¬ ((i : Nat) : Int) < ((t.nodes.length : Nat) : Int) := by omega
      clear hre
      go_wp2_with fail
      go_ret
      exact ⟨ret_one (congrArg (Value.int .i64) HRE.out), hbf⟩
    case neg =>
      have hil9 : i < t.nodes.length := by omega
      have hii : ((i : Nat) : Int) < ((t.nodes.length : Nat) : Int) := by omega
      have hqi : (0 : Int) ≤ (i : Int) := by omega
      clear hil
      by_cases hmn : m < 0
      case pos =>
        have hre : m = z := by rw [← HR.out, treeR_neg hmn]
        have HRE := Lib.hid hre
        have hmg : ¬ (0 : Int) ≤ m := by omega
        clear hre
        go_wp2_with fail
        go_ret
        exact ⟨ret_one (congrArg (Value.int .i64) HRE.out), hbf⟩
      case neg =>
        have hmg : (0 : Int) ≤ m := by omega
        obtain ⟨x, hx9⟩ : ∃ k, t.nodes[i]? = some k := ⟨_, List.getElem?_eq_getElem hil9⟩
        have hdr := treeR_drop hx9 hmn
        rw [hdr] at HR
        obtain ⟨nb, noff, l, hno, hbB, hNI, hnd⟩ := hT.at_ i x hx9
        subst hno
        obtain ⟨z1, hz1⟩ : ∃ z, z = roomL m [4, x.sc.length, x.ct.length, x.kids.length] := ⟨_, rfl⟩
        have hr1 := roomL_range [4, x.sc.length, x.ct.length, x.kids.length] hq1 hq2
        rw [← hz1] at HR hr1
        obtain ⟨z2, hz2⟩ : ∃ z, z = predR z1 x.p := ⟨_, rfl⟩
        have hr2 := predR_range x.p hr1.1 hr1.2
        rw [← hz2] at HR hr2
        have HZ1 := Lib.hid hz1
        have HZ2 := Lib.hid hz2
        have HR1 := Lib.hid hr1
        have hs1 := hNI.sc
        have hs2 := hNI.ct
        have hs3 := hNI.k.le
        clear hdr hz1 hz2 hr1 hx9
        go_wp2_with fail
        clear e0
        refine wp_region_seq (S := fun w' => BoxL w' px [.slice (some ⟨nb, noff, none⟩) t.nodes.length nc, .int .i64 t.ms, .int .i64 t.nt] ∧ ndAt w' nb (noff + i * 8) x l) [(true, 0), (true, 1), (true, 2), (true, 3), (true, 4), (true, 5), (true, 6), (true, 7), (true, 8), (true, 9), (true, 10), (true, 11), (true, 12), (true, 13), (true, 14), (true, 15), (true, 16), (true, 17), (true, 18), (true, 19), (true, 20), (true, 21), (true, 24), (true, 25), (true, 26), (true, 27), (true, 28), (true, 29), (false, 22), (false, 23), (false, 30), (true, 31)] (by kernel_rfl) (by kernel_rfl) (by kernel_rfl) (by kernel_rfl) (by kernel_rfl) (fun d _ _ _ _ h => by cases d <;> exact h) ⟨hbx.drew, hnd.drew⟩ (fun _ => ?_)
        simp only [pickOps, List.append_eq, List.cons_append, List.nil_append, List.getElem?_toArray, List.getElem?_cons_succ, List.getElem?_cons_zero]
        have hb : Below wr.heap.size wr wr.drew := (Below.refl _ _).drew
        generalize wr.drew = wd at hb ⊢
        replace hbx := hbx.kept hb
        replace hnd := hnd.kept hb
        replace hNI := hNI.low (Low.of_below hb hBw)
        replace hT := hT.low (Low.of_below hb hBw)
        replace hBw := Nat.le_trans hBw (hb).size
        replace hbf := hbf.trans (hb.mono hbf.size)
        clear hb
        repeat (first | (refine seq_take (v := ?_) (by rfl) ?_ ?_; rotate_left; (· intro w hSw; (try dsimp only at hSw); obtain ⟨hL, hN⟩ := hSw; have e0 := hL.cell 0 _ rfl; have c0 := hN.c0; have c1 := hN.c1; have c2 := hN.c2; have c3 := hN.c3; have c4 := hN.c4; have c5 := hN.c5; have c6 := hN.c6; have c7 := hN.c7; clear hL hN; go_simp; all_goals with_reducible rfl); (try simp only [Act.put, List.setIfInBounds_toArray, List.set_cons_zero, List.set_cons_succ])) | (refine seq_leave (by rfl) ?_; (try simp only [Act.put, List.setIfInBounds_toArray, List.set_cons_zero, List.set_cons_succ])))
        refine seq_step (by rfl) (fun K hK => ?_)
        go_simp
        obtain ⟨w2, hwE⟩ : ∃ W, W = wd.alloc (.cells #[.int .i64 4, .int .i64 (x.sc.length : Int), .int .i64 (x.ct.length : Int), .int .i64 (x.kids.length : Int)] 3) := ⟨_, rfl⟩
        have hb : Below wd.heap.size wd w2 := by rw [hwE]; exact (Below.refl _ _).alloc (Nat.le_refl _) _
        have hcs : Cells .i64 w2 (some ⟨wd.heap.size, 0, none⟩) [4, x.sc.length, x.ct.length, x.kids.length] := by rw [hwE]; exact cells4 _ 4 _ _ _
        rw [← hwE]
        clear hwE
        replace hbx := hbx.kept hb
        replace hnd := hnd.kept hb
        replace hNI := hNI.low (Low.of_below hb hBw)
        replace hT := hT.low (Low.of_below hb hBw)
        replace hBw := Nat.le_trans hBw (hb).size
        replace hbf := hbf.trans (hb.mono hbf.size)
        clear hb
        first | refine hK.out _ _ ⟨hbx, hnd⟩ (fun _ => ?_) | (go_wp2_with fail; refine hK.out _ _ ⟨hbx, hnd⟩ (fun _ => ?_))
        clear hK K
        (try simp only [Act.put, List.setIfInBounds_toArray, List.set_cons_zero, List.set_cons_succ])
        repeat (first | (refine seq_take (v := ?_) (by rfl) ?_ ?_; rotate_left; (· intro w hSw; (try dsimp only at hSw); obtain ⟨hL, hN⟩ := hSw; have e0 := hL.cell 0 _ rfl; have c0 := hN.c0; have c1 := hN.c1; have c2 := hN.c2; have c3 := hN.c3; have c4 := hN.c4; have c5 := hN.c5; have c6 := hN.c6; have c7 := hN.c7; clear hL hN; go_simp; all_goals with_reducible rfl); (try simp only [Act.put, List.setIfInBounds_toArray, List.set_cons_zero, List.set_cons_succ])) | (refine seq_leave (by rfl) ?_; (try simp only [Act.put, List.setIfInBounds_toArray, List.set_cons_zero, List.set_cons_succ])))
        refine seq_step (by rfl) (fun K hK => ?_)
        go_simp
        go_at_call 68
        (with_reducible refine (room_z4 m z1 _ 4 x.sc.length x.ct.length x.kids.length _ hq1 hq2 hcs HZ1).mono ?_)
        rintro e w3 ⟨rfl, hb⟩
        clear hcs
        replace hbx := hbx.kept hb
        replace hnd := hnd.kept hb
        replace hNI := hNI.low (Low.of_below hb hBw)
        replace hT := hT.low (Low.of_below hb hBw)
        replace hBw := Nat.le_trans hBw (hb).size
        replace hbf := hbf.trans (hb.mono hbf.size)
        clear hb
        first | refine hK.out _ _ ⟨hbx, hnd⟩ (fun _ => ?_) | (go_wp2_with fail; refine hK.out _ _ ⟨hbx, hnd⟩ (fun _ => ?_))
        clear hK K
        (try simp only [Act.put, List.setIfInBounds_toArray, List.set_cons_zero, List.set_cons_succ])
        repeat (first | (refine seq_take (v := ?_) (by rfl) ?_ ?_; rotate_left; (· intro w hSw; (try dsimp only at hSw); obtain ⟨hL, hN⟩ := hSw; have e0 := hL.cell 0 _ rfl; have c0 := hN.c0; have c1 := hN.c1; have c2 := hN.c2; have c3 := hN.c3; have c4 := hN.c4; have c5 := hN.c5; have c6 := hN.c6; have c7 := hN.c7; clear hL hN; go_simp; all_goals with_reducible rfl); (try simp only [Act.put, List.setIfInBounds_toArray, List.set_cons_zero, List.set_cons_succ])) | (refine seq_leave (by rfl) ?_; (try simp only [Act.put, List.setIfInBounds_toArray, List.set_cons_zero, List.set_cons_succ])))
        refine seq_step (by rfl) (fun K hK => ?_)
        go_simp
        go_at_call 83
        (with_reducible refine (bpred_h x.p z1 z2 l.vo l.vc l.ko l.kc B _ hNI.p hBw HR1 HZ2).mono ?_)
        rintro e w4 ⟨rfl, hb⟩
        replace hbx := hbx.kept hb
        replace hnd := hnd.kept hb
        replace hNI := hNI.low (Low.of_below hb hBw)
        replace hT := hT.low (Low.of_below hb hBw)
        replace hBw := Nat.le_trans hBw (hb).size
        replace hbf := hbf.trans (hb.mono hbf.size)
        clear hb
        first | refine hK.out _ _ ⟨hbx, hnd⟩ (fun _ => ?_) | (go_wp2_with fail; refine hK.out _ _ ⟨hbx, hnd⟩ (fun _ => ?_))
        clear hK K
        (try simp only [Act.put, List.setIfInBounds_toArray, List.set_cons_zero, List.set_cons_succ])
        repeat (first | (refine seq_take (v := ?_) (by rfl) ?_ ?_; rotate_left; (· intro w hSw; (try dsimp only at hSw); obtain ⟨hL, hN⟩ := hSw; have e0 := hL.cell 0 _ rfl; have c0 := hN.c0; have c1 := hN.c1; have c2 := hN.c2; have c3 := hN.c3; have c4 := hN.c4; have c5 := hN.c5; have c6 := hN.c6; have c7 := hN.c7; clear hL hN; go_simp; all_goals with_reducible rfl); (try simp only [Act.put, List.setIfInBounds_toArray, List.set_cons_zero, List.set_cons_succ])) | (refine seq_leave (by rfl) ?_; (try simp only [Act.put, List.setIfInBounds_toArray, List.set_cons_zero, List.set_cons_succ])))
        refine seq_end ?_
        go_wp2_with fail
        go_roundg (gk - 1)
        case measure => omega
        case rel => exact ⟨z2, i + 1, by omega, rfl, by go_num, hr2.1, hr2.2, HR, hbx, hT, hBw, hbf⟩
set_option maxRecDepth 100000 in
set_option maxHeartbeats 2000000 in
/-- Tree. -/
theorem bTree_any (t : TR) (r : Bool) (no : Option Addr) (nc : Nat) (B : Nat) (w : World) (hT : TrIs B w t no nc) (hBw : B ≤ w.heap.size) (HR : Hid (r = treeB t)) :
    Calls Tryz.prog 6 #[.agg #[.slice no t.nodes.length nc, .int .i64 t.ms, .int .i64 t.nt]] w fun e w' => e = .returned (.bool r) ∧ Below w.heap.size w w' := by
  obtain ⟨z, hz⟩ : ∃ z, z = treeR 1500 t.nodes := ⟨_, rfl⟩
  have HR2 : Hid (r = decide (0 ≤ z)) := Lib.hid (by rw [HR.out, hz]; rfl)
  obtain ⟨w0, hw0, hbf, hz0, px, hpx, hbx⟩ := boxT w no t.nodes.length nc t.ms t.nt
  have hcall := btree_any t z no nc B w0 (hT.low (Low.of_below hbf hBw)) (Nat.le_trans hBw hbf.size) (Lib.hid hz)
  have HW := Lib.hid hw0
  clear hw0 hz0 hT hz HR
  go_enter Tryz.func6, Tryz.ntmps6
  go_upto_region 1 with fail
  rw [← HW.out, ← hpx]
  clear hpx HW
  have e0 := hbx.cell 0 _ rfl
  have e1 := hbx.cell 1 _ rfl
  have e2 := hbx.cell 2 _ rfl
  go_wp2_with fail
  (with_reducible refine hcall.mono ?_)
  rintro e w6 ⟨rfl, hb⟩
  go_wp2_with fail
  go_ret
  exact ⟨ret_one (congrArg Value.bool HR2.out.symm), hbf.trans (hb.mono hbf.size)⟩
end Go.Proofs.YtlmjkbdodecbmaaGreatDoor
