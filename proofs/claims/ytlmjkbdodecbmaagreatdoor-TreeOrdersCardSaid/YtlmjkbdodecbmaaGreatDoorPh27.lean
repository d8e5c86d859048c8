/-
  Ph27: TreR TreO LawTg OpenG OpenV OpenW (what is needed of them).
-/
import Derived.Test.YtlmjkbdodecbmaaGreatDoorPh05
import Derived.Test.YtlmjkbdodecbmaaGreatDoorPh09
import Derived.Test.YtlmjkbdodecbmaaGreatDoorPh10
import Derived.Test.YtlmjkbdodecbmaaGreatDoorPh11
import Derived.Test.YtlmjkbdodecbmaaGreatDoorPh20
import Derived.Test.YtlmjkbdodecbmaaGreatDoorPh21
import Derived.Test.YtlmjkbdodecbmaaGreatDoorPh24
import Derived.Test.YtlmjkbdodecbmaaGreatDoorPh26
import Derived.WalkKit
import Derived.ProofKit
import Derived.OpenShut
import Derived.ShutString
import Derived.Carry
import Derived.Deep.Fields
import Derived.Deep.Slices

namespace Go.Proofs.YtlmjkbdodecbmaaGreatDoor
open Go.RowKit Go.Shelf
set_option linter.unusedVariables false
set_option linter.unusedSimpArgs false
attribute [local go_sem] Oper.semAt_some field_nat
theorem E_rowsI : ElemK Tryz.prog 28 27 (.slice none 0 0) 1 24 := elemK_of Tryz.underlying28 (by kernel_rfl) rfl (by decide)
/-- The list that is grown, its box. -/
def WyI (D p3 p5 : Nat) (stop : Int) (w : World) (pre : List (List Int)) (S : Nat → Prop) (W : World) : Prop := ∃ (ao : Option Addr) (an ac : Nat) (xs : List Value), (S = fun k => k = p5 ∨ (Value.slice ao an ac).ownBlock = some k) ∧ BoxL W p3 [.int .i64 stop] ∧ BoxL W p5 [.slice ao an ac] ∧ OwnsK 1 D 27 W (.slice ao an ac) pre.length xs ∧ Below w.heap.size w W
theorem WyI.oth {D p3 p5 : Nat} {stop : Int} {w : World} {pre : List (List Int)} {S : Nat → Prop} {W W' : World} {D1 : Nat} (h : WyI D p3 p5 stop w pre S W) (ho : Oth D1 S W W') (hw : w.heap.size ≤ D1) (h3 : p3 < D1) : WyI D p3 p5 stop w pre S W' := by
  obtain ⟨ao, an, ac, xs, rfl, i1, i2, i4, i7⟩ := h
  exact ⟨ao, an, ac, xs, rfl, i1.block (ho.same _ i1.lt (.inl h3)), i2.block (ho.same _ i2.lt (.inr (.inl rfl))), i4.block fun g hg => ho.same g (i4.lt g hg).2 (.inr (.inr hg)), i7.trans ⟨ho.os, ho.tape, ho.output, ho.size, fun k hk => ho.same k (Nat.lt_of_lt_of_le hk i7.size) (.inl (by omega))⟩⟩
set_option maxRecDepth 100000 in
set_option maxHeartbeats 8000000 in
/-- ways. -/
theorem ways_any (L : List (List Int)) (R : List (List Int)) (stop : Int) (B px : Nat) (w : World) (hit0 : IterW Tryz.prog pathsF #[.pointer (some ⟨px, 0, none⟩)] PtEnc L (Res B px) w) (hBw : B ≤ w.heap.size) (hpx : px < w.heap.size) (hLl : L.length ≤ 2000) (HR : Hid (R = cutL stop L)) :
    Calls Tryz.prog 13 #[.func (.func pathsF) #[] #[.pointer (some ⟨px, 0, none⟩)], .int .i64 stop] w fun e w' => (∃ ao ac, e = .returned (.slice ao R.length ac)) ∧ Below w.heap.size w w' := by
  refine (callsIn_wide (n := 0)).1 ?_
  refine callsIn_of_wp_marks Tryz.func13 rfl (by trivial) ?_ rfl
  simp only [Tryz.ntmps13, List.size_toArray, List.length_cons, List.length_nil, Nat.reduceAdd, Nat.reduceSub, Array.replicate_succ, Array.replicate_zero, List.push_toArray, List.append_toArray, List.nil_append, List.cons_append]
  obtain ⟨wR, hwR⟩ : ∃ W, W = ((w.alloc (.cells #[.int .i64 stop] 3)).alloc (.cells #[.slice none 0 0] 28)) := ⟨_, rfl⟩
  have hbR : Below w.heap.size w wR := by rw [hwR]; exact ((Below.refl _ w).alloc (Nat.le_refl _) _).alloc (by simp <;> omega) _
  have hszR : wR.heap.size = w.heap.size + 2 := by rw [hwR]; simp
  obtain ⟨p3, hp3⟩ : ∃ q, q = w.heap.size := ⟨_, rfl⟩
  obtain ⟨p5, hp5⟩ : ∃ q, q = w.heap.size + 1 := ⟨_, rfl⟩
  have hb3 : BoxL wR p3 [.int .i64 stop] := by rw [hwR, hp3]; exact (BoxL.new w _ _).kept ((Below.refl _ _).alloc (Nat.le_refl _) _)
  have hb5 : BoxL wR p5 [.slice none 0 0] := by rw [hwR, hp5]; exact BoxL.of1 (by go_simp) (by go_simp)
  have hit := hit0.mono hbR
  have HQ : p3 < p5 ∧ p5 < wR.heap.size ∧ w.heap.size ≤ p3 := by omega
  have HW := Lib.hid hwR
  have H3 := Lib.hid hp3
  have H5 := Lib.hid hp5
  have hBR : B ≤ wR.heap.size := by omega
  have hpR : px < wR.heap.size := by omega
  clear hwR hp3 hp5 hszR hit0
  gi_wp2_with fail
  rw [← HW.out, ← H5.out, ← H3.out]
  clear HW H3 H5
  obtain ⟨q1, q2, q3⟩ := HQ
  have hT1 : True := trivial
  refine wp_rangeW (gf := pathsF) (lb := #[.pointer (some ⟨px, 0, none⟩)]) rfl enters_paths1 hit (fun W v x h => by obtain ⟨_, _, _, rfl, _⟩ := h; rfl) (fun k hr => res_lt hBR hpR hr)
    (fun pre S W => WyI wR.heap.size p3 p5 stop w pre S W ∧ NoStop stop pre.length ∧ wR.heap.size ≤ W.heap.size)
    (fun c pre S W => c = .exit 0 ∧ WyI wR.heap.size p3 p5 stop w pre S W ∧ (pre.length : Int) = stop ∧ 0 < pre.length ∧ wR.heap.size ≤ W.heap.size)
    ?_ ?_ (fun k => k = p5 ∨ (Value.slice none 0 0).ownBlock = some k) ?_ ?_
    (fun x9 a' W => ∃ (lo : Option Addr) (ln lc : Nat), a' = { tmps := #[.func (.func pathsF) #[] #[.pointer (some ⟨px, 0, none⟩)], .int .i64 stop, undef, .pointer (some ⟨p3, 0, none⟩), .slice none 0 0, .pointer (some ⟨p5, 0, none⟩), .slice lo ln lc, .func (.func pathsF) #[] #[.pointer (some ⟨px, 0, none⟩)], .slice lo ln lc, undef, undef, undef, undef, undef, undef, undef, undef, undef], defers := [] })
    ?_ ?assign ?body ?done ?stop
  case assign =>
    rintro l8 pre x9 v9 S W K hi hnv hpre hK
    obtain ⟨lo, ln, lc, rfl, -, -⟩ := hnv
    gi_wp2
    exact hK _ _ (Below.refl _ _) hi ⟨lo, ln, lc, rfl⟩
  case body =>
    rintro l8 pre x9 a' S W ⟨hI, hN, hsW⟩ ⟨lo, ln, lc, rfl⟩ hpre hS
    obtain ⟨ao, an, ac, xs, rfl, i3, i5, iA, iW⟩ := hI
    have hpl : pre.length + 1 ≤ 2000 := by
      have := hpre.length_le
      rw [List.length_append] at this
      simp at this
      omega
    obtain ⟨ao1, cap1, hva, -, -, -⟩ := iA.slice
    have HA : Hid (an = pre.length) := Lib.hid (by cases hva; rfl)
    have HLT := Lib.hid iA.lt
    have HNS := Lib.hid hN
    have HIW := Lib.hid iW
    have HPL : Hid ((pre ++ [x9]).length = pre.length + 1) := Lib.hid (by simp)
    clear hva hpre hN iW
    have e5 := i5.cell 0 _ rfl
    gi_upto_region 5 with (gi_at_builtin; refine append1KIn E_rowsI iA rfl rfl rfl rfl rfl (by simp [Value.oneCell']) (by omega) (by unfold maxLen; omega) hsW ?_; intro v9 w9 hO9 hb9 hg9 hn9; obtain ⟨ao9, cap9, rfl, -, -, -⟩ := hO9.slice; have k59 := i5.block (hg9.block p5 i5.lt (fun e9 => by have := (HLT.out p5 e9.symm).1; omega)); have k39 := i3.block (hg9.block p3 i3.lt (fun e9 => by have := (HLT.out p3 e9.symm).1; omega)); clear e5; have e5 := k59.cell 0 _ rfl; have f5 := k59.free 0 (by simp))
    obtain ⟨W9, hW9⟩ : ∃ W', W' = w9.setCell ⟨p5, 0, none⟩ (.slice ao9 (pre.length + 1) cap9) := ⟨_, rfl⟩
    rw [← hW9]
    have hK1 : Keep (fun k => k = p5 ∨ (Value.slice ao an ac).ownBlock = some k) W w9 := ⟨hg9.os, hg9.tape, hg9.output, hg9.size, fun k hk hs => hg9.block k hk (fun e => hs (.inr e.symm))⟩
    have hK9 : Keep (fun k => k = p5 ∨ (Value.slice ao an ac).ownBlock = some k) W W9 := by rw [hW9]; exact hK1.set p5 0 _ (.inl (.inl rfl))
    have hO10 : OwnsK 1 wR.heap.size 27 W9 (.slice ao9 (pre.length + 1) cap9) (pre.length + 1) (xs ++ (#[.slice lo ln lc] : Array Value).toList) := by
      rw [hW9]
      exact hO9.keep ((Keep.refl (fun k => k = p5) w9).set p5 0 _ (.inl rfl)) (fun k hk e => by have := (hO9.lt k hk).1; omega)
    have k5 : BoxL W9 p5 [.slice ao9 (pre.length + 1) cap9] := by rw [hW9]; exact k59.set 0 _ (by simp)
    have k3 : BoxL W9 p3 [.int .i64 stop] := by rw [hW9]; exact k39.setOther (by omega) _ _
    have HOW : Hid (∀ k, (Value.slice ao9 (pre.length + 1) cap9).ownBlock = some k → (Value.slice ao an ac).ownBlock = some k ∨ W.heap.size ≤ k) := Lib.hid hn9
    have hbW : Below w.heap.size w W9 := HIW.out.trans (hK9.below (fun k hk => by rcases hk with hk | hk; omega; have := (HLT.out k hk).1; have := HIW.out.size; omega) HIW.out.size)
    have hWy : WyI wR.heap.size p3 p5 stop w (pre ++ [x9]) (fun k => k = p5 ∨ (Value.slice ao9 (pre.length + 1) cap9).ownBlock = some k) W9 := ⟨ao9, pre.length + 1, cap9, _, rfl, k3, k5, by rw [HPL.out]; exact hO10, hbW⟩
    have hft : Foot (fun k => k = p5 ∨ (Value.slice ao an ac).ownBlock = some k) (fun k => k = p5 ∨ (Value.slice ao9 (pre.length + 1) cap9).ownBlock = some k) W W9 := ⟨hK9.os, hK9.tape, hK9.output, hK9.size, hK9.same, fun k hk => by
      rcases hk with h | h
      · exact .inl (.inl h)
      · rcases HOW.out k h with h | h
        · exact .inl (.inr h)
        · exact .inr h⟩
    have htp : Top (fun k => k = p5 ∨ (Value.slice ao9 (pre.length + 1) cap9).ownBlock = some k) W9 := fun k hk => by
      rcases hk with rfl | h
      · exact k5.lt
      · exact (hO10.lt k h).2
    have HWYI := Lib.hid hWy
    have HFT := Lib.hid hft
    have HTP := Lib.hid htp
    have HSZ9 : Hid (wR.heap.size ≤ W9.heap.size) := Lib.hid (Nat.le_trans hsW hK9.size)
    clear hWy hft htp hbW hO10 hK9 hK1 hW9 hO9 hb9 hg9 hn9 k59 k39 e5 f5 i3 i5 iA
    have e5 := k5.cell 0 _ rfl
    have e3 := k3.cell 0 _ rfl
    by_cases hst : ((pre.length + 1 : Nat) : Int) = stop
    · have hsb : (((pre.length : Nat) : Int) + 1 == stop) = true := by rw [beq_iff_eq]; omega
      have HSS := Lib.hid hst
      clear hst
      gi_wp2_with fail
      exact ⟨_, ⟨rfl, HWYI.out, by rw [HPL.out]; exact HSS.out, by rw [HPL.out]; omega, HSZ9.out⟩, HFT.out⟩
    · have hsb : (((pre.length : Nat) : Int) + 1 == stop) = false := by rw [beq_eq_false_iff_ne]; omega
      have HSS := Lib.hid hst
      clear hst
      gi_wp2_with fail
      exact ⟨_, ⟨HWYI.out, by rw [HPL.out]; exact HNS.out.succ HSS.out, HSZ9.out⟩, HFT.out, HTP.out⟩
  case done =>
    rintro D S W hD ⟨hI, hN, hsW⟩ hK
    have hRL : R = L := HR.out.trans (cutL_all hN).symm
    subst hRL
    clear HR hN
    obtain ⟨ao, an, ac, xs, rfl, i3, i5, iA, iW⟩ := hI
    obtain ⟨ao1, cap1, hva, -, -, -⟩ := iA.slice
    obtain rfl : an = R.length := by cases hva; rfl
    have e5 := i5.cell 0 _ rfl
    have HK := Lib.hid hK
    clear hva hK i5 iA
    gi_wp2_with fail
    have hx9 : Ext D W (W.putObj D (.deferred none)) := Ext.put (Nat.le_refl _) HK.out rfl
    refine ⟨by simp, .inl ⟨_, _, rfl, run_takeDeferred HK.out, ?_⟩⟩
    refine ⟨_, results_tmp rfl _ _ _, ?_⟩
    exact ⟨⟨_, _, ret_one rfl⟩, below_extT iW hx9 (by omega) iW.size⟩
  case stop =>
    rintro D c pre S W hD hp ⟨rfl, hI, hst, hp0, hsW⟩ hK
    have hRL : pre = R := (cutL_stop hp hst hp0).trans HR.out.symm
    subst hRL
    clear HR hp hst hp0
    obtain ⟨ao, an, ac, xs, rfl, i3, i5, iA, iW⟩ := hI
    obtain ⟨ao1, cap1, hva, -, -, -⟩ := iA.slice
    obtain rfl : an = pre.length := by cases hva; rfl
    have e5 := i5.cell 0 _ rfl
    have HK := Lib.hid hK
    clear hva hK i5 iA
    gi_wp2_with fail
    have hx9 : Ext D W (W.putObj D (.deferred none)) := Ext.put (Nat.le_refl _) HK.out rfl
    refine ⟨by simp, .inl ⟨_, _, rfl, run_takeDeferred HK.out, ?_⟩⟩
    refine ⟨_, results_tmp rfl _ _ _, ?_⟩
    exact ⟨⟨_, _, ret_one rfl⟩, below_extT iW hx9 (by omega) iW.size⟩
  · rintro pre S W W' ⟨hI, hN, hsW⟩ ho
    exact ⟨hI.oth ho (by omega) (by omega), hN, Nat.le_trans hsW ho.size⟩
  · rintro c pre S W W' ⟨rfl, hI, hst, hp0, hsW⟩ ho
    exact ⟨rfl, hI.oth ho (by omega) (by omega), hst, hp0, Nat.le_trans hsW ho.size⟩
  · rintro k (rfl | hk)
    · exact ⟨fun hr => by rcases hr with hr | hr <;> omega, by omega⟩
    · simp [Value.ownBlock] at hk
  · exact ⟨⟨none, 0, 0, [], rfl, hb3, hb5, OwnsK.nil _ _ _ _, hbR⟩, NoStop.zero _, Nat.le_refl _⟩
  · rintro x9 a' W W' ⟨lo, ln, lc, rfl⟩ hx
    exact ⟨lo, ln, lc, rfl⟩
end Go.Proofs.YtlmjkbdodecbmaaGreatDoor

namespace Go.Proofs.YtlmjkbdodecbmaaGreatDoor
open Go.RowKit Go.Shelf
set_option linter.unusedVariables false
set_option linter.unusedSimpArgs false
attribute [local go_sem] field_nat
theorem two_sz : twoT.nodes.length + (twoT.nodes.map fun x => x.kids.length).sum ≤ 1500 := by decide
theorem two_sm : ∀ x ∈ twoT.nodes, SmN x := by
  intro x hx
  have h9 : x = ⟨.mk 1 0 [] [], [], [], [1, 2], -1⟩ ∨ x = ⟨.mk 3 0 [⟨1, [53], []⟩] [], [49], [], [], -1⟩ ∨ x = ⟨.mk 7 0 [⟨1, [53], []⟩] [], [50], [], [], -1⟩ := by
    have : x ∈ [(⟨.mk 1 0 [] [], [], [], [1, 2], -1⟩ : TN), ⟨.mk 3 0 [⟨1, [53], []⟩] [], [49], [], [], -1⟩, ⟨.mk 7 0 [⟨1, [53], []⟩] [], [50], [], [], -1⟩] := hx
    simpa using this
  rcases h9 with rfl | rfl | rfl
  · exact ⟨by decide, by decide, by decide, SmP.mk (by decide) (by decide) (by simp) (by simp), by decide⟩
  · exact ⟨by decide, by decide, by decide, SmP.mk (by decide) (by decide) (by simp) (by simp), by decide⟩
  · exact ⟨by decide, by decide, by decide, SmP.mk (by decide) (by decide) (by simp) (by simp), by decide⟩
theorem valid_two (no : Option Addr) (nc B : Nat) (fo : Option Addr) (w : World) (hT : Hid (TrIs B w twoT no nc)) (hB : B ≤ w.heap.size) (hf : Hid (Flds w fo [⟨fldX, none, 0⟩])) :
    Calls Tryz.prog 19 #[.agg #[.slice no twoT.nodes.length nc, .int .i64 twoT.ms, .int .i64 twoT.nt], .slice fo 1 1] w fun e w' => e = .returned (.bool true) ∧ Below w.heap.size w w' :=
  tvalid_any twoT no nc B fo 1 [⟨fldX, none, 0⟩] true w hT.out hB two_sz (Lib.hid two_sm) hf (by decide) (Lib.hid two_valid.symm)
theorem valid_none (fo : Option Addr) (w : World) (hf : Hid (Flds w fo [⟨fldX, none, 0⟩])) :
    Calls Tryz.prog 19 #[.agg #[.slice none 0 0, .int .i64 0, .int .i64 0], .slice fo 1 1] w fun e w' => e = .returned (.bool false) ∧ Below w.heap.size w w' :=
  tvalid_any ⟨[], 0, 0⟩ none 0 0 fo 1 [⟨fldX, none, 0⟩] false w ⟨⟨Nat.le_refl _, Nat.zero_le _⟩, fun _ => rfl, fun i n h => by simp at h⟩ (Nat.zero_le _) (by decide) (Lib.hid (by simp)) hf (by decide) (Lib.hid (none_valid _).symm)
theorem leaf_two (no : Option Addr) (nc B : Nat) (w : World) (hT : Hid (TrIs B w twoT no nc)) (hB : B ≤ w.heap.size) :
    Calls Tryz.prog 36 #[.agg #[.slice no twoT.nodes.length nc, .int .i64 twoT.ms, .int .i64 twoT.nt], .int .i64 1] w fun e w' => e = .returned (.bool true) ∧ Below w.heap.size w w' := tleaf_any twoT 1 true no nc B w hT.out hB two_sz (Lib.hid (by decide))
theorem up_two (no : Option Addr) (nc B : Nat) (w : World) (hT : Hid (TrIs B w twoT no nc)) (hB : B ≤ w.heap.size) :
    Calls Tryz.prog 37 #[.agg #[.slice no twoT.nodes.length nc, .int .i64 twoT.ms, .int .i64 twoT.nt], .int .i64 2] w fun e w' => e = .returned (.int .i64 0) ∧ Below w.heap.size w w' := tup_any twoT 2 0 no nc B w hT.out hB two_sz (Lib.hid two_up.symm)
theorem depth_two (no : Option Addr) (nc B : Nat) (w : World) (hT : Hid (TrIs B w twoT no nc)) (hB : B ≤ w.heap.size) :
    Calls Tryz.prog 21 #[.agg #[.slice no twoT.nodes.length nc, .int .i64 twoT.ms, .int .i64 twoT.nt]] w fun e w' => e = .returned (.int .i64 2) ∧ Below w.heap.size w w' := tdepth_any twoT 2 no nc B w hT.out hB two_sz (Lib.hid two_deep.symm)
theorem same_two (no mo : Option Addr) (nc mc B : Nat) (w : World) (hT : Hid (TrIs B w twoT no nc)) (hM : Hid (TrIs B w twoT mo mc)) (hB : B ≤ w.heap.size) :
    Calls Tryz.prog 20 #[.agg #[.slice no twoT.nodes.length nc, .int .i64 twoT.ms, .int .i64 twoT.nt], .agg #[.slice mo twoT.nodes.length mc, .int .i64 twoT.ms, .int .i64 twoT.nt]] w fun e w' => e = .returned (.bool true) ∧ Below w.heap.size w w' := treeSame_self twoT no mo nc mc B w hT.out hM.out hB
theorem order_two (no : Option Addr) (nc B : Nat) (w : World) (hT : TrIs B w twoT no nc) (hB : B ≤ w.heap.size) :
    Calls Tryz.prog 18 #[.agg #[.slice no twoT.nodes.length nc, .int .i64 twoT.ms, .int .i64 twoT.nt]] w fun e w' => (∃ no nc, e = .returned (.tuple #[.agg #[.slice no twoT.nodes.length nc, .int .i64 twoT.ms, .int .i64 twoT.nt], .bool true]) ∧ TrIs w'.heap.size w' twoT no nc) ∧ Below w.heap.size w w' := (torder_any twoT no nc B w hT hB two_sz (Lib.hid two_sm)).mono (by
  rintro e w' ⟨hb, ⟨h, _⟩ | ⟨_, no, nc, rfl, hT⟩⟩
  · rw [two_shape] at h; cases h
  · rw [two_order] at hT ⊢
    exact ⟨⟨no, nc, rfl, hT⟩, hb⟩)
set_option maxRecDepth 100000 in
set_option maxHeartbeats 8000000 in
/-- alive. -/
theorem alive14_any (w : World) : Calls Tryz.prog 7 #[] w fun e w' => e = .returned (.bool true) ∧ Below w.heap.size w w' := by
  obtain ⟨w0, hw0⟩ : ∃ W, W = w.alloc (.cells #[.string ⟨#[120]⟩, .int .i64 1, .slice none 0 0, .int .i64 0, .string ⟨#[]⟩, .string ⟨#[]⟩, .int .i64 2] 67) := ⟨_, rfl⟩
  have hbf : Below w.heap.size w w0 := by rw [hw0]; exact (Below.refl _ w).alloc (Nat.le_refl _) _
  obtain ⟨pf, hpf⟩ : ∃ q, q = w.heap.size := ⟨_, rfl⟩
  obtain ⟨fo, hfo⟩ : ∃ q, q = some (⟨pf, 0, none⟩ : Addr) := ⟨_, rfl⟩
  have hbF : BoxL w0 pf [.string ⟨#[120]⟩, .int .i64 1, .slice none 0 0, .int .i64 0, .string ⟨#[]⟩, .string ⟨#[]⟩, .int .i64 2] := by rw [hw0, hpf]; exact BoxL.new w _ _
  have HF : Hid (Flds w0 fo [⟨fldX, none, 0⟩]) := Lib.hid (by
    refine ⟨.inr ⟨pf, 0, hfo, hbF.lt, fun i x hi j c hj => ?_⟩, fun x hx => ?_⟩
    · cases i with
      | zero =>
        simp at hi
        subst hi
        simp only [Nat.zero_mul, Nat.zero_add]
        exact hbF.cell j c hj
      | succ i => simp at hi
    · simp at hx
      subst hx
      exact ⟨none, 0, rfl, Nat.le_refl _, Nat.zero_le _, .inl rfl⟩)
  have HW := Lib.hid hw0
  clear hw0
  go_enter Tryz.func7, Tryz.ntmps7
  go_upto_region 2 with fail
  rw [← HW.out, ← hpf, ← hfo]
  clear HW hpf hfo hbF
  go_wp2_with fail
  refine (two_any _).mono ?_
  rintro e w1 ⟨⟨n1, c1, rfl, hT⟩, hb⟩
  replace hbf := hbf.trans (hb.mono hbf.size)
  replace HF : Hid (Flds w1 fo [⟨fldX, none, 0⟩]) := Lib.hid (HF.out.below hb)
  clear hb
  have hcall := order_two n1 c1 w1.heap.size w1 hT (Nat.le_refl _)
  clear hT
  go_wp2_with fail
  refine hcall.mono ?_
  rintro e w2 ⟨⟨no, nc, rfl, hT⟩, hb⟩
  replace hbf := hbf.trans (hb.mono hbf.size)
  replace HF : Hid (Flds w2 fo [⟨fldX, none, 0⟩]) := Lib.hid (HF.out.below hb)
  clear hb hcall
  obtain ⟨w3, hw3, hb3, -, p2, hp2, hb2⟩ := boxT w2 no twoT.nodes.length nc twoT.ms twoT.nt
  obtain ⟨B, hB⟩ : ∃ B, B = w2.heap.size := ⟨_, rfl⟩
  rw [← hB] at hT
  have hBw : B ≤ w3.heap.size := by rw [hB]; exact hb3.size
  have HT : Hid (TrIs B w3 twoT no nc) := Lib.hid (hT.low (Low.of_below hb3 (by omega)))
  replace hbf := hbf.trans (hb3.mono hbf.size)
  replace HF : Hid (Flds w3 fo [⟨fldX, none, 0⟩]) := Lib.hid (HF.out.below hb3)
  have HW := Lib.hid hw3
  clear hw3 hb3 hT hB
  go_upto_region 3 with fail
  rw [← HW.out, ← hp2]
  clear HW hp2
  (try go_wp2_with fail)
  refine wp_region_seq (S := fun w' => BoxL w' p2 [.slice no twoT.nodes.length nc, .int .i64 twoT.ms, .int .i64 twoT.nt]) [(true, 1), (false, 0), (false, 2), (true, 3), (true, 4), (true, 5), (false, 6), (true, 7), (true, 8), (true, 9), (false, 10), (false, 11), (true, 12), (true, 13), (false, 14), (false, 15), (true, 16), (true, 17), (true, 18), (false, 19), (false, 20), (true, 21), (true, 22), (true, 23), (true, 24), (true, 25), (true, 26), (true, 27), (false, 28), (false, 29), (true, 30), (true, 31)] (by kernel_rfl) (by kernel_rfl) (by kernel_rfl) (by kernel_rfl) (by kernel_rfl) (fun d _ _ _ _ h => by cases d <;> exact h) hb2.drew (fun _ => ?_)
  simp only [pickOps, List.append_eq, List.cons_append, List.nil_append, List.getElem?_toArray, List.getElem?_cons_succ, List.getElem?_cons_zero]
  have hb : Below w3.heap.size w3 w3.drew := (Below.refl _ _).drew
  generalize w3.drew = wd at hb ⊢
  replace hb2 := hb2.kept hb
  replace HF : Hid (Flds _ fo [⟨fldX, none, 0⟩]) := Lib.hid (HF.out.below hb)
  replace HT : Hid (TrIs B _ twoT no nc) := Lib.hid (HT.out.low (Low.of_below hb hBw))
  replace hBw := Nat.le_trans hBw (hb).size
  replace hbf := hbf.trans (hb.mono hbf.size)
  clear hb
  repeat (first | (refine seq_take (v := ?_) (by rfl) ?_ ?_; rotate_left; (· intro w hSw; (try dsimp only at hSw); have e0 := hSw.cell 0 _ rfl; have e1 := hSw.cell 1 _ rfl; have e2 := hSw.cell 2 _ rfl; clear hSw; go_simp; all_goals with_reducible rfl); (try simp only [Act.put, List.setIfInBounds_toArray, List.set_cons_zero, List.set_cons_succ])) | (refine seq_leave (by rfl) ?_; (try simp only [Act.put, List.setIfInBounds_toArray, List.set_cons_zero, List.set_cons_succ])))
  refine seq_step (by rfl) (fun K hK => ?_)
  go_simp
  go_at_call 35
  refine (two_any _).mono ?_
  rintro e w11 ⟨⟨n11, c11, rfl, hT9⟩, hb⟩
  have HT11 := Lib.hid hT9
  clear hT9
  replace hb2 := hb2.kept hb
  replace HF : Hid (Flds _ fo [⟨fldX, none, 0⟩]) := Lib.hid (HF.out.below hb)
  replace HT : Hid (TrIs B _ twoT no nc) := Lib.hid (HT.out.low (Low.of_below hb hBw))
  replace hBw := Nat.le_trans hBw (hb).size
  replace hbf := hbf.trans (hb.mono hbf.size)
  clear hb
  first | refine hK.out _ _ hb2 (fun _ => ?_) | (go_wp2_with fail; refine hK.out _ _ hb2 (fun _ => ?_))
  clear hK K
  (try simp only [Act.put, List.setIfInBounds_toArray, List.set_cons_zero, List.set_cons_succ])
  repeat (first | (refine seq_take (v := ?_) (by rfl) ?_ ?_; rotate_left; (· intro w hSw; (try dsimp only at hSw); have e0 := hSw.cell 0 _ rfl; have e1 := hSw.cell 1 _ rfl; have e2 := hSw.cell 2 _ rfl; clear hSw; go_simp; all_goals with_reducible rfl); (try simp only [Act.put, List.setIfInBounds_toArray, List.set_cons_zero, List.set_cons_succ])) | (refine seq_leave (by rfl) ?_; (try simp only [Act.put, List.setIfInBounds_toArray, List.set_cons_zero, List.set_cons_succ])))
  refine seq_step (by rfl) (fun K hK => ?_)
  go_simp
  go_at_call 19
  (with_reducible refine (valid_two n11 c11 _ fo _ HT11 (Nat.le_refl _) HF).mono ?_)
  rintro e w12 ⟨rfl, hb⟩
  replace hb2 := hb2.kept hb
  replace HF : Hid (Flds _ fo [⟨fldX, none, 0⟩]) := Lib.hid (HF.out.below hb)
  replace HT : Hid (TrIs B _ twoT no nc) := Lib.hid (HT.out.low (Low.of_below hb hBw))
  replace hBw := Nat.le_trans hBw (hb).size
  replace hbf := hbf.trans (hb.mono hbf.size)
  clear hb
  first | refine hK.out _ _ hb2 (fun _ => ?_) | (go_wp2_with fail; refine hK.out _ _ hb2 (fun _ => ?_))
  clear hK K
  (try simp only [Act.put, List.setIfInBounds_toArray, List.set_cons_zero, List.set_cons_succ])
  repeat (first | (refine seq_take (v := ?_) (by rfl) ?_ ?_; rotate_left; (· intro w hSw; (try dsimp only at hSw); have e0 := hSw.cell 0 _ rfl; have e1 := hSw.cell 1 _ rfl; have e2 := hSw.cell 2 _ rfl; clear hSw; go_simp; all_goals with_reducible rfl); (try simp only [Act.put, List.setIfInBounds_toArray, List.set_cons_zero, List.set_cons_succ])) | (refine seq_leave (by rfl) ?_; (try simp only [Act.put, List.setIfInBounds_toArray, List.set_cons_zero, List.set_cons_succ])))
  refine seq_step (by rfl) (fun K hK => ?_)
  go_simp
  go_at_call 19
  (with_reducible refine (valid_none fo _ HF).mono ?_)
  rintro e w13 ⟨rfl, hb⟩
  replace hb2 := hb2.kept hb
  replace HF : Hid (Flds _ fo [⟨fldX, none, 0⟩]) := Lib.hid (HF.out.below hb)
  replace HT : Hid (TrIs B _ twoT no nc) := Lib.hid (HT.out.low (Low.of_below hb hBw))
  replace hBw := Nat.le_trans hBw (hb).size
  replace hbf := hbf.trans (hb.mono hbf.size)
  clear hb
  first | refine hK.out _ _ hb2 (fun _ => ?_) | (go_wp2_with fail; refine hK.out _ _ hb2 (fun _ => ?_))
  clear hK K
  (try simp only [Act.put, List.setIfInBounds_toArray, List.set_cons_zero, List.set_cons_succ])
  repeat (first | (refine seq_take (v := ?_) (by rfl) ?_ ?_; rotate_left; (· intro w hSw; (try dsimp only at hSw); have e0 := hSw.cell 0 _ rfl; have e1 := hSw.cell 1 _ rfl; have e2 := hSw.cell 2 _ rfl; clear hSw; go_simp; all_goals with_reducible rfl); (try simp only [Act.put, List.setIfInBounds_toArray, List.set_cons_zero, List.set_cons_succ])) | (refine seq_leave (by rfl) ?_; (try simp only [Act.put, List.setIfInBounds_toArray, List.set_cons_zero, List.set_cons_succ])))
  refine seq_step (by rfl) (fun K hK => ?_)
  go_simp
  go_at_call 35
  refine (two_any _).mono ?_
  rintro e w14 ⟨⟨n14, c14, rfl, hT9⟩, hb⟩
  have HT14 := Lib.hid hT9
  clear hT9
  replace hb2 := hb2.kept hb
  replace HF : Hid (Flds _ fo [⟨fldX, none, 0⟩]) := Lib.hid (HF.out.below hb)
  replace HT : Hid (TrIs B _ twoT no nc) := Lib.hid (HT.out.low (Low.of_below hb hBw))
  replace hBw := Nat.le_trans hBw (hb).size
  replace hbf := hbf.trans (hb.mono hbf.size)
  clear hb
  first | refine hK.out _ _ hb2 (fun _ => ?_) | (go_wp2_with fail; refine hK.out _ _ hb2 (fun _ => ?_))
  clear hK K
  (try simp only [Act.put, List.setIfInBounds_toArray, List.set_cons_zero, List.set_cons_succ])
  repeat (first | (refine seq_take (v := ?_) (by rfl) ?_ ?_; rotate_left; (· intro w hSw; (try dsimp only at hSw); have e0 := hSw.cell 0 _ rfl; have e1 := hSw.cell 1 _ rfl; have e2 := hSw.cell 2 _ rfl; clear hSw; go_simp; all_goals with_reducible rfl); (try simp only [Act.put, List.setIfInBounds_toArray, List.set_cons_zero, List.set_cons_succ])) | (refine seq_leave (by rfl) ?_; (try simp only [Act.put, List.setIfInBounds_toArray, List.set_cons_zero, List.set_cons_succ])))
  refine seq_step (by rfl) (fun K hK => ?_)
  go_simp
  go_at_call 36
  (with_reducible refine (leaf_two n14 c14 _ _ HT14 (Nat.le_refl _)).mono ?_)
  rintro e w15 ⟨rfl, hb⟩
  replace hb2 := hb2.kept hb
  replace HF : Hid (Flds _ fo [⟨fldX, none, 0⟩]) := Lib.hid (HF.out.below hb)
  replace HT : Hid (TrIs B _ twoT no nc) := Lib.hid (HT.out.low (Low.of_below hb hBw))
  replace hBw := Nat.le_trans hBw (hb).size
  replace hbf := hbf.trans (hb.mono hbf.size)
  clear hb
  first | refine hK.out _ _ hb2 (fun _ => ?_) | (go_wp2_with fail; refine hK.out _ _ hb2 (fun _ => ?_))
  clear hK K
  (try simp only [Act.put, List.setIfInBounds_toArray, List.set_cons_zero, List.set_cons_succ])
  repeat (first | (refine seq_take (v := ?_) (by rfl) ?_ ?_; rotate_left; (· intro w hSw; (try dsimp only at hSw); have e0 := hSw.cell 0 _ rfl; have e1 := hSw.cell 1 _ rfl; have e2 := hSw.cell 2 _ rfl; clear hSw; go_simp; all_goals with_reducible rfl); (try simp only [Act.put, List.setIfInBounds_toArray, List.set_cons_zero, List.set_cons_succ])) | (refine seq_leave (by rfl) ?_; (try simp only [Act.put, List.setIfInBounds_toArray, List.set_cons_zero, List.set_cons_succ])))
  refine seq_step (by rfl) (fun K hK => ?_)
  go_simp
  go_at_call 35
  refine (two_any _).mono ?_
  rintro e w16 ⟨⟨n16, c16, rfl, hT9⟩, hb⟩
  have HT16 := Lib.hid hT9
  clear hT9
  replace hb2 := hb2.kept hb
  replace HF : Hid (Flds _ fo [⟨fldX, none, 0⟩]) := Lib.hid (HF.out.below hb)
  replace HT : Hid (TrIs B _ twoT no nc) := Lib.hid (HT.out.low (Low.of_below hb hBw))
  replace hBw := Nat.le_trans hBw (hb).size
  replace hbf := hbf.trans (hb.mono hbf.size)
  clear hb
  first | refine hK.out _ _ hb2 (fun _ => ?_) | (go_wp2_with fail; refine hK.out _ _ hb2 (fun _ => ?_))
  clear hK K
  (try simp only [Act.put, List.setIfInBounds_toArray, List.set_cons_zero, List.set_cons_succ])
  repeat (first | (refine seq_take (v := ?_) (by rfl) ?_ ?_; rotate_left; (· intro w hSw; (try dsimp only at hSw); have e0 := hSw.cell 0 _ rfl; have e1 := hSw.cell 1 _ rfl; have e2 := hSw.cell 2 _ rfl; clear hSw; go_simp; all_goals with_reducible rfl); (try simp only [Act.put, List.setIfInBounds_toArray, List.set_cons_zero, List.set_cons_succ])) | (refine seq_leave (by rfl) ?_; (try simp only [Act.put, List.setIfInBounds_toArray, List.set_cons_zero, List.set_cons_succ])))
  refine seq_step (by rfl) (fun K hK => ?_)
  go_simp
  go_at_call 37
  (with_reducible refine (up_two n16 c16 _ _ HT16 (Nat.le_refl _)).mono ?_)
  rintro e w17 ⟨rfl, hb⟩
  replace hb2 := hb2.kept hb
  replace HF : Hid (Flds _ fo [⟨fldX, none, 0⟩]) := Lib.hid (HF.out.below hb)
  replace HT : Hid (TrIs B _ twoT no nc) := Lib.hid (HT.out.low (Low.of_below hb hBw))
  replace hBw := Nat.le_trans hBw (hb).size
  replace hbf := hbf.trans (hb.mono hbf.size)
  clear hb
  first | refine hK.out _ _ hb2 (fun _ => ?_) | (go_wp2_with fail; refine hK.out _ _ hb2 (fun _ => ?_))
  clear hK K
  (try simp only [Act.put, List.setIfInBounds_toArray, List.set_cons_zero, List.set_cons_succ])
  repeat (first | (refine seq_take (v := ?_) (by rfl) ?_ ?_; rotate_left; (· intro w hSw; (try dsimp only at hSw); have e0 := hSw.cell 0 _ rfl; have e1 := hSw.cell 1 _ rfl; have e2 := hSw.cell 2 _ rfl; clear hSw; go_simp; all_goals with_reducible rfl); (try simp only [Act.put, List.setIfInBounds_toArray, List.set_cons_zero, List.set_cons_succ])) | (refine seq_leave (by rfl) ?_; (try simp only [Act.put, List.setIfInBounds_toArray, List.set_cons_zero, List.set_cons_succ])))
  refine seq_step (by rfl) (fun K hK => ?_)
  go_simp
  go_at_call 35
  refine (two_any _).mono ?_
  rintro e w18 ⟨⟨n18, c18, rfl, hT9⟩, hb⟩
  have HT18 := Lib.hid hT9
  clear hT9
  replace hb2 := hb2.kept hb
  replace HF : Hid (Flds _ fo [⟨fldX, none, 0⟩]) := Lib.hid (HF.out.below hb)
  replace HT : Hid (TrIs B _ twoT no nc) := Lib.hid (HT.out.low (Low.of_below hb hBw))
  replace hBw := Nat.le_trans hBw (hb).size
  replace hbf := hbf.trans (hb.mono hbf.size)
  clear hb
  first | refine hK.out _ _ hb2 (fun _ => ?_) | (go_wp2_with fail; refine hK.out _ _ hb2 (fun _ => ?_))
  clear hK K
  (try simp only [Act.put, List.setIfInBounds_toArray, List.set_cons_zero, List.set_cons_succ])
  repeat (first | (refine seq_take (v := ?_) (by rfl) ?_ ?_; rotate_left; (· intro w hSw; (try dsimp only at hSw); have e0 := hSw.cell 0 _ rfl; have e1 := hSw.cell 1 _ rfl; have e2 := hSw.cell 2 _ rfl; clear hSw; go_simp; all_goals with_reducible rfl); (try simp only [Act.put, List.setIfInBounds_toArray, List.set_cons_zero, List.set_cons_succ])) | (refine seq_leave (by rfl) ?_; (try simp only [Act.put, List.setIfInBounds_toArray, List.set_cons_zero, List.set_cons_succ])))
  refine seq_step (by rfl) (fun K hK => ?_)
  go_simp
  go_at_call 21
  (with_reducible refine (depth_two n18 c18 _ _ HT18 (Nat.le_refl _)).mono ?_)
  rintro e w19 ⟨rfl, hb⟩
  replace hb2 := hb2.kept hb
  replace HF : Hid (Flds _ fo [⟨fldX, none, 0⟩]) := Lib.hid (HF.out.below hb)
  replace HT : Hid (TrIs B _ twoT no nc) := Lib.hid (HT.out.low (Low.of_below hb hBw))
  replace hBw := Nat.le_trans hBw (hb).size
  replace hbf := hbf.trans (hb.mono hbf.size)
  clear hb
  first | refine hK.out _ _ hb2 (fun _ => ?_) | (go_wp2_with fail; refine hK.out _ _ hb2 (fun _ => ?_))
  clear hK K
  (try simp only [Act.put, List.setIfInBounds_toArray, List.set_cons_zero, List.set_cons_succ])
  repeat (first | (refine seq_take (v := ?_) (by rfl) ?_ ?_; rotate_left; (· intro w hSw; (try dsimp only at hSw); have e0 := hSw.cell 0 _ rfl; have e1 := hSw.cell 1 _ rfl; have e2 := hSw.cell 2 _ rfl; clear hSw; go_simp; all_goals with_reducible rfl); (try simp only [Act.put, List.setIfInBounds_toArray, List.set_cons_zero, List.set_cons_succ])) | (refine seq_leave (by rfl) ?_; (try simp only [Act.put, List.setIfInBounds_toArray, List.set_cons_zero, List.set_cons_succ])))
  refine seq_step (by rfl) (fun K hK => ?_)
  go_simp
  go_at_call 35
  refine (two_any _).mono ?_
  rintro e w20 ⟨⟨n20, c20, rfl, hT9⟩, hb⟩
  have HT20 := Lib.hid hT9
  clear hT9
  replace hb2 := hb2.kept hb
  replace HF : Hid (Flds _ fo [⟨fldX, none, 0⟩]) := Lib.hid (HF.out.below hb)
  replace HT : Hid (TrIs B _ twoT no nc) := Lib.hid (HT.out.low (Low.of_below hb hBw))
  replace hBw := Nat.le_trans hBw (hb).size
  replace hbf := hbf.trans (hb.mono hbf.size)
  clear hb
  first | refine hK.out _ _ hb2 (fun _ => ?_) | (go_wp2_with fail; refine hK.out _ _ hb2 (fun _ => ?_))
  clear hK K
  (try simp only [Act.put, List.setIfInBounds_toArray, List.set_cons_zero, List.set_cons_succ])
  repeat (first | (refine seq_take (v := ?_) (by rfl) ?_ ?_; rotate_left; (· intro w hSw; (try dsimp only at hSw); have e0 := hSw.cell 0 _ rfl; have e1 := hSw.cell 1 _ rfl; have e2 := hSw.cell 2 _ rfl; clear hSw; go_simp; all_goals with_reducible rfl); (try simp only [Act.put, List.setIfInBounds_toArray, List.set_cons_zero, List.set_cons_succ])) | (refine seq_leave (by rfl) ?_; (try simp only [Act.put, List.setIfInBounds_toArray, List.set_cons_zero, List.set_cons_succ])))
  refine seq_step (by rfl) (fun K hK => ?_)
  go_simp
  go_at_call 20
  (with_reducible refine (same_two no n20 nc c20 _ _ (Lib.hid (HT.out.mono (by omega))) HT20 (Nat.le_refl _)).mono ?_)
  rintro e w21 ⟨rfl, hb⟩
  replace hb2 := hb2.kept hb
  replace HF : Hid (Flds _ fo [⟨fldX, none, 0⟩]) := Lib.hid (HF.out.below hb)
  replace HT : Hid (TrIs B _ twoT no nc) := Lib.hid (HT.out.low (Low.of_below hb hBw))
  replace hBw := Nat.le_trans hBw (hb).size
  replace hbf := hbf.trans (hb.mono hbf.size)
  clear hb
  first | refine hK.out _ _ hb2 (fun _ => ?_) | (go_wp2_with fail; refine hK.out _ _ hb2 (fun _ => ?_))
  clear hK K
  (try simp only [Act.put, List.setIfInBounds_toArray, List.set_cons_zero, List.set_cons_succ])
  repeat (first | (refine seq_take (v := ?_) (by rfl) ?_ ?_; rotate_left; (· intro w hSw; (try dsimp only at hSw); have e0 := hSw.cell 0 _ rfl; have e1 := hSw.cell 1 _ rfl; have e2 := hSw.cell 2 _ rfl; clear hSw; go_simp; all_goals with_reducible rfl); (try simp only [Act.put, List.setIfInBounds_toArray, List.set_cons_zero, List.set_cons_succ])) | (refine seq_leave (by rfl) ?_; (try simp only [Act.put, List.setIfInBounds_toArray, List.set_cons_zero, List.set_cons_succ])))
  refine seq_end ?_
  go_wp2_with fail
  go_ret
  exact ⟨ret_one rfl, hbf⟩
end Go.Proofs.YtlmjkbdodecbmaaGreatDoor

namespace Go.Proofs.YtlmjkbdodecbmaaGreatDoor
open Go.RowKit Go.Shelf
set_option linter.unusedVariables false
set_option linter.unusedSimpArgs false
theorem fields_t (ao : Option Addr) (cap : Nat) (xs : List FV) (b9 : Bool) (w : World) (hv : Hid (Flds w ao xs)) (hlen : Hid (xs.length ≤ 9223372036854775807)) (hl : Hid (∀ x ∈ xs, BigF x.f)) (HB : Hid (b9 = fieldsB (xs.map (·.f)))) : Calls Tryz.prog 17 #[.slice ao xs.length cap] w fun e w' => e = .returned (.bool b9) ∧ Below w.heap.size w w' := fieldsBk_any ao cap xs b9 w hv.out hlen.out hl.out HB
end Go.Proofs.YtlmjkbdodecbmaaGreatDoor

namespace Go.Proofs.YtlmjkbdodecbmaaGreatDoor
open Go.ChangeShapes Go.WideShapes Go.ChangeAt Go.RowKit Go.Deep
set_option linter.unusedVariables false
set_option maxRecDepth 100000 in
theorem laidOutN : laidOutB Tryz.prog = true := by kernel_rfl
theorem string_field {H : Type} {enc : TypeId × Value → H} {P : Program} {W : World} {base : Nat} {spare : Nat → Bool} {held : Bool} {n : Nat} {t : TypeId} {u : Value} {y : DataW H × List MemPlace} (ht : P.underlying t = some .string) (h : DataW.trod enc P W base spare held n t [u] = some y) :
    ∃ l : List UInt8, u = .string ⟨l.toArray⟩ ∧ l.length ≤ 9223372036854775807 := by
  obtain ⟨s, hs, _, hm⟩ := DataW.trod_string ht h
  obtain ⟨⟨l⟩⟩ := s
  simp at hs
  refine ⟨l, hs, ?_⟩
  unfold maxLen at hm
  have h9 : (⟨⟨l⟩⟩ : ByteArray).size = l.length := rfl
  omega
end Go.Proofs.YtlmjkbdodecbmaaGreatDoor

namespace Go.Proofs.YtlmjkbdodecbmaaGreatDoor
open Go.ChangeShapes Go.WideShapes Go.ChangeAt Go.RowKit Go.Deep
set_option linter.unusedVariables false
instance : Inhabited V3 := ⟨⟨0, [], []⟩⟩
theorem hone_at {P : Program} {t : TypeId} {fs : Array Field} (_ : P.underlying t = some (.struct fs)) (h : oneCellFields P fs = true) : ∀ (i : Nat) (f : Field), fs[i]? = some f → f.offset = i ∧ P.cellsOf f.type = 1 := fun i f hi => hone_of h i f hi
end Go.Proofs.YtlmjkbdodecbmaaGreatDoor
