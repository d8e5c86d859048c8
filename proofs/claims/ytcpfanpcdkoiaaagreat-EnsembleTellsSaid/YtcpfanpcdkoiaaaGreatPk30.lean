/-
  Pk30: BookH BookX (what is needed of them).
-/
import Derived.Test.YtcpfanpcdkoiaaaGreatPk15
import Derived.Test.YtcpfanpcdkoiaaaGreatPk29
import Derived.Deep.RegionHeld
set_option maxRecDepth 100000
set_option linter.unusedVariables false
set_option linter.unusedSimpArgs false

namespace Go.Proofs.YtcpfanpcdkoiaaaGreat
open Go.RowKit Go.Shelf


theorem VView.keep {S : Nat → Prop} {w W : World} {v : Value} {xs : List Value} (h : VView w v xs) (hk : Keep S w W) (hS : ∀ g, v.ownBlock = some g → ¬ S g) : VView W v xs := by
 obtain ⟨ao, cap, rfl, h2, h3, h4⟩ := h
 refine ⟨ao, cap, rfl, h2, h3, fun i x hx => ?_⟩
 obtain ⟨b, e1, e2, e3⟩ := h4 i x hx
 exact ⟨b, e1, Nat.lt_of_lt_of_le e2 hk.size, hk.cell (hS b (by rw [e1]; rfl)) e3⟩
theorem GrowAt.ints {Bs W0 : Nat} {w0 w : World} {i n c : Nat} {v lv : Value} (h : GrowAt Bs W0 w i n c v lv) (hv : Owns Bs 3 w0 v (ivals .i64 (markI i 0 n))) (hlt : ∀ g, v.ownBlock = some g → g < w.heap.size) : IntsI .i64 w v (markI i 0 n) := by
 rcases hv.shape with ⟨rfl, h0⟩ | ⟨g, cap, rfl, _, _, k3, k4, _, _⟩
 ·have h1 := congrArg List.length h0
  rw [ivals_length] at h1
  have h2 : markI i 0 n = [] := List.eq_nil_of_length_eq_zero h1
  rw [h2]
  exact ⟨none, 0, rfl, Nat.le_refl _, Nat.zero_le _, .inl rfl⟩
 ·rw [ivals_length] at k3 ⊢
  refine ⟨_, cap, rfl, k3, k4, .inr ⟨g, 0, rfl, hlt g rfl, fun j hj => ?_⟩⟩
  rw [Nat.zero_add, h.old g rfl j (by rw [markI_len] at hj; exact hj)]
  unfold ivals
  rw [List.getElem?_map, List.getElem?_eq_getElem hj]; rfl
set_option maxHeartbeats 4000000 in
theorem apart_ints (Bs p : Nat) (bi bw : Value) (vs us : List Value) (ls : List (List Int)) (w : World) (hbx : BoxL w p [.slice none 0 0, .slice none 0 0, bi, bw, .slice none 0 0, .slice none 0 0, .slice none 0 0, .slice none 0 0, .slice none 0 0, .slice none 0 0, .slice none 0 0, .slice none 0 0]) (hV : VView w bi vs) (hU : VView w bw us) (hlv : vs.length = ls.length) (hlu : us.length = ls.length) (hm : vs.length ≤ 250) (hB : Bs ≤ w.heap.size)
  (hr : ∀ (i : Nat) (v : Value) (ns : List Int), vs[i]? = some v → ls[i]? = some ns → Owns Bs 3 w v (ivals .i64 ns) ∧ ns.length ≤ 1000000) (hs : ∀ (i : Nat) (v : Value) (ns : List Int), us[i]? = some v → ls[i]? = some ns → Owns Bs 3 w v (ivals .i64 ns))
  (hap : ∀ (i j : Nat) (v u : Value) (g : Nat), vs[i]? = some v → vs[j]? = some u → v.ownBlock = some g → u.ownBlock = some g → i = j) (hp : ¬ OfL vs p) (hbS : ∀ g, bi.ownBlock = some g → ¬ OfL vs g) :
  Calls Tryz.prog 25 #[.pointer (some ⟨p, 0, none⟩)] w fun e w' => e = .returned (.bool true) ∧ Below Bs w w' := by
 have hSB : ∀ k, OfL vs k → Bs ≤ k := fun k ⟨i, v, h1, h2⟩ => by
  have hi := (List.getElem?_eq_some_iff.1 h1).1
  exact (OwnsK.lt (K := 1) (hr i v _ h1 (List.getElem?_eq_getElem (by omega))).1 k h2).1
 have HR := Lib.hid hr
 have HS := Lib.hid hs
 clear hr hs
 have hbf : Below w.heap.size w w := Below.refl _ _
 obtain ⟨w0, hw0⟩ : ∃ x, x = w := ⟨_, rfl⟩
 skip
 go_enter Tryz.func25, Tryz.ntmps25
 go_upto_region 1 with fail
 go_upto_region 3 with (go_at_call 57; (with_reducible refine (stillTexts_no p w (hbx.cell 0 _ rfl)).mono ?_); rintro e9 v1 ⟨rfl, hb⟩)
 replace hbx := hbx.kept hb
 replace hV := hV.below hb
 replace hbf := hbf.trans (hb.mono hbf.size)
 clear hb
 have hst := stillInts_any p bi bw vs us ls v1 (hbx.cell 2 _ rfl) (hbx.cell 3 _ rfl) hV (hU.below hbf) hlv hlu (fun i v ns h1 h2 => ((ints_of_owns (HR.out i v ns h1 h2).1).1).below hbf) (fun i v ns h1 h2 => ((ints_of_owns (HS.out i v ns h1 h2)).1).below hbf)
 go_upto_region 5 with (go_at_call 58; (with_reducible refine (hst).mono ?_); rintro e9 v2 ⟨rfl, hb⟩)
 replace hbx := hbx.kept hb
 replace hV := hV.below hb
 replace hbf := hbf.trans (hb.mono hbf.size)
 clear hb
 clear hst hU HS
 go_upto_region 7 with (go_at_call 59; (with_reducible refine (stillPats_no p v2 (hbx.cell 4 _ rfl)).mono ?_); rintro e9 v3 ⟨rfl, hb⟩)
 replace hbx := hbx.kept hb
 replace hV := hV.below hb
 replace hbf := hbf.trans (hb.mono hbf.size)
 clear hb
 go_upto_region 9 with (go_at_call 60; (with_reducible refine (stillDiags_no p v3 (hbx.cell 6 _ rfl)).mono ?_); rintro e9 v4 ⟨rfl, hb⟩)
 replace hbx := hbx.kept hb
 replace hV := hV.below hb
 replace hbf := hbf.trans (hb.mono hbf.size)
 clear hb
 go_upto_region 11 with (go_at_call 61; (with_reducible refine (stillValues_no p v4 (hbx.cell 8 _ rfl)).mono ?_); rintro e9 v5 ⟨rfl, hb⟩)
 replace hbx := hbx.kept hb
 replace hV := hV.below hb
 replace hbf := hbf.trans (hb.mono hbf.size)
 clear hb
 go_upto_region 13 with (go_at_call 62; (with_reducible refine (stillSteps_no p v5 (hbx.cell 10 _ rfl)).mono ?_); rintro e9 v6 ⟨rfl, hb⟩)
 replace hbx := hbx.kept hb
 replace hV := hV.below hb
 replace hbf := hbf.trans (hb.mono hbf.size)
 clear hb
 go_upto_region 14 with (go_at_call 63; (with_reducible refine (putSteps_no p v6 (hbx.cell 10 _ rfl)).mono ?_); rintro e9 v7 ⟨rfl, hb⟩)
 replace hbx := hbx.kept hb
 replace hV := hV.below hb
 replace hbf := hbf.trans (hb.mono hbf.size)
 clear hb
 go_upto_region 15 with (go_at_call 64; (with_reducible refine (putTexts_no p v7 (hbx.cell 0 _ rfl)).mono ?_); rintro e9 v8 ⟨rfl, hb⟩)
 replace hbx := hbx.kept hb
 replace hV := hV.below hb
 replace hbf := hbf.trans (hb.mono hbf.size)
 clear hb
 have hpt := putInts_any Bs p bi vs ls v8 (hbx.cell 2 _ rfl) hV hlv (by omega) (Nat.le_trans hB hbf.size) (fun i v ns h1 h2 => ⟨Owns.kept (HR.out i v ns h1 h2).1 hbf, (HR.out i v ns h1 h2).2⟩) hap hp hbS
 go_upto_region 16 with (go_at_call 65; (with_reducible refine (hpt).mono ?_); rintro e9 v9 ⟨rfl, hM, hK⟩)
 clear hpt
 have hPW : Below Bs v8 v9 := hK.below hSB (Nat.le_trans hB hbf.size)
 have hB2 : Below Bs w v9 := ((⟨hbf.os, hbf.tape, hbf.output, hbf.size, fun k hk => hbf.block k (by omega)⟩ : Below Bs w v8)).trans hPW
 replace hV := hV.keep hK hbS
 replace hbx := hbx.keep hK hp
 have hszB : Bs ≤ v9.heap.size := Nat.le_trans (Nat.le_trans hB hbf.size) hK.size
 have HM := Lib.hid hM
 clear hbf hM hK hPW
 have hbf : Below v9.heap.size v9 v9 := Below.refl _ _
 obtain ⟨wp, hwp⟩ : ∃ x, x = v9 := ⟨_, rfl⟩
 subst hwp
 go_upto_region 17 with (go_at_call 66; (with_reducible refine (putPats_no p wp (hbx.cell 4 _ rfl)).mono ?_); rintro e9 v10 ⟨rfl, hb⟩)
 replace hbx := hbx.kept hb
 replace hV := hV.below hb
 replace hbf := hbf.trans (hb.mono hbf.size)
 clear hb
 go_upto_region 18 with (go_at_call 67; (with_reducible refine (putDiags_no p v10 (hbx.cell 6 _ rfl)).mono ?_); rintro e9 v11 ⟨rfl, hb⟩)
 replace hbx := hbx.kept hb
 replace hV := hV.below hb
 replace hbf := hbf.trans (hb.mono hbf.size)
 clear hb
 go_upto_region 19 with (go_at_call 68; (with_reducible refine (putValues_no p v11 (hbx.cell 8 _ rfl)).mono ?_); rintro e9 v12 ⟨rfl, hb⟩)
 replace hbx := hbx.kept hb
 replace hV := hV.below hb
 replace hbf := hbf.trans (hb.mono hbf.size)
 clear hb
 go_upto_region 20 with (go_at_call 69; (with_reducible refine (growTexts_no p v12 (hbx.cell 0 _ rfl)).mono ?_); rintro e9 v13 ⟨rfl, hb⟩)
 replace hbx := hbx.kept hb
 replace hV := hV.below hb
 replace hbf := hbf.trans (hb.mono hbf.size)
 clear hb
 have hgw := growInts_any Bs p bi vs (ls.map List.length) v13 (hbx.cell 2 _ rfl) hV (by rw [List.length_map]; exact hlv) (by omega) (Nat.le_trans hszB hbf.size) (fun i v n h1 h2 => by
  rw [List.getElem?_map] at h2
  cases hq : ls[i]? with
  | none => rw [hq] at h2; cases h2
  | some ns =>
   rw [hq] at h2
   have h3 : ns.length = n := Option.some.inj h2
   subst h3
   exact ⟨Owns.kept (HM.out i v ns h1 hq) hbf, (HR.out i v ns h1 hq).2⟩) hap hp hbS
 go_upto_region 21 with (go_at_call 70; (with_reducible refine (hgw).mono ?_); rintro e9 v14 ⟨gr, os, rfl, hOg, hol, hGL, hK⟩)
 clear hgw
 have hV0 := hV
 replace hV := hV.keep hK hbS
 replace hbx := hbx.keep hK hp
 have hB3 : Below Bs w v14 := (hB2.trans (⟨hbf.os, hbf.tape, hbf.output, hbf.size, fun k hk => hbf.block k (by omega)⟩ : Below Bs wp v13)).trans (hK.below hSB (Nat.le_trans hszB hbf.size))
 have hVG := hV
 have hVg := VView.of hOg
 have hwpl : wp.heap.size ≤ v14.heap.size := Nat.le_trans hbf.size hK.size
 have HGL := Lib.hid hGL
 clear hbf hK hOg hB2 hGL
 have hbf : Below v14.heap.size v14 v14 := Below.refl _ _
 obtain ⟨wg, hwg⟩ : ∃ x, x = v14 := ⟨_, rfl⟩
 subst hwg
 go_upto_region 22 with (go_at_call 71; (with_reducible refine (growPats_no p wg (hbx.cell 4 _ rfl)).mono ?_); rintro e9 v15 ⟨rfl, hb⟩)
 replace hbx := hbx.kept hb
 replace hV := hV.below hb
 replace hbf := hbf.trans (hb.mono hbf.size)
 clear hb
 go_upto_region 23 with (go_at_call 72; (with_reducible refine (growDiags_no p v15 (hbx.cell 6 _ rfl)).mono ?_); rintro e9 v16 ⟨rfl, hb⟩)
 replace hbx := hbx.kept hb
 replace hV := hV.below hb
 replace hbf := hbf.trans (hb.mono hbf.size)
 clear hb
 go_upto_region 24 with (go_at_call 73; (with_reducible refine (growValues_no p v16 (hbx.cell 8 _ rfl)).mono ?_); rintro e9 v17 ⟨rfl, hb⟩)
 replace hbx := hbx.kept hb
 replace hV := hV.below hb
 replace hbf := hbf.trans (hb.mono hbf.size)
 clear hb
 have HNS := Lib.hid hol
 clear hol
 have hg1 : ∀ W, Below wg.heap.size wg W → Calls Tryz.prog 76 #[gr] W fun e w9 => e = .returned (.bool true) ∧ Below W.heap.size W w9 := fun W hW => markedInts_any gr os (ls.map fun l => l.length + 72) W (hVg.below hW) (by rw [HNS.out, List.length_map]; exact hlv) (by rw [HNS.out]; omega) (fun i o n h1 h2 => by
  rw [List.getElem?_map] at h2
  cases hq : ls[i]? with
  | none => rw [hq] at h2; cases h2
  | some ns =>
   rw [hq] at h2
   have h3 : ns.length + 72 = n := Option.some.inj h2
   subst h3
   have hil : i < vs.length := by have := (List.getElem?_eq_some_iff.1 hq).1; omega
   have hvi := List.getElem?_eq_getElem hil
   have hga := HGL.out.done i _ ns.length o hvi (by rw [List.getElem?_map, hq]; rfl) h1 hil
   exact ⟨((ints_of_owns hga.own).1).below hW, by have := (HR.out i _ ns hvi hq).2; omega⟩)
 have hg2 : ∀ W, Below wg.heap.size wg W → Calls Tryz.prog 76 #[bi] W fun e w9 => e = .returned (.bool true) ∧ Below W.heap.size W w9 := fun W hW => markedInts_any bi vs (ls.map List.length) W (hVG.below hW) (by rw [List.length_map]; exact hlv) (by omega) (fun i v n h1 h2 => by
  rw [List.getElem?_map] at h2
  cases hq : ls[i]? with
  | none => rw [hq] at h2; cases h2
  | some ns =>
   rw [hq] at h2
   have h3 : ns.length = n := Option.some.inj h2
   subst h3
   have hil : i < os.length := by rw [HNS.out]; exact (List.getElem?_eq_some_iff.1 h1).1
   have hoi := List.getElem?_eq_getElem hil
   have hga := HGL.out.done i v ns.length _ h1 (by rw [List.getElem?_map, hq]; rfl) hoi (List.getElem?_eq_some_iff.1 h1).1
   have hmo := HM.out i v ns h1 hq
   exact ⟨(hga.ints hmo (fun g hg => Nat.lt_of_lt_of_le (OwnsK.lt (K := 1) hmo g hg).2 hwpl)).below hW, by have := (HR.out i v ns h1 hq).2; omega⟩)
 have HG1 := Lib.hid hg1
 have HG2 := Lib.hid hg2
 clear hg1 hg2 HM HGL hV hVg HNS
 go_wp2_with fail
 (with_reducible refine (growSteps_no p _ (hbx.cell 10 _ rfl)).mono ?_)
 rintro e9 v19 ⟨rfl, hb⟩
 replace hbx := hbx.kept hb
 replace hbf := hbf.trans (hb.mono hbf.size)
 clear hb
 have c0 := hbx.cell 0 _ rfl
 have c2 := hbx.cell 2 _ rfl
 have c4 := hbx.cell 4 _ rfl
 have c6 := hbx.cell 6 _ rfl
 have c8 := hbx.cell 8 _ rfl
 have c10 := hbx.cell 10 _ rfl
 go_wp2_with fail
 (with_reducible refine (markedTexts_no _).mono ?_)
 rintro e9 v20 ⟨rfl, hb⟩
 clear c0 c2 c4 c6 c8 c10
 replace hbx := hbx.kept hb
 replace hbf := hbf.trans (hb.mono hbf.size)
 clear hb
 have c0 := hbx.cell 0 _ rfl
 have c2 := hbx.cell 2 _ rfl
 have c4 := hbx.cell 4 _ rfl
 have c6 := hbx.cell 6 _ rfl
 have c8 := hbx.cell 8 _ rfl
 have c10 := hbx.cell 10 _ rfl
 go_wp2_with fail
 simp only [List.append_eq, List.cons_append, List.nil_append]
 go_wp2_with fail
 (with_reducible refine (markedTexts_no _).mono ?_)
 rintro e9 v21 ⟨rfl, hb⟩
 clear c0 c2 c4 c6 c8 c10
 replace hbx := hbx.kept hb
 replace hbf := hbf.trans (hb.mono hbf.size)
 clear hb
 have c0 := hbx.cell 0 _ rfl
 have c2 := hbx.cell 2 _ rfl
 have c4 := hbx.cell 4 _ rfl
 have c6 := hbx.cell 6 _ rfl
 have c8 := hbx.cell 8 _ rfl
 have c10 := hbx.cell 10 _ rfl
 go_wp2_with fail
 (with_reducible refine (HG1.out _ hbf).mono ?_)
 rintro e9 v22 ⟨rfl, hb⟩
 clear c0 c2 c4 c6 c8 c10
 replace hbx := hbx.kept hb
 replace hbf := hbf.trans (hb.mono hbf.size)
 clear hb
 have c0 := hbx.cell 0 _ rfl
 have c2 := hbx.cell 2 _ rfl
 have c4 := hbx.cell 4 _ rfl
 have c6 := hbx.cell 6 _ rfl
 have c8 := hbx.cell 8 _ rfl
 have c10 := hbx.cell 10 _ rfl
 go_wp2_with fail
 (with_reducible refine (HG2.out _ hbf).mono ?_)
 rintro e9 v23 ⟨rfl, hb⟩
 clear c0 c2 c4 c6 c8 c10
 replace hbx := hbx.kept hb
 replace hbf := hbf.trans (hb.mono hbf.size)
 clear hb
 have c0 := hbx.cell 0 _ rfl
 have c2 := hbx.cell 2 _ rfl
 have c4 := hbx.cell 4 _ rfl
 have c6 := hbx.cell 6 _ rfl
 have c8 := hbx.cell 8 _ rfl
 have c10 := hbx.cell 10 _ rfl
 go_wp2_with fail
 (with_reducible refine (markedPats_no _).mono ?_)
 rintro e9 v24 ⟨rfl, hb⟩
 clear c0 c2 c4 c6 c8 c10
 replace hbx := hbx.kept hb
 replace hbf := hbf.trans (hb.mono hbf.size)
 clear hb
 have c0 := hbx.cell 0 _ rfl
 have c2 := hbx.cell 2 _ rfl
 have c4 := hbx.cell 4 _ rfl
 have c6 := hbx.cell 6 _ rfl
 have c8 := hbx.cell 8 _ rfl
 have c10 := hbx.cell 10 _ rfl
 go_wp2_with fail
 (with_reducible refine (markedPats_no _).mono ?_)
 rintro e9 v25 ⟨rfl, hb⟩
 clear c0 c2 c4 c6 c8 c10
 replace hbx := hbx.kept hb
 replace hbf := hbf.trans (hb.mono hbf.size)
 clear hb
 have c0 := hbx.cell 0 _ rfl
 have c2 := hbx.cell 2 _ rfl
 have c4 := hbx.cell 4 _ rfl
 have c6 := hbx.cell 6 _ rfl
 have c8 := hbx.cell 8 _ rfl
 have c10 := hbx.cell 10 _ rfl
 go_wp2_with fail
 (with_reducible refine (markedDiags_no _).mono ?_)
 rintro e9 v26 ⟨rfl, hb⟩
 clear c0 c2 c4 c6 c8 c10
 replace hbx := hbx.kept hb
 replace hbf := hbf.trans (hb.mono hbf.size)
 clear hb
 have c0 := hbx.cell 0 _ rfl
 have c2 := hbx.cell 2 _ rfl
 have c4 := hbx.cell 4 _ rfl
 have c6 := hbx.cell 6 _ rfl
 have c8 := hbx.cell 8 _ rfl
 have c10 := hbx.cell 10 _ rfl
 go_wp2_with fail
 (with_reducible refine (markedDiags_no _).mono ?_)
 rintro e9 v27 ⟨rfl, hb⟩
 clear c0 c2 c4 c6 c8 c10
 replace hbx := hbx.kept hb
 replace hbf := hbf.trans (hb.mono hbf.size)
 clear hb
 have c0 := hbx.cell 0 _ rfl
 have c2 := hbx.cell 2 _ rfl
 have c4 := hbx.cell 4 _ rfl
 have c6 := hbx.cell 6 _ rfl
 have c8 := hbx.cell 8 _ rfl
 have c10 := hbx.cell 10 _ rfl
 go_wp2_with fail
 (with_reducible refine (markedValues_no _).mono ?_)
 rintro e9 v28 ⟨rfl, hb⟩
 clear c0 c2 c4 c6 c8 c10
 replace hbx := hbx.kept hb
 replace hbf := hbf.trans (hb.mono hbf.size)
 clear hb
 have c0 := hbx.cell 0 _ rfl
 have c2 := hbx.cell 2 _ rfl
 have c4 := hbx.cell 4 _ rfl
 have c6 := hbx.cell 6 _ rfl
 have c8 := hbx.cell 8 _ rfl
 have c10 := hbx.cell 10 _ rfl
 go_wp2_with fail
 (with_reducible refine (markedValues_no _).mono ?_)
 rintro e9 v29 ⟨rfl, hb⟩
 clear c0 c2 c4 c6 c8 c10
 replace hbx := hbx.kept hb
 replace hbf := hbf.trans (hb.mono hbf.size)
 clear hb
 have c0 := hbx.cell 0 _ rfl
 have c2 := hbx.cell 2 _ rfl
 have c4 := hbx.cell 4 _ rfl
 have c6 := hbx.cell 6 _ rfl
 have c8 := hbx.cell 8 _ rfl
 have c10 := hbx.cell 10 _ rfl
 go_wp2_with fail
 (with_reducible refine (markedSteps_no _).mono ?_)
 rintro e9 v30 ⟨rfl, hb⟩
 clear c0 c2 c4 c6 c8 c10
 replace hbx := hbx.kept hb
 replace hbf := hbf.trans (hb.mono hbf.size)
 clear hb
 have c0 := hbx.cell 0 _ rfl
 have c2 := hbx.cell 2 _ rfl
 have c4 := hbx.cell 4 _ rfl
 have c6 := hbx.cell 6 _ rfl
 have c8 := hbx.cell 8 _ rfl
 have c10 := hbx.cell 10 _ rfl
 go_wp2_with fail
 (with_reducible refine (markedSteps_no _).mono ?_)
 rintro e9 v31 ⟨rfl, hb⟩
 clear c0 c2 c4 c6 c8 c10
 replace hbx := hbx.kept hb
 replace hbf := hbf.trans (hb.mono hbf.size)
 clear hb
 have c0 := hbx.cell 0 _ rfl
 have c2 := hbx.cell 2 _ rfl
 have c4 := hbx.cell 4 _ rfl
 have c6 := hbx.cell 6 _ rfl
 have c8 := hbx.cell 8 _ rfl
 have c10 := hbx.cell 10 _ rfl
 go_wp2_with fail
 go_ret
 exact ⟨rfl, hB3.trans (⟨hbf.os, hbf.tape, hbf.output, hbf.size, fun k hk => hbf.block k (Nat.lt_of_lt_of_le hk (Nat.le_trans hszB hwpl))⟩)⟩
end Go.Proofs.YtcpfanpcdkoiaaaGreat

namespace Go.Proofs.YtcpfanpcdkoiaaaGreat
open Go.RowKit Go.Shelf


def icel (ns : List Int) : List Value := ns.map (Value.int .i64)
theorem step_appendKs {P : Program} {t e : TypeId} {z : Value} {K bytes : Nat} (E : ElemK P t e z K bytes) {w : World} {o : Oper} {a : Act} {Kn : Act → World → Prop} {Q : Exit → Act → World → Prop} {s x : Operand} {us : List Value} {base n : Nat} {v : Value} {xs : List Value} {ad : Addr}
  (hown : OwnsK K base e w v n xs) (ho : o.op = .call { callee := .builtin .append, args := #[s, x], argTypes := #[t, t] }) (hs : a.eval s = v) (hx : a.eval x = .slice (some ad) 1 1) (hul : us.length = K) (hu : ∀ j u', us[j]? = some u' → w.cell? (ad.add j) = some u') (h1 : ∀ u ∈ us, u.oneCell' = true) (hl : (n + 1) * bytes ≤ 140737488355328) (hm : n + 1 ≤ maxLen) (hbase : base ≤ w.heap.size)
  (h : ∀ v' w', OwnsK K base e w' v' (n + 1) (xs ++ us) → w.grownBy w' v.ownBlock → (∀ g, v'.ownBlock = some g → v.ownBlock = some g ∨ w.heap.size ≤ g) → Kn (a.put o.dst v') w') : Oper.wp P o a w Kn Q := by
 obtain ⟨v', w', hrun, r1, r2, r3, r4⟩ := run_appendK E o.type hown ad 1 us hul hu h1 hl hm hbase
 unfold Oper.wp
 simp [execOp, ho, resolve, invoke, builtin, hs, hx, hrun, Result.andThen]
 exact h _ _ r1 r2 r3
theorem E_rowsI : ElemK Tryz.prog 25 53 (.slice none 0 0) 1 24 := elemK_of Tryz.underlying25 (by kernel_rfl) rfl (by decide)
structure RowsL (D : Nat) (w : World) (v : Value) (xs : List Value) (R : List (List Int)) : Prop where
 own : OwnsK 1 D 53 w v R.length xs
 row : ∀ (i : Nat) (u : Value) (ns : List Int), xs[i]? = some u → R[i]? = some ns → OwnsK 1 D 3 w u ns.length (icel ns)
 ap : ∀ (i j : Nat) (v u : Value) (g : Nat), xs[i]? = some v → xs[j]? = some u → v.ownBlock = some g → u.ownBlock = some g → i = j
 ne : ∀ k, OfL xs k → v.ownBlock ≠ some k
theorem RowsL.nil (D : Nat) (w : World) : RowsL D w (.slice none 0 0) [] [] :=
 ⟨OwnsK.nil _ _ _ _, fun i u ns h => by simp at h, fun i j v u g h => by simp at h, fun k ⟨i, v, h, _⟩ => by simp at h⟩
theorem RowsL.len {D : Nat} {w : World} {v : Value} {xs : List Value} {R : List (List Int)} (h : RowsL D w v xs R) : xs.length = R.length := by have := h.own.len; rw [Nat.mul_one] at this; exact this
theorem RowsL.lt {D : Nat} {w : World} {v : Value} {xs : List Value} {R : List (List Int)} (h : RowsL D w v xs R) {k : Nat} (hk : v.ownBlock = some k ∨ OfL xs k) : D ≤ k ∧ k < w.heap.size := by
 rcases hk with hk | ⟨i, u, h1, h2⟩
 ·exact h.own.lt k hk
 ·have hi := (List.getElem?_eq_some_iff.1 h1).1
  have := h.len
  exact (h.row i u _ h1 (List.getElem?_eq_getElem (by omega))).lt k h2
theorem RowsL.keep {S : Nat → Prop} {D : Nat} {w w' : World} {v : Value} {xs : List Value} {R : List (List Int)} (h : RowsL D w v xs R) (hk : Keep S w w') (hS : ∀ k, v.ownBlock = some k ∨ OfL xs k → ¬ S k) : RowsL D w' v xs R :=
 ⟨h.own.keep hk fun g hg => hS g (.inl hg), fun i u ns h1 h2 => (h.row i u ns h1 h2).keep hk fun g hg => hS g (.inr ⟨i, u, h1, hg⟩), h.ap, h.ne⟩
theorem RowsL.kept {D : Nat} {w w' : World} {v : Value} {xs : List Value} {R : List (List Int)} (h : RowsL D w v xs R) (hb : Below w.heap.size w w') : RowsL D w' v xs R :=
 h.keep (Keep.of_below (S := fun _ => False) hb) fun _ _ h => h
theorem RowsL.mono {D D' : Nat} {w : World} {v : Value} {xs : List Value} {R : List (List Int)} (h : RowsL D w v xs R) (hD : D' ≤ D) : RowsL D' w v xs R :=
 ⟨h.own.mono hD, fun i u ns h1 h2 => (h.row i u ns h1 h2).mono hD, h.ap, h.ne⟩
theorem snoc_inv {α : Type} {xs : List α} {r u : α} {i : Nat} (h : (xs ++ [r])[i]? = some u) : (i < xs.length ∧ xs[i]? = some u) ∨ (i = xs.length ∧ u = r) := by
 rcases Nat.lt_or_ge i xs.length with h3 | h3
 ·rw [List.getElem?_append_left h3] at h
  exact .inl ⟨h3, h⟩
 ·rw [List.getElem?_append_right h3] at h
  cases hi9 : i - xs.length with
  | zero =>
   rw [hi9] at h
   exact .inr ⟨by omega, (Option.some.inj h).symm⟩
  | succ j => rw [hi9] at h; simp at h
theorem OfL.snoc {xs : List Value} {r : Value} {k : Nat} (h : OfL (xs ++ [r]) k) : OfL xs k ∨ r.ownBlock = some k := by
 obtain ⟨i, v, h1, h2⟩ := h
 rcases snoc_inv h1 with ⟨_, h3⟩ | ⟨_, rfl⟩
 ·exact .inl ⟨i, v, h3, h2⟩
 ·exact .inr h2
theorem RowsL.snoc {D : Nat} {w w' : World} {v v' r : Value} {xs : List Value} {R : List (List Int)} {ns : List Int} (h : RowsL D w v xs R) (ho : OwnsK 1 D 53 w' v' (R.length + 1) (xs ++ [r])) (hg : w.grownBy w' v.ownBlock) (hn : ∀ g, v'.ownBlock = some g → v.ownBlock = some g ∨ w.heap.size ≤ g)
  (hr : OwnsK 1 D 3 w r ns.length (icel ns)) (hr1 : ∀ k, r.ownBlock = some k → v.ownBlock ≠ some k ∧ ¬ OfL xs k) : RowsL D w' v' (xs ++ [r]) (R ++ [ns]) := by
 have hK : Keep (fun k => v.ownBlock = some k) w w' := ⟨hg.os, hg.tape, hg.output, hg.size, fun k hk hs => hg.block k hk (fun e => hs e.symm)⟩
 have hl := h.len
 refine ⟨by rw [List.length_append, List.length_singleton]; exact ho, fun i u ms h1 h2 => ?_, fun i j a b g h1 h2 h3 h4 => ?_, fun k hk e => ?_⟩
 ·rcases snoc_inv h1 with ⟨h5, h6⟩ | ⟨h5, rfl⟩
  ·rw [List.getElem?_append_left (by omega)] at h2
   exact (h.row i u ms h6 h2).keep hK fun g hg9 e => h.ne g ⟨i, u, h6, hg9⟩ e
  ·rw [h5, hl, List.getElem?_concat_length] at h2
   cases h2
   exact hr.keep hK fun g hg9 e => (hr1 g hg9).1 e
 ·rcases snoc_inv h1 with ⟨a1, a2⟩ | ⟨a1, rfl⟩
  ·rcases snoc_inv h2 with ⟨b1, b2⟩ | ⟨b1, rfl⟩
   ·exact h.ap i j a b g a2 b2 h3 h4
   ·exact ((hr1 g h4).2 ⟨i, a, a2, h3⟩).elim
  ·rcases snoc_inv h2 with ⟨b1, b2⟩ | ⟨b1, rfl⟩
   ·exact ((hr1 g h3).2 ⟨j, b, b2, h4⟩).elim
   ·omega
 ·have hlt : v.ownBlock ≠ some k ∧ k < w.heap.size := by
   rcases hk.snoc with h5 | h5
   ·exact ⟨h.ne k h5, (h.lt (.inr h5)).2⟩
   ·exact ⟨(hr1 k h5).1, (hr.lt k h5).2⟩
  rcases hn k e with h5 | h5
  ·exact hlt.1 h5
  ·omega
abbrev bookC (bi bw : Value) : List Value := [.slice none 0 0, .slice none 0 0, bi, bw, .slice none 0 0, .slice none 0 0, .slice none 0 0, .slice none 0 0, .slice none 0 0, .slice none 0 0, .slice none 0 0, .slice none 0 0]
def BkIs (D kb : Nat) (S : Nat → Prop) (w : World) : Prop := ∃ (bi bw : Value) (vs us : List Value) (ls : List (List Int)), BoxL w kb (bookC bi bw) ∧ RowsL D w bi vs ls ∧ RowsL D w bw us ls ∧ ls.length ≤ 250 ∧ (∀ ns ∈ ls, ns.length ≤ 1000000) ∧ ¬ S kb ∧ (∀ k, bi.ownBlock = some k ∨ OfL vs k → S k) ∧ (∀ k, bw.ownBlock = some k ∨ OfL us k → S k) ∧ (∀ k, bi.ownBlock = some k ∨ OfL vs k → ¬ (bw.ownBlock = some k ∨ OfL us k))
theorem BkIs.keep {T : Nat → Prop} {D kb : Nat} {S : Nat → Prop} {w w' : World} (h : BkIs D kb S w) (hk : Keep T w w') (h1 : ¬ T kb) (h2 : ∀ k, S k → ¬ T k) : BkIs D kb S w' := by
 obtain ⟨bi, bw, vs, us, ls, a1, a2, a3, a4, a5, a6, a7, a8, a9⟩ := h
 exact ⟨bi, bw, vs, us, ls, a1.keep hk h1, a2.keep hk fun k hk9 => h2 k (a7 k hk9), a3.keep hk fun k hk9 => h2 k (a8 k hk9), a4, a5, a6, a7, a8, a9⟩
theorem BkIs.kept {D kb : Nat} {S : Nat → Prop} {w w' : World} (h : BkIs D kb S w) (hb : Below w.heap.size w w') : BkIs D kb S w' :=
 h.keep (Keep.of_below (S := fun _ => False) hb) id fun _ _ h => h
theorem owns_icel {D : Nat} {e : TypeId} {w : World} {v : Value} {ns : List Int} (h : OwnsK 1 D e w v ns.length (icel ns)) : Owns D e w v (ivals .i64 ns) := by
 show OwnsK 1 D e w v (ivals .i64 ns).length (ivals .i64 ns)
 rw [ivals_length]
 exact h
theorem icel_owns {D : Nat} {e : TypeId} {w : World} {v : Value} {ns : List Int} (h : Owns D e w v (ivals .i64 ns)) : OwnsK 1 D e w v ns.length (icel ns) := by
 have h9 : OwnsK 1 D e w v (ivals .i64 ns).length (ivals .i64 ns) := h
 rw [ivals_length] at h9
 exact h9
theorem RowsL.view {D : Nat} {w : World} {v : Value} {xs : List Value} {R : List (List Int)} (h : RowsL D w v xs R) : VView w v xs := by
 refine VView.of (B := D) (e := 53) ?_
 show OwnsK 1 D 53 w v xs.length xs
 rw [h.len]
 exact h.own
theorem bookApart_any (D kb : Nat) (S : Nat → Prop) (w : World) (h : BkIs D kb S w) (hD : D ≤ w.heap.size) :
  Calls Tryz.prog 25 #[.pointer (some ⟨kb, 0, none⟩)] w fun e w' => e = .returned (.bool true) ∧ Below D w w' := by
 obtain ⟨bi, bw, vs, us, ls, a1, a2, a3, a4, a5, a6, a7, a8, a9⟩ := h
 exact apart_ints D kb bi bw vs us ls w a1 a2.view a3.view a2.len a3.len (by rw [a2.len]; exact a4) hD (fun i v ns h1 h2 => ⟨owns_icel (a2.row i v ns h1 h2), a5 ns (List.mem_of_getElem? h2)⟩) (fun i v ns h1 h2 => owns_icel (a3.row i v ns h1 h2)) a2.ap (fun h => a6 (a7 kb (.inr h))) (fun g hg h => a2.ne g h hg)
theorem BkIs.new (w : World) (e : TypeId) : BkIs w.heap.size w.heap.size (fun _ => False) (w.alloc (.cells (bookC (.slice none 0 0) (.slice none 0 0)).toArray e)) :=
 ⟨.slice none 0 0, .slice none 0 0, [], [], [], BoxL.new w _ _, RowsL.nil _ _, RowsL.nil _ _, by simp, fun ns h => by simp at h, id, fun k h => by rcases h with h | ⟨i, v, h, _⟩; simp [Value.ownBlock] at h; simp at h, fun k h => by rcases h with h | ⟨i, v, h, _⟩; simp [Value.ownBlock] at h; simp at h, fun k h => by rcases h with h | ⟨i, v, h, _⟩; simp [Value.ownBlock] at h; simp at h⟩
set_option maxHeartbeats 4000000 in
theorem bookInts_any (D kb : Nat) (S : Nat → Prop) (v : Value) (ns : List Int) (w : World) (h : BkIs D kb S w) (hD : D ≤ w.heap.size) (hv : OwnsK 1 D 3 w v ns.length (icel ns)) (hnl : ns.length ≤ 1000000) (hvS : ∀ k, v.ownBlock = some k → ¬ S k ∧ k ≠ kb) :
  Calls Tryz.prog 18 #[.pointer (some ⟨kb, 0, none⟩), v] w fun e w' => e = .returned (.tuple #[]) ∧ (∃ S', BkIs D kb S' w' ∧ ∀ k, S' k → S k ∨ v.ownBlock = some k ∨ w.heap.size ≤ k) ∧ Keep (fun k => k = kb ∨ S k) w w' := by
 obtain ⟨bi, bw, vs, us, ls, a1, a2, a3, a4, a5, a6, a7, a8, a9⟩ := h
 have hkw := a1.lt
 have A2 := Lib.hid a2
 have A3 := Lib.hid a3
 have A5 := Lib.hid a5
 have A6 := Lib.hid a6
 have A7 := Lib.hid a7
 have A8 := Lib.hid a8
 have A9 := Lib.hid a9
 have HV := Lib.hid hv
 have HVS := Lib.hid hvS
 obtain ⟨io, ic, rfl, hi1, hi2, -⟩ := a2.own.slice
 obtain ⟨wo, wc, rfl, -, -, -⟩ := a3.own.slice
 obtain ⟨vo, vc, rfl, -, -, -⟩ := hv.slice
 have hown := a2.own
 have HLW : Hid (∀ k, (Value.slice wo ls.length wc).ownBlock = some k ∨ OfL us k → k < w.heap.size) := Lib.hid (fun k hk => (a3.lt hk).2)
 clear a2 a3 a5 a6 a7 a8 a9 hv hvS
 go_enter Tryz.func18, Tryz.ntmps18
 have e2 := a1.cell 2 _ rfl
 by_cases hl : ls.length < 250
 case neg =>
  have hlt : ¬ ((ls.length : Nat) : Int) < 250 := by omega
  go_wp2_with fail
  go_end0
  exact ⟨rfl, ⟨S, ⟨_, _, vs, us, ls, a1, A2.out, A3.out, a4, A5.out, A6.out, A7.out, A8.out, A9.out⟩, fun k hk => .inl hk⟩, Keep.refl _ _⟩
 case pos =>
  have hlt : ((ls.length : Nat) : Int) < 250 := by omega
  have f2 := a1.free 2 (by simp)
  go_upto_region 2 with (at_builtin; refine append1KO E_rowsI hown rfl rfl rfl rfl rfl (by simp [Value.oneCell']) (by omega) (by unfold maxLen; omega) hD ?_; intro v9 w9 hO9 hb9 hg9 hn9; obtain ⟨ao9, cap9, rfl, -, -, -⟩ := hO9.slice; have k9 := a1.block (hg9.block kb a1.lt (fun e9 => A6.out (A7.out kb (.inl e9.symm)))); clear e2 f2; have e2 := k9.cell 2 _ rfl; have f2 := k9.free 2 (by simp))
  obtain ⟨wA, hwA⟩ : ∃ W', W' = w9.setCell ⟨kb, 2, none⟩ (.slice ao9 (ls.length + 1) cap9) := ⟨_, rfl⟩
  rw [← hwA]
  have hR9 : RowsL D w9 (.slice ao9 (ls.length + 1) cap9) (vs ++ [.slice vo ns.length vc]) (ls ++ [ns]) := A2.out.snoc hO9 hg9 hn9 HV.out (fun k hk => ⟨fun e => (HVS.out k hk).1 (A7.out k (.inl e)), fun e => (HVS.out k hk).1 (A7.out k (.inr e))⟩)
  have hn9k : ∀ k, (Value.slice ao9 (ls.length + 1) cap9).ownBlock = some k ∨ OfL (vs ++ [.slice vo ns.length vc]) k → ((Value.slice io ls.length ic).ownBlock = some k ∨ OfL vs k) ∨ (Value.slice vo ns.length vc).ownBlock = some k ∨ w.heap.size ≤ k := fun k hk => by
   rcases hk with hk | hk
   ·rcases hn9 k hk with h | h
    ·exact .inl (.inl h)
    ·exact .inr (.inr h)
   ·rcases hk.snoc with h | h
    ·exact .inl (.inr h)
    ·exact .inr (.inl h)
  have hKs : Keep (fun k => k = kb) w9 wA := by rw [hwA]; exact (Keep.refl (fun k => k = kb) w9).set kb 2 _ (.inl rfl)
  have hRA : RowsL D wA (.slice ao9 (ls.length + 1) cap9) (vs ++ [.slice vo ns.length vc]) (ls ++ [ns]) := hR9.keep hKs (fun k hk e => by
   subst e
   rcases hn9k k hk with h | h | h
   ·exact A6.out (A7.out k h)
   ·exact (HVS.out k h).2 rfl
   ·omega)
  have hK9 : Keep (fun k => (Value.slice io ls.length ic).ownBlock = some k) w w9 := ⟨hg9.os, hg9.tape, hg9.output, hg9.size, fun k hk hs => hg9.block k hk (fun e => hs e.symm)⟩
  have hKA : Keep (fun k => k = kb ∨ (Value.slice io ls.length ic).ownBlock = some k) w wA := (hK9.mono (fun k _ h => .inr h)).trans hKs (fun k _ h => .inl h)
  have hRB : RowsL D wA (.slice wo ls.length wc) us ls := A3.out.keep hKA (fun k hk e => by
   rcases e with e | e
   ·subst e; exact A6.out (A8.out k hk)
   ·exact A9.out k (.inl e) hk)
  have hVA : OwnsK 1 D 3 wA (.slice vo ns.length vc) ns.length (icel ns) := HV.out.keep hKA (fun k hk e => by
   rcases e with e | e
   ·exact (HVS.out k hk).2 e
   ·exact (HVS.out k hk).1 (A7.out k (.inl e)))
  have kA : BoxL wA kb (bookC (.slice ao9 (ls.length + 1) cap9) (.slice wo ls.length wc)) := by rw [hwA]; exact k9.set 2 _ (by simp)
  have hIN : IntsN .i64 wA (.slice vo ns.length vc) ns := ints_of_owns (owns_icel hVA)
  have HRA := Lib.hid hRA
  have HRB := Lib.hid hRB
  have HN9 := Lib.hid hn9k
  have HKA := Lib.hid hKA
  have HIN := Lib.hid hIN
  have hDA : D ≤ wA.heap.size := Nat.le_trans hD hKA.size
  clear e2 f2 hO9 hb9 hg9 hn9 hR9 hKs hK9 hRA hRB hn9k hKA hIN hVA k9 hwA a1 A2 A3 hown
  refine wp_region_seqT (S := fun w' => BoxL w' kb (bookC (.slice ao9 (ls.length + 1) cap9) (.slice wo ls.length wc))) [(true, 0), (true, 1), (true, 2), (true, 3), (true, 4), (true, 5), (false, 6), (false, 7), (false, 8), (true, 9), (true, 10)] (by kernel_rfl) (by kernel_rfl) (by kernel_rfl) (by kernel_rfl) (by kernel_rfl) (by kernel_rfl) (fun d _ _ _ _ h => by cases d <;> exact h) kA.drew (fun _ => ?_)
  simp only [pickOps, List.append_eq, List.cons_append, List.nil_append, List.getElem?_toArray, List.getElem?_cons_succ, List.getElem?_cons_zero]
  have hb : Below wA.heap.size wA wA.drew := (Below.refl _ _).drew
  generalize wA.drew = wB at hb ⊢
  have kB := kA.kept hb
  have hINB := HIN.out.below hb
  have hDB := Nat.le_trans hDA hb.size
  repeat (first | (refine seq_take (v := ?_) (by rfl) ?_ ?_; rotate_left; (· intro w hSw; (try dsimp only at hSw); have q3 := hSw.cell 3 _ rfl; clear hSw; go_simp; all_goals with_reducible rfl); (try simp only [Act.put, List.setIfInBounds_toArray, List.set_cons_zero, List.set_cons_succ])) | (refine seq_leave (by rfl) ?_; (try simp only [Act.put, List.setIfInBounds_toArray, List.set_cons_zero, List.set_cons_succ])))
  refine seq_step (by rfl) (fun K hK => ?_)
  go_simp
  go_at_call 55
  (with_reducible refine (copyInts_any _ ns _ hINB hnl).mono ?_)
  rintro e wC ⟨r, rfl, hr, hb2⟩
  have hr9 := icel_owns hr
  obtain ⟨ro, rc, rfl, -, -, -⟩ := hr9.slice
  have kC := kB.kept hb2
  have HBC : Hid (Below wA.heap.size wA wC) := Lib.hid (hb.trans (hb2.mono hb.size))
  have HRC : Hid (OwnsK 1 wA.heap.size 3 wC (.slice ro ns.length rc) ns.length (icel ns)) := Lib.hid (hr9.mono hb.size)
  have hDC := Nat.le_trans hDB hb2.size
  clear kB hINB hr hr9 hb hb2 hDB
  first | refine hK.out _ _ kC (fun _ => ?_) | (go_wp2_with fail; refine hK.out _ _ kC (fun _ => ?_))
  clear hK K
  (try simp only [Act.put, List.setIfInBounds_toArray, List.set_cons_zero, List.set_cons_succ])
  repeat (first | (refine seq_take (v := ?_) (by rfl) ?_ ?_; rotate_left; (· intro w hSw; (try dsimp only at hSw); have q3 := hSw.cell 3 _ rfl; clear hSw; go_simp; all_goals with_reducible rfl); (try simp only [Act.put, List.setIfInBounds_toArray, List.set_cons_zero, List.set_cons_succ])) | (refine seq_leave (by rfl) ?_; (try simp only [Act.put, List.setIfInBounds_toArray, List.set_cons_zero, List.set_cons_succ])))
  refine seq_step (by rfl) (fun K hK => ?_)
  go_simp
  obtain ⟨wD, hwD⟩ : ∃ W, W = wC.alloc (.cells #[.slice ro ns.length rc] 53) := ⟨_, rfl⟩
  obtain ⟨pb, hpb⟩ : ∃ p, p = wC.heap.size := ⟨_, rfl⟩
  have hb3 : Below wC.heap.size wC wD := by rw [hwD]; exact (Below.refl _ _).alloc (Nat.le_refl _) _
  have hbN : BoxL wD pb [.slice ro ns.length rc] := by rw [hwD, hpb]; exact BoxL.new _ _ _
  rw [← hwD, ← hpb]
  have HPB : Hid (wC.heap.size ≤ pb) := Lib.hid (by omega)
  clear hwD hpb
  replace HBC : Hid (Below wA.heap.size wA wD) := Lib.hid (HBC.out.trans (hb3.mono HBC.out.size))
  replace HRC : Hid (OwnsK 1 wA.heap.size 3 wD (.slice ro ns.length rc) ns.length (icel ns)) := Lib.hid (HRC.out.kept hb3)
  replace kC := kC.kept hb3
  have hDD := Nat.le_trans hDC hb3.size
  have hOB : OwnsK 1 D 53 wD (.slice wo ls.length wc) ls.length us := (HRB.out.kept HBC.out).own
  clear hb3 hDC
  first | refine hK.out _ _ kC (fun _ => ?_) | (go_wp2_with fail; refine hK.out _ _ kC (fun _ => ?_))
  clear hK K
  (try simp only [Act.put, List.setIfInBounds_toArray, List.set_cons_zero, List.set_cons_succ])
  refine seq_step (by rfl) (fun K hK => ?_)
  refine step_appendKs (us := [.slice ro ns.length rc]) E_rowsI hOB rfl rfl rfl rfl (fun j u hj => by rw [Addr.add_lit, Nat.zero_add]; exact hbN.cell j u hj) (by simp [Value.oneCell']) (by omega) (by unfold maxLen; omega) hDD ?_
  intro v8 wE hO8 hg8 hn8
  obtain ⟨bo8, bc8, rfl, -, -, -⟩ := hO8.slice
  have hRE : RowsL D wE (.slice bo8 (ls.length + 1) bc8) (us ++ [.slice ro ns.length rc]) (ls ++ [ns]) := (HRB.out.kept HBC.out).snoc hO8 hg8 hn8 (HRC.out.mono hDA) (fun k hk => by
   have h1 := (HRC.out.lt k hk).1
   exact ⟨fun e => by have := (HRB.out.lt (.inl e)).2; omega, fun e => by have := (HRB.out.lt (.inr e)).2; omega⟩)
  have hn8k : ∀ k, (Value.slice bo8 (ls.length + 1) bc8).ownBlock = some k ∨ OfL (us ++ [.slice ro ns.length rc]) k → ((Value.slice wo ls.length wc).ownBlock = some k ∨ OfL us k) ∨ wA.heap.size ≤ k := fun k hk => by
   rcases hk with hk | hk
   ·rcases hn8 k hk with h | h
    ·exact .inl (.inl h)
    ·exact .inr (Nat.le_trans HBC.out.size h)
   ·rcases hk.snoc with h | h
    ·exact .inl (.inr h)
    ·exact .inr (HRC.out.lt k h).1
  have hK8 : Keep (fun k => (Value.slice wo ls.length wc).ownBlock = some k) wA wE := (Keep.of_below HBC.out).trans (S' := fun k => (Value.slice wo ls.length wc).ownBlock = some k) ⟨hg8.os, hg8.tape, hg8.output, hg8.size, fun k hk hs => hg8.block k hk (fun e9 => hs e9.symm)⟩ (fun k _ hs => hs)
  have kE : BoxL wE kb (bookC (.slice ao9 (ls.length + 1) cap9) (.slice wo ls.length wc)) := kC.block (hg8.block kb kC.lt (fun e9 => A6.out (A8.out kb (.inl e9.symm))))
  have hRE2 : RowsL D wE (.slice ao9 (ls.length + 1) cap9) (vs ++ [.slice vo ns.length vc]) (ls ++ [ns]) := HRA.out.keep hK8 (fun k hk e => by
   have hlt := (HRB.out.lt (.inl e)).2
   rcases HN9.out k hk with h | h | h
   ·exact A9.out k h (.inl e)
   ·exact (HVS.out k h).1 (A8.out k (.inl e))
   ·have := HLW.out k (.inl e); omega)
  have HRE := Lib.hid hRE
  have HRE2 := Lib.hid hRE2
  have HN8 := Lib.hid hn8k
  have HK8 := Lib.hid hK8
  clear hOB hbN hDD kC hO8 hg8 hn8 hRE hRE2 hn8k hK8
  have kC := kE
  first | refine hK.out _ _ kC (fun _ => ?_) | (go_wp2_with fail; refine hK.out _ _ kC (fun _ => ?_))
  clear hK K
  (try simp only [Act.put, List.setIfInBounds_toArray, List.set_cons_zero, List.set_cons_succ])
  repeat (first | (refine seq_take (v := ?_) (by rfl) ?_ ?_; rotate_left; (· intro w hSw; (try dsimp only at hSw); have q3 := hSw.cell 3 _ rfl; clear hSw; go_simp; all_goals with_reducible rfl); (try simp only [Act.put, List.setIfInBounds_toArray, List.set_cons_zero, List.set_cons_succ])) | (refine seq_leave (by rfl) ?_; (try simp only [Act.put, List.setIfInBounds_toArray, List.set_cons_zero, List.set_cons_succ])))
  refine seq_end ?_
  refine tail_end rfl rfl ?_
  have e3 := kE.cell 3 _ rfl
  have f3 := kE.free 3 (by simp)
  go_simp
  clear e3 f3
  (try go_wp2_with fail)
  (try simp only [Exit.inBlock, Exit.then])
  go_end0
  have hSS : Keep (fun k => k = kb) wE (wE.setCell ⟨kb, 3, none⟩ (.slice bo8 (ls.length + 1) bc8)) := (Keep.refl (fun k => k = kb) wE).set kb 3 _ (.inl rfl)
  have hszA := HKA.out.size
  have hnk8 : ∀ k, k = kb → (Value.slice bo8 (ls.length + 1) bc8).ownBlock = some k ∨ OfL (us ++ [.slice ro ns.length rc]) k → False := fun k e hk => by
   subst e
   rcases HN8.out k hk with h | h
   ·exact A6.out (A8.out k h)
   ·omega
  have hnk9 : ∀ k, k = kb → (Value.slice ao9 (ls.length + 1) cap9).ownBlock = some k ∨ OfL (vs ++ [.slice vo ns.length vc]) k → False := fun k e hk => by
   subst e
   rcases HN9.out k hk with h | h | h
   ·exact A6.out (A7.out k h)
   ·exact (HVS.out k h).2 rfl
   ·omega
  refine ⟨rfl, ⟨fun k => S k ∨ (Value.slice vo ns.length vc).ownBlock = some k ∨ w.heap.size ≤ k, ⟨_, _, _, _, ls ++ [ns], kE.set 3 _ (by simp), HRE2.out.keep hSS (fun k hk e => hnk9 k e hk), HRE.out.keep hSS (fun k hk e => hnk8 k e hk), by simp; omega, fun ms hm => ?_, fun h => ?_, fun k hk => ?_, fun k hk => ?_, fun k h1 h2 => ?_⟩, fun k h => h⟩, ((HKA.out.mono (fun k _ h => ?_)).trans (HK8.out.mono (S' := fun k => k = kb ∨ S k) (fun k _ h => .inr (A8.out k (.inl h)))) (fun k _ h => h)).trans hSS (fun k _ h => .inl h)⟩
  ·rcases List.mem_append.1 hm with h | h
   ·exact A5.out ms h
   ·simp at h; subst h; exact hnl
  ·rcases h with h | h | h
   ·exact A6.out h
   ·exact (HVS.out kb h).2 rfl
   ·omega
  ·rcases HN9.out k hk with h | h | h
   ·exact .inl (A7.out k h)
   ·exact .inr (.inl h)
   ·exact .inr (.inr h)
  ·rcases HN8.out k hk with h | h
   ·exact .inl (A8.out k h)
   ·exact .inr (.inr (by omega))
  ·rcases HN8.out k h2 with h3 | h3
   ·rcases HN9.out k h1 with h | h | h
    ·exact A9.out k h h3
    ·exact (HVS.out k h).1 (A8.out k h3)
    ·have := HLW.out k h3; omega
   ·have := (HRA.out.lt h1).2; omega
  ·rcases h with h | h
   ·exact .inl h
   ·exact .inr (A7.out k (.inl h))
end Go.Proofs.YtcpfanpcdkoiaaaGreat
