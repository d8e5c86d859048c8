/-
  Pj26: RefY OpenG OpenV OpenW OpenF OpenX (what is needed of them).
-/
import Derived.Test.YtcpfanpcdkoiaaaGreatDoorPj07
import Derived.Test.YtcpfanpcdkoiaaaGreatDoorPj10
import Derived.Test.YtcpfanpcdkoiaaaGreatDoorPj16
import Derived.Test.YtcpfanpcdkoiaaaGreatDoorPj17
import Derived.Test.YtcpfanpcdkoiaaaGreatDoorPj25
import Derived.WalkKit
import Derived.ProofKit
import Derived.OpenShut
import Derived.ShutString
import Derived.Carry
import Derived.Deep.Fields
import Derived.Deep.Slices
set_option maxRecDepth 100000
set_option linter.unusedVariables false
set_option linter.unusedSimpArgs false

namespace Go.Proofs.YtcpfanpcdkoiaaaGreatDoor
open Go.RowKit


attribute [local go_sem] field_nat
theorem rvalidF_l (nm : List UInt8) (fk : Int) (vals : List (List UInt8)) (rk : Int) (rn rc : List UInt8) (inv : Int) (vo : Option Addr) (vc : Nat) (b : Bool) (w : World) (hs : Strs w (.slice vo vals.length vc) vals) (hrn : Hid (rn.length ≤ 1000000)) (HB : Hid (b = validF ⟨nm, fk, vals, ⟨rk, rn, rc⟩, inv⟩)) :
  Calls Tryz.prog 9 #[.agg #[.string ⟨nm.toArray⟩, .int .i64 fk, .slice vo vals.length vc, .int .i64 rk, .string ⟨rn.toArray⟩, .string ⟨rc.toArray⟩, .int .i64 inv]] w fun e w' => e = .returned (.bool b) ∧ Below w.heap.size w w' := rvalidF_any ⟨⟨nm, fk, vals, ⟨rk, rn, rc⟩, inv⟩, vo, vc⟩ b w hs hrn.out HB
theorem rfit_l (nm : List UInt8) (fk : Int) (vals : List (List UInt8)) (rk : Int) (rn rc : List UInt8) (inv : Int) (vo : Option Addr) (vc : Nat) (k : Int) (n c : List UInt8) (b : Bool) (w : World) (hs : Strs w (.slice vo vals.length vc) vals) (HB : Hid (fitB ⟨nm, fk, vals, ⟨rk, rn, rc⟩, inv⟩ ⟨k, n, c⟩ = b)) :
  Calls Tryz.prog 11 #[.agg #[.string ⟨nm.toArray⟩, .int .i64 fk, .slice vo vals.length vc, .int .i64 rk, .string ⟨rn.toArray⟩, .string ⟨rc.toArray⟩, .int .i64 inv], valV k n c] w fun e w' => e = .returned (.bool b) ∧ Below w.heap.size w w' := rfit_any ⟨⟨nm, fk, vals, ⟨rk, rn, rc⟩, inv⟩, vo, vc⟩ k n c b w hs (Lib.hid HB.out.symm)
theorem prep1_m3 {f : F5} {v : V3} (h0 : v.k ≠ 0) (hf : fitB f v = false) (hi : f.inv = 3) : prep1 f v = some f.r := by
 unfold prep1 invV
 rw [if_pos ⟨h0, hf⟩, if_pos hi, Option.map_some]
 rfl
theorem prep1_m2 {f : F5} {v : V3} (h0 : v.k ≠ 0) (hf : fitB f v = false) (hi : f.inv = 2 ∧ f.k = 2 ∧ v.k = 2) : prep1 f v = some v := by
 unfold prep1 invV
 rw [if_pos ⟨h0, hf⟩, if_neg (by omega), if_pos hi, Option.map_some, if_neg h0]
theorem prep1_m0 {f : F5} {v : V3} (h0 : v.k ≠ 0) (hf : fitB f v = false) (h3 : f.inv ≠ 3) (hi : ¬ (f.inv = 2 ∧ f.k = 2 ∧ v.k = 2)) : prep1 f v = none := by
 unfold prep1 invV
 rw [if_pos ⟨h0, hf⟩, if_neg h3, if_neg hi]
 rfl
set_option maxHeartbeats 4000000 in
theorem rprepare_any (ao : Option Addr) (cap nx : Nat) (xs : List FV) (ro : Option Addr) (rcap : Nat) (vs us9 : List V3) (ok9 : Bool) (c9 : Int) (w : World) (hnx : nx = xs.length) (hf : Hid (Flds w ao xs)) (hv : Hid (Vals w ro vs)) (hfl : Hid (∀ x ∈ xs, x.f.r.n.length ≤ 1000000)) (hvl : Hid (∀ v ∈ vs, v.n.length ≤ 1000000)) (hxm : xs.length ≤ 1000000) (HP : Hid (prepV (xs.map (·.f)) vs = (us9, ok9, c9))) :
  Calls Tryz.prog 12 #[.slice ao nx cap, .slice ro vs.length rcap] w fun e w' => ∃ r, e = .returned (.tuple #[r, .bool ok9, .int .i64 c9]) ∧ OwnsK 3 w.heap.size 30 w' r us9.length (vcells us9) ∧ Below w.heap.size w w' := by
 have hbf : Below w.heap.size w w := Below.refl _ _
 by_cases hl : nx = vs.length
 case neg =>
  have h9 := HP.out
  unfold prepV at h9
  rw [if_pos (by rw [List.length_map, ← hnx]; exact hl)] at h9
  cases h9
  have hne : (((nx : Nat) : Int) != ((vs.length : Nat) : Int)) = true := by rw [bne_iff_ne]; omega
  clear HP hl hnx hxm
  go_enter Tryz.func12, Tryz.ntmps12
  go_wp2_with fail
  go_ret3
  exact ⟨_, rfl, OwnsK.nil _ _ _ _, hbf⟩
 case pos =>
 have HL : Hid (xs.length = vs.length) := Lib.hid (by rw [← hnx]; exact hl)
 have hvm : vs.length ≤ 1000000 := by omega
 subst hl
 have HP2 : Hid ((if allOk (xs.map (·.f)) vs = false then (([] : List V3), false, (1 : Int)) else match prepL (xs.map (·.f)) vs with | none => ([], false, 0) | some us => (us, true, 0)) = (us9, ok9, c9)) := Lib.hid (by
  have h9 := HP.out
  unfold prepV at h9
  rw [if_neg (by rw [List.length_map, HL.out]; simp)] at h9
  exact h9)
 clear HP hnx hxm
 go_enter Tryz.func12, Tryz.ntmps12
 go_wp2_with fail
 go_loopg [7] vs.length (fun gg iv wr => ∃ (i : Nat), i + gg = vs.length ∧ iv = .int .i64 (i : Int) ∧ Hid (allOk ((xs.map (·.f)).drop i) (vs.drop i) = allOk (xs.map (·.f)) vs) ∧ Below w.heap.size w wr)
 case atStart => exact ⟨0, by omega, rfl, Lib.hid rfl, hbf⟩
 clear hbf
 case round =>
  obtain ⟨i, hi, rfl, HA, hbf⟩ := hrel
  by_cases hil : ¬ i < vs.length
  case neg =>
   have hil9 : i < vs.length := by omega
   have hii : ((i : Nat) : Int) < ((vs.length : Nat) : Int) := by omega
   have hqi : (0 : Int) ≤ (i : Int) := by omega
   obtain ⟨x, hx9⟩ : ∃ x, xs[i]? = some x := ⟨_, List.getElem?_eq_getElem (by have := HL.out; omega)⟩
   obtain ⟨v, hv9⟩ : ∃ v, vs[i]? = some v := ⟨_, List.getElem?_eq_getElem hil9⟩
   have hmem : x ∈ xs := List.mem_of_getElem? hx9
   have hrn : Hid (x.f.r.n.length ≤ 1000000) := Lib.hid (hfl.out x hmem)
   have hnl : Hid (v.n.length ≤ 1000000) := Lib.hid (hvl.out v (List.mem_of_getElem? hv9))
   have hfx : (xs.map (·.f))[i]? = some x.f := by rw [List.getElem?_map, hx9]; rfl
   obtain ⟨b, off, ha, hfa⟩ := hf.out.at hx9
   obtain ⟨rb, roff, har, v0, v1, v2⟩ := hv.out i v hv9
   have hst := (hf.out.2 x hmem).below hbf
   replace hfa := hfa.kept hbf
   have HVR := Lib.hid (And.intro v0 (And.intro v1 v2))
   obtain ⟨⟨nm, fk, vals, ⟨rk, rn, rc⟩, inv⟩, vo, vc⟩ := x
   obtain ⟨k, n, c⟩ := v
   dsimp only at hrn hnl hst hfx
   subst ha har
   obtain ⟨d1, hd1⟩ : ∃ d, d = validF ⟨nm, fk, vals, ⟨rk, rn, rc⟩, inv⟩ := ⟨_, rfl⟩
   obtain ⟨d2, hd2⟩ : ∃ d, vvalid k n c = d := ⟨_, rfl⟩
   have HA2 : Hid (((d1 && d2) && allOk ((xs.map (·.f)).drop (i + 1)) (vs.drop (i + 1))) = allOk (xs.map (·.f)) vs) := Lib.hid (by rw [← HA.out, allOk_at hfx hv9, hd1, ← hd2])
   have HD1 := Lib.hid hd1
   have HD2 := Lib.hid hd2
   clear hil hmem hx9 hv9 hfx hd1 hd2 HA v0 v1 v2
   obtain ⟨g0, g1, g2, g3, g4, g5, g6⟩ := hfa.c7
   go_wp2_with fail
   (with_reducible refine (rvalidF_l nm fk vals rk rn rc inv vo vc d1 _ hst hrn HD1).mono ?_)
   rintro e w2 ⟨rfl, hb2⟩
   replace hbf := hbf.trans (hb2.mono hbf.size)
   clear g0 g1 g2 g3 g4 g5 g6 hb2 hst hfa
   have v0 := (HVR.out.1.kept hbf).cell
   have v1 := (HVR.out.2.1.kept hbf).cell
   have v2 := (HVR.out.2.2.kept hbf).cell
   cases d1
   ·have hp3 := HP2.out
    rw [if_pos (by rw [← HA2.out]; simp)] at hp3
    cases hp3
    go_wp2_with fail
    go_ret3
    exact ⟨_, rfl, OwnsK.nil _ _ _ _, hbf⟩
   ·go_wp2_with fail
    (with_reducible refine (rvvalid_h k n c d2 _ HD2 hnl).mono ?_)
    rintro e w3 ⟨rfl, hb3⟩
    replace hbf := hbf.trans (hb3.mono hbf.size)
    clear v0 v1 v2 hb3
    cases d2
    ·have hp3 := HP2.out
     rw [if_pos (by rw [← HA2.out]; simp)] at hp3
     cases hp3
     go_wp2_with fail
     go_ret3
     exact ⟨_, rfl, OwnsK.nil _ _ _ _, hbf⟩
    ·have HA3 : Hid (allOk ((xs.map (·.f)).drop (i + 1)) (vs.drop (i + 1)) = allOk (xs.map (·.f)) vs) := Lib.hid (by rw [← HA2.out]; simp)
     go_wp2_with fail
     go_roundg (gk - 1)
     case measure => omega
     case rel => exact ⟨i + 1, by omega, by go_num, HA3, hbf⟩
  case pos =>
  have hall : allOk (xs.map (·.f)) vs = true := by
   rw [← HA.out, List.drop_eq_nil_of_le (show vs.length ≤ i by omega)]
   unfold allOk; rw [List.zip_nil_right]; rfl
  have HP3 : Hid ((match prepL (xs.map (·.f)) vs with | none => (([] : List V3), false, (0 : Int)) | some us => (us, true, 0)) = (us9, ok9, c9)) := Lib.hid (by
   have h := HP2.out
   rw [if_neg (by rw [hall]; simp)] at h
   exact h)
  have hii : ¬ ((i : Nat) : Int) < ((vs.length : Nat) : Int) := by omega
  clear hall HA HP2
  go_wp2_with fail
  clear hii hil hi
  obtain ⟨w5, hw5⟩ : ∃ W, W = wr := ⟨_, rfl⟩; subst hw5
  go_loopg [8, 9] vs.length (fun gg ov iv wr => ∃ (i : Nat) (us : List V3) (uo : Option Addr) (un uc : Nat), i + gg = vs.length ∧ us.length = i ∧ ov = .slice uo un uc ∧ iv = .int .i64 (i : Int) ∧ OwnsK 3 w.heap.size 30 wr (.slice uo un uc) us.length (vcells us) ∧ Hid (prepGo us (prepL ((xs.map (·.f)).drop i) (vs.drop i)) = prepL (xs.map (·.f)) vs) ∧ Below w.heap.size w wr)
  case atStart => exact ⟨0, [], none, 0, 0, by omega, rfl, rfl, rfl, OwnsK.nil _ _ _ _, Lib.hid (by unfold prepGo; simp), hbf⟩
  clear hbf
  case round =>
   obtain ⟨i, us, uo, un, uc, hi, hul0, rfl, rfl, hO, HR, hbf⟩ := hrel
   have HUL := Lib.hid hul0
   have hum : us.length ≤ 1000000 := by omega
   clear hul0
   by_cases hil : ¬ i < vs.length
   case pos =>
    have hre : prepL (xs.map (·.f)) vs = some us := by
     rw [← HR.out, List.drop_eq_nil_of_le (show vs.length ≤ i by omega)]
     unfold prepGo
     cases (xs.map (·.f)).drop i <;> simp [prepL]
    have hp := HP3.out
    rw [hre] at hp
    cases hp
    have hii : ¬ ((i : Nat) : Int) < ((vs.length : Nat) : Int) := by omega
    clear hre
    go_wp2_with fail
    go_ret3
    exact ⟨_, rfl, hO, hbf⟩
   case neg =>
    have hil9 : i < vs.length := by omega
    have hii : ((i : Nat) : Int) < ((vs.length : Nat) : Int) := by omega
    have hqi : (0 : Int) ≤ (i : Int) := by omega
    obtain ⟨x, hx9⟩ : ∃ x, xs[i]? = some x := ⟨_, List.getElem?_eq_getElem (by have := HL.out; omega)⟩
    obtain ⟨v, hv9⟩ : ∃ v, vs[i]? = some v := ⟨_, List.getElem?_eq_getElem hil9⟩
    have hmem : x ∈ xs := List.mem_of_getElem? hx9
    have hrn : Hid (x.f.r.n.length ≤ 1000000) := Lib.hid (hfl.out x hmem)
    have hnl : Hid (v.n.length ≤ 1000000) := Lib.hid (hvl.out v (List.mem_of_getElem? hv9))
    have hfx : (xs.map (·.f))[i]? = some x.f := by rw [List.getElem?_map, hx9]; rfl
    obtain ⟨b, off, ha, hfa⟩ := hf.out.at hx9
    obtain ⟨rb, roff, har, v0, v1, v2⟩ := hv.out i v hv9
    have hst := (hf.out.2 x hmem).below hbf
    replace hfa := hfa.kept hbf
    replace v0 := (v0.kept hbf).cell
    replace v1 := (v1.kept hbf).cell
    replace v2 := (v2.kept hbf).cell
    obtain ⟨⟨nm, fk, vals, ⟨rk, rn, rc⟩, inv⟩, vo, vc⟩ := x
    obtain ⟨k, n, c⟩ := v
    dsimp only at hrn hnl hst hfx
    subst ha har
    have HR1 : Hid (prepGo us ((prep1 ⟨nm, fk, vals, ⟨rk, rn, rc⟩, inv⟩ ⟨k, n, c⟩).bind fun u => (prepL ((xs.map (·.f)).drop (i + 1)) (vs.drop (i + 1))).map fun us => u :: us) = prepL (xs.map (·.f)) vs) := Lib.hid (by rw [← HR.out, prepL_at hfx hv9])
    clear hil hmem hx9 hv9 hfx HR
    obtain ⟨w1, hwE, hb0, _, pv, hpE, hbv⟩ := boxV wr k n c
    have HPV : Hid (w.heap.size ≤ pv) := Lib.hid (by rw [hpE]; exact hbf.size)
    have HW := Lib.hid hwE; clear hwE
    have HNE : Hid (∀ g, (Value.slice uo un uc).ownBlock = some g → g ≠ pv) := Lib.hid (fun g hg => by have := (hO.lt g hg).2; omega)
    have HFB : Hid (b ≠ pv) := Lib.hid (by have := hfa.lt; omega)
    go_upto_region 13 with fail
    rw [← HW.out, ← hpE]
    clear HW hpE v0 v1 v2
    replace hbf := hbf.trans (hb0.mono hbf.size)
    replace hfa := hfa.kept hb0
    replace hst := hst.below hb0
    replace hO := hO.kept hb0
    clear hb0
    by_cases hk0 : k = 0
    case pos =>
     subst hk0
     have HR2 : Hid (prepGo (us ++ [⟨rk, rn, rc⟩]) (prepL ((xs.map (·.f)).drop (i + 1)) (vs.drop (i + 1))) = prepL (xs.map (·.f)) vs) := Lib.hid (by rw [← HR1.out, prep1_miss rfl, prepGo_some])
     clear HR1
     refine wp_region_seq (S := fun w' => Box3 w' pv (.int .i64 0) (.string ⟨n.toArray⟩) (.string ⟨c.toArray⟩) ∧ FldAt w' b (off + i * 7) ⟨⟨nm, fk, vals, ⟨rk, rn, rc⟩, inv⟩, vo, vc⟩) [(true, 0), (true, 1), (true, 2), (true, 3), (true, 4), (true, 5), (true, 6), (true, 7), (true, 8), (false, 9), (true, 10), (true, 11)] (by kernel_rfl) (by kernel_rfl) (by kernel_rfl) (by kernel_rfl) (by kernel_rfl) (fun d _ _ _ _ h => by cases d <;> exact h) ⟨hbv.drew, hfa.drew⟩ (fun _ => ?_)
     simp only [pickOps, List.append_eq, List.cons_append, List.nil_append, List.getElem?_toArray, List.getElem?_cons_succ, List.getElem?_cons_zero]
     have hb : Below w1.heap.size w1 w1.drew := (Below.refl _ _).drew
     generalize w1.drew = wd at hb ⊢
     replace hbv := hbv.kept hb
     replace hfa := hfa.kept hb
     replace hst := hst.below hb
     replace hO := hO.kept hb
     replace hbf := hbf.trans (hb.mono hbf.size)
     clear hb
     repeat (first | (refine seq_take (v := ?_) (by rfl) ?_ ?_; rotate_left; (· intro w hSw; (try dsimp only at hSw); obtain ⟨⟨v0, v1, v2, _, _, _⟩, hFA⟩ := hSw; obtain ⟨g0, g1, g2, g3, g4, g5, g6⟩ := hFA.c7; clear hFA; go_simp; all_goals with_reducible rfl); (try simp only [Act.put, List.setIfInBounds_toArray, List.set_cons_zero, List.set_cons_succ])) | (refine seq_leave (by rfl) ?_; (try simp only [Act.put, List.setIfInBounds_toArray, List.set_cons_zero, List.set_cons_succ])))
     refine seq_pass (by rfl) ⟨hbv, hfa⟩ ?_
     repeat (first | (refine seq_take (v := ?_) (by rfl) ?_ ?_; rotate_left; (· intro w hSw; (try dsimp only at hSw); obtain ⟨⟨v0, v1, v2, _, _, _⟩, hFA⟩ := hSw; obtain ⟨g0, g1, g2, g3, g4, g5, g6⟩ := hFA.c7; clear hFA; go_simp; all_goals with_reducible rfl); (try simp only [Act.put, List.setIfInBounds_toArray, List.set_cons_zero, List.set_cons_succ])) | (refine seq_leave (by rfl) ?_; (try simp only [Act.put, List.setIfInBounds_toArray, List.set_cons_zero, List.set_cons_succ])))
     refine seq_end ?_
     clear hst
     have f0 := hbv.f0
     have f1 := hbv.f1
     have f2 := hbv.f2
     have c0 := hbv.c0
     have c1 := hbv.c1
     have c2 := hbv.c2
     obtain ⟨g0, g1, g2, g3, g4, g5, g6⟩ := hfa.c7
     clear g0 g1 g2 g6
     go_upto_region 21 with fail
     clear f0 f1 f2 c0 c1 c2 g3 g4 g5
     obtain ⟨wz, hwE⟩ : ∃ W, W = (((wd.setCell ⟨pv, 0, none⟩ (.int .i64 rk)).setCell ⟨pv, 1, none⟩ (.string ⟨rn.toArray⟩)).setCell ⟨pv, 2, none⟩ (.string ⟨rc.toArray⟩)) := ⟨_, rfl⟩
     have hO2 := hO.set3 (p := pv) (u0 := .int .i64 rk) (u1 := .string ⟨rn.toArray⟩) (u2 := .string ⟨rc.toArray⟩) HNE.out
     have hbf2 := below_set3 (u0 := .int .i64 rk) (u1 := .string ⟨rn.toArray⟩) (u2 := .string ⟨rc.toArray⟩) hbf HPV.out
     have hbv2 := hbv.set3 (u0 := .int .i64 rk) (u1 := .string ⟨rn.toArray⟩) (u2 := .string ⟨rc.toArray⟩)
     rw [← hwE] at hO2 hbf2 hbv2 ⊢
     clear hwE hO hbf hbv hfa
     have c0 := hbv2.c0
     have c1 := hbv2.c1
     have c2 := hbv2.c2
     have hul : us.length ≤ 1000000 := hum
     go_upto_region 11 with (at_builtin; refine append1KO E_val hO2 rfl rfl rfl rfl rfl (by simp [Value.oneCell']) (by omega) (by unfold maxLen; omega) hbf2.size ?_; intro v9 w9 hO9 hb9 hg9 hn9; clear hg9 hn9; replace hO9 : OwnsK 3 w.heap.size 30 w9 v9 (us.length + 1) (vcells (us ++ [(⟨rk, rn, rc⟩ : V3)])) := (by rw [vcells_snoc]; exact hO9); obtain ⟨ao9, cap9, rfl, _, _, _⟩ := hO9.slice)
     have hbf9 := hbf2.trans hb9
     have hO10 : OwnsK 3 w.heap.size 30 w9 (.slice ao9 (us.length + 1) cap9) (us ++ [(⟨rk, rn, rc⟩ : V3)]).length (vcells (us ++ [(⟨rk, rn, rc⟩ : V3)])) := by rw [List.length_append]; exact hO9
     go_wp2_with fail
     go_roundg (gk - 1)
     case measure => omega
     case rel => exact ⟨i + 1, us ++ [(⟨rk, rn, rc⟩ : V3)], ao9, us.length + 1, cap9, by omega, by have := HUL.out; simp; omega, rfl, by go_num, hO10, HR2, hbf9⟩
    case neg =>
     have hkb : (k != 0) = true := by rw [bne_iff_ne]; exact hk0
     have hkb2 : (k == 0) = false := by rw [beq_eq_false_iff_ne]; exact hk0
     obtain ⟨d, hd⟩ : ∃ d, fitB ⟨nm, fk, vals, ⟨rk, rn, rc⟩, inv⟩ ⟨k, n, c⟩ = d := ⟨_, rfl⟩
     have HD := Lib.hid hd
     clear hd
     refine wp_region_seq (S := fun w' => Box3 w' pv (.int .i64 k) (.string ⟨n.toArray⟩) (.string ⟨c.toArray⟩) ∧ FldAt w' b (off + i * 7) ⟨⟨nm, fk, vals, ⟨rk, rn, rc⟩, inv⟩, vo, vc⟩) [(true, 0), (true, 1), (true, 2), (true, 3), (true, 4), (true, 5), (true, 6), (true, 7), (true, 8), (false, 9), (true, 10), (true, 11)] (by kernel_rfl) (by kernel_rfl) (by kernel_rfl) (by kernel_rfl) (by kernel_rfl) (fun d _ _ _ _ h => by cases d <;> exact h) ⟨hbv.drew, hfa.drew⟩ (fun _ => ?_)
     simp only [pickOps, List.append_eq, List.cons_append, List.nil_append, List.getElem?_toArray, List.getElem?_cons_succ, List.getElem?_cons_zero]
     have hb : Below w1.heap.size w1 w1.drew := (Below.refl _ _).drew
     generalize w1.drew = wd at hb ⊢
     replace hbv := hbv.kept hb
     replace hfa := hfa.kept hb
     replace hst := hst.below hb
     replace hO := hO.kept hb
     replace hbf := hbf.trans (hb.mono hbf.size)
     clear hb
     repeat (first | (refine seq_take (v := ?_) (by rfl) ?_ ?_; rotate_left; (· intro w hSw; (try dsimp only at hSw); obtain ⟨⟨v0, v1, v2, _, _, _⟩, hFA⟩ := hSw; obtain ⟨g0, g1, g2, g3, g4, g5, g6⟩ := hFA.c7; clear hFA; go_simp; all_goals with_reducible rfl); (try simp only [Act.put, List.setIfInBounds_toArray, List.set_cons_zero, List.set_cons_succ])) | (refine seq_leave (by rfl) ?_; (try simp only [Act.put, List.setIfInBounds_toArray, List.set_cons_zero, List.set_cons_succ])))
     refine seq_step (by rfl) (fun K hK => ?_)
     go_simp
     go_at_call 11
     (with_reducible refine (rfit_l nm fk vals rk rn rc inv vo vc k n c d _ hst HD).mono ?_)
     rintro e w3 ⟨rfl, hb⟩
     replace hbv := hbv.kept hb
     replace hfa := hfa.kept hb
     replace hst := hst.below hb
     replace hO := hO.kept hb
     replace hbf := hbf.trans (hb.mono hbf.size)
     clear hb
     first | refine hK.out _ _ ⟨hbv, hfa⟩ (fun _ => ?_) | (go_wp2_with fail; refine hK.out _ _ ⟨hbv, hfa⟩ (fun _ => ?_))
     clear hK K
     (try simp only [Act.put, List.setIfInBounds_toArray, List.set_cons_zero, List.set_cons_succ])
     repeat (first | (refine seq_take (v := ?_) (by rfl) ?_ ?_; rotate_left; (· intro w hSw; (try dsimp only at hSw); obtain ⟨⟨v0, v1, v2, _, _, _⟩, hFA⟩ := hSw; obtain ⟨g0, g1, g2, g3, g4, g5, g6⟩ := hFA.c7; clear hFA; go_simp; all_goals with_reducible rfl); (try simp only [Act.put, List.setIfInBounds_toArray, List.set_cons_zero, List.set_cons_succ])) | (refine seq_leave (by rfl) ?_; (try simp only [Act.put, List.setIfInBounds_toArray, List.set_cons_zero, List.set_cons_succ])))
     refine seq_end ?_
     cases d
     case true =>
      have HR2 : Hid (prepGo (us ++ [⟨k, n, c⟩]) (prepL ((xs.map (·.f)).drop (i + 1)) (vs.drop (i + 1))) = prepL (xs.map (·.f)) vs) := Lib.hid (by rw [← HR1.out, prep1_stay hk0 HD.out, prepGo_some])
      clear HR1 hst hfa
      have f0 := hbv.f0
      have f1 := hbv.f1
      have f2 := hbv.f2
      have c0 := hbv.c0
      have c1 := hbv.c1
      have c2 := hbv.c2
      have hul : us.length ≤ 1000000 := hum
      go_upto_region 11 with (at_builtin; refine append1KO E_val hO rfl rfl rfl rfl rfl (by simp [Value.oneCell']) (by omega) (by unfold maxLen; omega) hbf.size ?_; intro v9 w9 hO9 hb9 hg9 hn9; clear hg9 hn9; replace hO9 : OwnsK 3 w.heap.size 30 w9 v9 (us.length + 1) (vcells (us ++ [(⟨k, n, c⟩ : V3)])) := (by rw [vcells_snoc]; exact hO9); obtain ⟨ao9, cap9, rfl, _, _, _⟩ := hO9.slice)
      have hbf9 := hbf.trans hb9
      have hO10 : OwnsK 3 w.heap.size 30 w9 (.slice ao9 (us.length + 1) cap9) (us ++ [(⟨k, n, c⟩ : V3)]).length (vcells (us ++ [(⟨k, n, c⟩ : V3)])) := by rw [List.length_append]; exact hO9
      go_wp2_with fail
      go_roundg (gk - 1)
      case measure => omega
      case rel => exact ⟨i + 1, us ++ [(⟨k, n, c⟩ : V3)], ao9, us.length + 1, cap9, by omega, by have := HUL.out; simp; omega, rfl, by go_num, hO10, HR2, hbf9⟩
     case false =>
      obtain ⟨g0, g1, g2, g3, g4, g5, g6⟩ := hfa.c7
      by_cases h3 : inv = 3
      ·subst h3
       have HR2 : Hid (prepGo (us ++ [⟨rk, rn, rc⟩]) (prepL ((xs.map (·.f)).drop (i + 1)) (vs.drop (i + 1))) = prepL (xs.map (·.f)) vs) := Lib.hid (by rw [← HR1.out, prep1_m3 hk0 HD.out rfl, prepGo_some])
       clear HR1 hst
       have f0 := hbv.f0
       have f1 := hbv.f1
       have f2 := hbv.f2
       have c0 := hbv.c0
       have c1 := hbv.c1
       have c2 := hbv.c2
       go_upto_region 19 with fail
       clear f0 f1 f2 c0 c1 c2 g0 g1 g2 g3 g4 g5 g6
       obtain ⟨wy, hwE⟩ : ∃ W, W = (((w3.setCell ⟨pv, 0, none⟩ (.int .i64 0)).setCell ⟨pv, 1, none⟩ (.string ⟨#[]⟩)).setCell ⟨pv, 2, none⟩ (.string ⟨#[]⟩)) := ⟨_, rfl⟩
       have hO2 := hO.set3 (p := pv) (u0 := .int .i64 0) (u1 := .string ⟨#[]⟩) (u2 := .string ⟨#[]⟩) HNE.out
       have hbf2 := below_set3 (u0 := .int .i64 0) (u1 := .string ⟨#[]⟩) (u2 := .string ⟨#[]⟩) hbf HPV.out
       have hbv2 := hbv.set3 (u0 := .int .i64 0) (u1 := .string ⟨#[]⟩) (u2 := .string ⟨#[]⟩)
       have hfa2 := hfa.set3 (p := pv) (u0 := .int .i64 0) (u1 := .string ⟨#[]⟩) (u2 := .string ⟨#[]⟩) HFB.out
       rw [← hwE] at hO2 hbf2 hbv2 hfa2 ⊢
       clear hwE hO hbf hbv hfa
       have hO := hO2
       have hbf := hbf2
       have hbv := hbv2
       have hfa := hfa2
       clear hO2 hbf2 hbv2 hfa2
       have f0 := hbv.f0
       have f1 := hbv.f1
       have f2 := hbv.f2
       have c0 := hbv.c0
       have c1 := hbv.c1
       have c2 := hbv.c2
       obtain ⟨g0, g1, g2, g3, g4, g5, g6⟩ := hfa.c7
       clear g0 g1 g2 g6
       go_upto_region 21 with fail
       clear f0 f1 f2 c0 c1 c2 g3 g4 g5
       obtain ⟨wz, hwE⟩ : ∃ W, W = (((wy.setCell ⟨pv, 0, none⟩ (.int .i64 rk)).setCell ⟨pv, 1, none⟩ (.string ⟨rn.toArray⟩)).setCell ⟨pv, 2, none⟩ (.string ⟨rc.toArray⟩)) := ⟨_, rfl⟩
       have hO2 := hO.set3 (p := pv) (u0 := .int .i64 rk) (u1 := .string ⟨rn.toArray⟩) (u2 := .string ⟨rc.toArray⟩) HNE.out
       have hbf2 := below_set3 (u0 := .int .i64 rk) (u1 := .string ⟨rn.toArray⟩) (u2 := .string ⟨rc.toArray⟩) hbf HPV.out
       have hbv2 := hbv.set3 (u0 := .int .i64 rk) (u1 := .string ⟨rn.toArray⟩) (u2 := .string ⟨rc.toArray⟩)
       rw [← hwE] at hO2 hbf2 hbv2 ⊢
       clear hwE hO hbf hbv hfa
       have c0 := hbv2.c0
       have c1 := hbv2.c1
       have c2 := hbv2.c2
       have hul : us.length ≤ 1000000 := hum
       go_upto_region 11 with (at_builtin; refine append1KO E_val hO2 rfl rfl rfl rfl rfl (by simp [Value.oneCell']) (by omega) (by unfold maxLen; omega) hbf2.size ?_; intro v9 w9 hO9 hb9 hg9 hn9; clear hg9 hn9; replace hO9 : OwnsK 3 w.heap.size 30 w9 v9 (us.length + 1) (vcells (us ++ [(⟨rk, rn, rc⟩ : V3)])) := (by rw [vcells_snoc]; exact hO9); obtain ⟨ao9, cap9, rfl, _, _, _⟩ := hO9.slice)
       have hbf9 := hbf2.trans hb9
       have hO10 : OwnsK 3 w.heap.size 30 w9 (.slice ao9 (us.length + 1) cap9) (us ++ [(⟨rk, rn, rc⟩ : V3)]).length (vcells (us ++ [(⟨rk, rn, rc⟩ : V3)])) := by rw [List.length_append]; exact hO9
       go_wp2_with fail
       go_roundg (gk - 1)
       case measure => omega
       case rel => exact ⟨i + 1, us ++ [(⟨rk, rn, rc⟩ : V3)], ao9, us.length + 1, cap9, by omega, by have := HUL.out; simp; omega, rfl, by go_num, hO10, HR2, hbf9⟩
      ·have h3n : (inv != 3) = true := by rw [bne_iff_ne]; exact h3
       have h3e : (inv == 3) = false := by rw [beq_eq_false_iff_ne]; exact h3
       by_cases hm : inv = 2 ∧ fk = 2 ∧ k = 2
       ·obtain ⟨rfl, rfl, rfl⟩ := hm
        have HR2 : Hid (prepGo (us ++ [⟨2, n, c⟩]) (prepL ((xs.map (·.f)).drop (i + 1)) (vs.drop (i + 1))) = prepL (xs.map (·.f)) vs) := Lib.hid (by rw [← HR1.out, prep1_m2 hk0 HD.out ⟨rfl, rfl, rfl⟩, prepGo_some])
        clear HR1 hst hfa
        have f0 := hbv.f0
        have f1 := hbv.f1
        have f2 := hbv.f2
        have c0 := hbv.c0
        have c1 := hbv.c1
        have c2 := hbv.c2
        have hul : us.length ≤ 1000000 := hum
        go_upto_region 11 with (at_builtin; refine append1KO E_val hO rfl rfl rfl rfl rfl (by simp [Value.oneCell']) (by omega) (by unfold maxLen; omega) hbf.size ?_; intro v9 w9 hO9 hb9 hg9 hn9; clear hg9 hn9; replace hO9 : OwnsK 3 w.heap.size 30 w9 v9 (us.length + 1) (vcells (us ++ [(⟨2, n, c⟩ : V3)])) := (by rw [vcells_snoc]; exact hO9); obtain ⟨ao9, cap9, rfl, _, _, _⟩ := hO9.slice)
        have hbf9 := hbf.trans hb9
        have hO10 : OwnsK 3 w.heap.size 30 w9 (.slice ao9 (us.length + 1) cap9) (us ++ [(⟨2, n, c⟩ : V3)]).length (vcells (us ++ [(⟨2, n, c⟩ : V3)])) := by rw [List.length_append]; exact hO9
        go_wp2_with fail
        go_roundg (gk - 1)
        case measure => omega
        case rel => exact ⟨i + 1, us ++ [(⟨2, n, c⟩ : V3)], ao9, us.length + 1, cap9, by omega, by have := HUL.out; simp; omega, rfl, by go_num, hO10, HR2, hbf9⟩
       ·have hp : us9 = [] ∧ ok9 = false ∧ c9 = 0 := by
         have hp := HP3.out
         rw [← HR1.out, prep1_m0 hk0 HD.out h3 hm] at hp
         cases hp
         exact ⟨rfl, rfl, rfl⟩
        obtain ⟨rfl, rfl, rfl⟩ := hp
        have c0 := hbv.c0
        by_cases h2 : inv = 2
        ·subst h2
         by_cases hf2 : fk = 2
         ·subst hf2
          have hk2 : (k == 2) = false := by rw [beq_eq_false_iff_ne]; exact fun e => hm ⟨rfl, rfl, e⟩
          clear hm
          go_wp2_with fail
          go_ret3
          exact ⟨_, rfl, OwnsK.nil _ _ _ _, hbf⟩
         ·have hfe : (fk == 2) = false := by rw [beq_eq_false_iff_ne]; exact hf2
          clear hm
          go_wp2_with fail
          go_ret3
          exact ⟨_, rfl, OwnsK.nil _ _ _ _, hbf⟩
        ·have h2e : (inv == 2) = false := by rw [beq_eq_false_iff_ne]; exact h2
         clear hm
         go_wp2_with fail
         go_ret3
         exact ⟨_, rfl, OwnsK.nil _ _ _ _, hbf⟩
end Go.Proofs.YtcpfanpcdkoiaaaGreatDoor

namespace Go.Proofs.YtcpfanpcdkoiaaaGreatDoor
open Go.ChangeShapes Go.WideShapes Go.ChangeAt Go.RowKit Go.Deep

theorem laidOutN : laidOutB Tryz.prog = true := by kernel_rfl
theorem string_field {H : Type} {enc : TypeId × Value → H} {P : Program} {W : World} {base : Nat} {spare : Nat → Bool} {held : Bool} {n : Nat} {t : TypeId} {u : Value} {y : DataW H × List MemPlace} (ht : P.underlying t = some .string) (h : DataW.trod enc P W base spare held n t [u] = some y) :
  ∃ l : List UInt8, u = .string ⟨l.toArray⟩ ∧ l.length ≤ 9223372036854775807 := by
 obtain ⟨s, hs, _, hm⟩ := DataW.trod_string ht h
 obtain ⟨⟨l⟩⟩ := s
 simp at hs
 refine ⟨l, hs, ?_⟩
 unfold maxLen at hm
 have h9 : (⟨⟨l⟩⟩ : ByteArray).size = l.length := rfl
 omega
end Go.Proofs.YtcpfanpcdkoiaaaGreatDoor

namespace Go.Proofs.YtcpfanpcdkoiaaaGreatDoor
open Go.ChangeShapes Go.WideShapes Go.ChangeAt Go.RowKit Go.Deep

instance : Inhabited V3 := ⟨⟨0, [], []⟩⟩
theorem hone_at {P : Program} {t : TypeId} {fs : Array Field} (_ : P.underlying t = some (.struct fs)) (h : oneCellFields P fs = true) : ∀ (i : Nat) (f : Field), fs[i]? = some f → f.offset = i ∧ P.cellsOf f.type = 1 := fun i f hi => hone_of h i f hi
end Go.Proofs.YtcpfanpcdkoiaaaGreatDoor

namespace Go.Proofs.YtcpfanpcdkoiaaaGreatDoor
open Go.ChangeShapes Go.WideShapes Go.ChangeAt Go.RowKit Go.Deep

def RowG {α : Type} (k : Nat) (enc : α → List Value) (w : World) (ao : Option Addr) (xs : List α) : Prop :=
 xs = [] ∨ ∃ b off, ao = some ⟨b, off, none⟩ ∧ b < w.heap.size ∧ ∀ i x, xs[i]? = some x → ∀ j c, (enc x)[j]? = some c → w.cell? ⟨b, off + i * k + j, none⟩ = some c
theorem rowG_field {α : Type} [Inhabited α] {k : Nat} {enc : α → List Value} {good : α → Prop} (hk0 : 0 < k) (henc : ∀ x, (enc x).length = k) {t el : TypeId} {H : Type} {eh : TypeId × Value → H} {W : World} {u : Value} {n : Nat} {y : DataW H × List MemPlace} (ht : Tryz.prog.underlying t = some (.slice el)) (hc : Tryz.prog.cellsOf el = k)
  (each : ∀ (m : Nat) (cs : List Value) (x : DataW H × List MemPlace), m < n → cs.length = k → DataW.trod eh Tryz.prog W 0 (fun _ => true) true m el cs = some x → ∃ z, good z ∧ cs = enc z)
  (hf : DataW.trod eh Tryz.prog W 0 (fun _ => true) true n t [u] = some y) :
  ∃ (ao : Option Addr) (cap : Nat) (xs : List α), u = .slice ao xs.length cap ∧ RowG k enc W ao xs ∧ xs.length ≤ cap ∧ cap ≤ maxLen ∧ (ao = none → cap = 0) ∧ ∀ x ∈ xs, good x := by
 rcases DataW.trod_slice ht hf with ⟨hcs, _⟩ | ⟨a, len, cap, elems, rest, n', hn, hcs, _, _, hl, hm, hel, hx, _, _⟩
 ·injection hcs with h1 _
  subst h1
  exact ⟨none, 0, [], rfl, .inl rfl, Nat.le_refl _, Nat.zero_le _, fun _ => rfl, by simp⟩
 ·injection hcs with h1 _
  subst h1
  rw [hc] at hx
  have each2 : ∀ i, i < len → ∃ z : α, good z ∧ ∀ j c, (enc z)[j]? = some c → W.cell? (a.add (i * k + j)) = some c := by
   intro i hi
   have h0 := hx i hi
   rw [List.getElem?_eq_getElem (by omega)] at h0
   obtain ⟨cs', h1, h2⟩ := Option.bind_eq_some_iff.1 h0
   obtain ⟨_, hlen, hcell⟩ := World.cells?_some h1
   obtain ⟨z, hg, rfl⟩ := each _ _ _ (by omega) hlen h2
   refine ⟨z, hg, fun j c hj => ?_⟩
   have hjk : j < k := by rw [← henc z]; exact (List.getElem?_eq_some_iff.1 hj).1
   have e := hcell j (by omega)
   rw [add_add] at e
   rw [e]
   exact hj
  obtain ⟨V, hV⟩ := choose_lt each2
  have hlV : ((List.range len).map V).length = len := by simp
  refine ⟨some a, cap, (List.range len).map V, by rw [hlV], ?_, by rw [hlV]; exact hl, hm, fun h => (Option.some_ne_none _ h).elim, ?_⟩
  ·rcases Nat.eq_zero_or_pos len with h0 | h0
   ·left; subst h0; rfl
   ·right
    have c0 := (hV 0 h0).2 0 _ (List.getElem?_eq_getElem (by rw [henc]; exact hk0))
    obtain ⟨blk, off, spot⟩ := a
    have hsp : spot = none := by
     unfold World.cell? at c0
     split at c0
     ·cases spot with
      | none => rfl
      | some x => simp [Addr.add] at c0
     ·cases c0
    subst hsp
    rw [Addr.add_lit] at c0
    refine ⟨blk, off, rfl, World.block_lt_of_cell? W ⟨blk, off + (0 * k + 0), none⟩ c0, fun i o hi j c hj => ?_⟩
    have hil : i < len := by
     have := (List.getElem?_eq_some_iff.1 hi).1
     rwa [hlV] at this
    have hv : o = V i := by
     rw [List.getElem?_map, List.getElem?_range hil] at hi
     simpa using hi.symm
    subst hv
    have h9 := (hV i hil).2 j c hj
    rw [Addr.add_lit, ← Nat.add_assoc] at h9
    exact h9
  ·intro o ho
   obtain ⟨i, hi, rfl⟩ := List.mem_map.1 ho
   exact (hV i (List.mem_range.1 hi)).1
theorem strs_cell {H : Type} {enc : TypeId × Value → H} {W : World} {u : Value} {n : Nat} {y : DataW H × List MemPlace} (hf : DataW.trod enc Tryz.prog W 0 (fun _ => true) true n 28 [u] = some y) :
  ∃ (ao : Option Addr) (cap : Nat) (ls : List (List UInt8)), u = .slice ao ls.length cap ∧ Strs W (.slice ao ls.length cap) ls ∧ ∀ l ∈ ls, l.length ≤ 9223372036854775807 := by
 have h1 : Tryz.prog.cellsOf 9 = 1 := by kernel_rfl
 obtain ⟨ao, cap, ls, rfl, hr, hl, hm, _, hg⟩ := rowG_field (α := List UInt8) (k := 1) (enc := fun l => [.string ⟨l.toArray⟩]) (good := fun l => l.length ≤ 9223372036854775807) (by decide) (fun _ => rfl) Tryz.underlying28 h1 (fun m cs x _ hlen h2 => by
  match cs, hlen with
  | [c], _ =>
   obtain ⟨l, hl1, hl2⟩ := string_field Tryz.underlying9 h2
   exact ⟨l, hl2, by rw [hl1]⟩) hf
 refine ⟨ao, cap, ls, rfl, ⟨ao, cap, rfl, hl, hm, ?_⟩, hg⟩
 rcases hr with h | ⟨b, off, h1, h2, h3⟩
 ·exact .inl h
 ·refine .inr ⟨b, off, h1, h2, fun i hi => ?_⟩
  have := h3 i _ (List.getElem?_eq_getElem hi) 0 _ rfl
  rw [List.getElem?_eq_getElem hi]
  rw [Nat.mul_one, Nat.add_zero] at this
  exact this
theorem value_cells {H : Type} {enc : TypeId × Value → H} {W : World} {n : Nat} {cs : List Value} {y : DataW H × List MemPlace} (hlen : cs.length = 3) (hf : DataW.trod enc Tryz.prog W 0 (fun _ => true) true n 30 cs = some y) :
  ∃ u : V3, cs = [.int .i64 u.k, .string ⟨u.n.toArray⟩, .string ⟨u.c.toArray⟩] ∧ u.n.length ≤ 9223372036854775807 ∧ u.c.length ≤ 9223372036854775807 := by
 obtain ⟨xs, k, _, _, _, hxl, hff⟩ := DataW.trod_struct Tryz.underlying30 hf
 have hone := hone_at Tryz.underlying30 (by kernel_rfl)
 have hxl3 : xs.length = 3 := hxl
 match xs, hxl3, cs, hlen, hff with
 | [y0, y1, y2], _, [v0, v1, v2], _, hff =>
  have g0 := hff 0 _ rfl
  have g1 := hff 1 _ rfl
  have g2 := hff 2 _ rfl
  have t0 := hone 0 _ rfl
  have t1 := hone 1 _ rfl
  have t2 := hone 2 _ rfl
  rw [t0.1, t0.2] at g0
  rw [t1.1, t1.2] at g1
  rw [t2.1, t2.2] at g2
  simp at g0 g1 g2
  obtain ⟨c, hc, _, _⟩ := DataW.trod_int Tryz.underlying3 g0
  simp at hc
  obtain ⟨l1, hl1, m1⟩ := string_field Tryz.underlying9 g1
  obtain ⟨l2, hl2, m2⟩ := string_field Tryz.underlying9 g2
  exact ⟨⟨c, l1, l2⟩, by rw [hc, hl1, hl2], m1, m2⟩
def FldsIn (w : World) (v : Value) : Prop := ∃ (ao : Option Addr) (cap : Nat) (xs : List FV), v = .slice ao xs.length cap ∧ Flds w ao xs ∧ xs.length ≤ cap ∧ cap ≤ maxLen ∧ ∀ x ∈ xs, BigF x.f
instance : Inhabited FV := ⟨⟨⟨[], 0, [], ⟨0, [], []⟩, 0⟩, none, 0⟩⟩
theorem fld_cells {H : Type} {enc : TypeId × Value → H} {W : World} {n : Nat} {cs : List Value} {y : DataW H × List MemPlace} (hlen : cs.length = 7) (hf : DataW.trod enc Tryz.prog W 0 (fun _ => true) true n 32 cs = some y) :
  ∃ x : FV, (Strs W (.slice x.vo x.f.vals.length x.vc) x.f.vals ∧ BigF x.f) ∧ cs = x.cells := by
 obtain ⟨xs, k, _, _, _, hxl, hff⟩ := DataW.trod_struct Tryz.underlying32 hf
 have hxl5 : xs.length = 5 := hxl
 have e0 : Tryz.prog.cellsOf 9 = 1 := by kernel_rfl
 have e1 : Tryz.prog.cellsOf 3 = 1 := by kernel_rfl
 have e2 : Tryz.prog.cellsOf 28 = 1 := by kernel_rfl
 have e3 : Tryz.prog.cellsOf 30 = 3 := by kernel_rfl
 match xs, hxl5, cs, hlen, hff with
 | [y0, y1, y2, y3, y4], _, [v0, v1, v2, v3, v4, v5, v6], _, hff =>
  have g0 : DataW.trod enc Tryz.prog W 0 (fun _ => true) true k 9 (List.take (Tryz.prog.cellsOf 9) (List.drop 0 [v0, v1, v2, v3, v4, v5, v6])) = some y0 := hff 0 _ rfl
  have g1 : DataW.trod enc Tryz.prog W 0 (fun _ => true) true k 3 (List.take (Tryz.prog.cellsOf 3) (List.drop 1 [v0, v1, v2, v3, v4, v5, v6])) = some y1 := hff 1 _ rfl
  have g2 : DataW.trod enc Tryz.prog W 0 (fun _ => true) true k 28 (List.take (Tryz.prog.cellsOf 28) (List.drop 2 [v0, v1, v2, v3, v4, v5, v6])) = some y2 := hff 2 _ rfl
  have g3 : DataW.trod enc Tryz.prog W 0 (fun _ => true) true k 30 (List.take (Tryz.prog.cellsOf 30) (List.drop 3 [v0, v1, v2, v3, v4, v5, v6])) = some y3 := hff 3 _ rfl
  have g4 : DataW.trod enc Tryz.prog W 0 (fun _ => true) true k 3 (List.take (Tryz.prog.cellsOf 3) (List.drop 6 [v0, v1, v2, v3, v4, v5, v6])) = some y4 := hff 4 _ rfl
  rw [e0] at g0
  rw [e1] at g1
  rw [e2] at g2
  rw [e3] at g3
  rw [e1] at g4
  simp at g0 g1 g2 g3 g4
  obtain ⟨nm, rfl, m0⟩ := string_field Tryz.underlying9 g0
  obtain ⟨fk, hc1, _, _⟩ := DataW.trod_int Tryz.underlying3 g1
  simp at hc1
  obtain ⟨vo, vc, vals, rfl, hS, m2⟩ := strs_cell g2
  obtain ⟨u, hu, m3, m4⟩ := value_cells rfl g3
  obtain ⟨inv, hc4, _, _⟩ := DataW.trod_int Tryz.underlying3 g4
  simp at hc4 hu
  obtain ⟨rfl, rfl, rfl⟩ := hu
  exact ⟨⟨⟨nm, fk, vals, u, inv⟩, vo, vc⟩, ⟨hS, ⟨m0, m3, m4, m2⟩⟩, by rw [hc1, hc4]; rfl⟩
theorem flds_cell {H : Type} {enc : TypeId × Value → H} {W : World} {u : Value} {n : Nat} {y : DataW H × List MemPlace} (hf : DataW.trod enc Tryz.prog W 0 (fun _ => true) true n 22 [u] = some y) : FldsIn W u := by
 have e7 : Tryz.prog.cellsOf 32 = 7 := by kernel_rfl
 obtain ⟨ao, cap, xs, rfl, hr, hl, hm, _, hg⟩ := rowG_field (α := FV) (k := 7) (enc := FV.cells) (good := fun x => Strs W (.slice x.vo x.f.vals.length x.vc) x.f.vals ∧ BigF x.f) (by decide) (fun _ => rfl) Tryz.underlying22 e7 (fun m cs x _ hlen h2 => fld_cells hlen h2) hf
 exact ⟨ao, cap, xs, rfl, ⟨hr, fun x hx => (hg x hx).1⟩, hl, hm, fun x hx => (hg x hx).2⟩
theorem flds_of_trod {H : Type} {enc : TypeId × Value → H} {W : World} {base : Nat} {v : Value} {d : DataW H} {p : List MemPlace} (hok : Value.okWide Tryz.prog W .any base 22 v) (h : DataW.Trod enc Tryz.prog W 0 (fun _ => true) true 22 v d p) : FldsIn W v := by
 obtain ⟨a0, len, cap, rfl⟩ := okWide_slice Tryz.underlying22 hok
 obtain ⟨fuel, hf⟩ := h
 exact flds_cell hf
end Go.Proofs.YtcpfanpcdkoiaaaGreatDoor

namespace Go.Proofs.YtcpfanpcdkoiaaaGreatDoor
open Go.ChangeShapes Go.WideShapes Go.ChangeAt Go.RowKit Go.Deep

def ValsIx (w : World) (v : Value) : Prop := ∃ (ao : Option Addr) (cap : Nat) (vs : List V3), v = .slice ao vs.length cap ∧ Vals w ao vs ∧ vs.length ≤ cap ∧ cap ≤ maxLen ∧ (ao = none → cap = 0) ∧ ∀ u ∈ vs, u.n.length ≤ 9223372036854775807 ∧ u.c.length ≤ 9223372036854775807
theorem vals_of_trodx {H : Type} {enc : TypeId × Value → H} {W : World} {base : Nat} {v : Value} {d : DataW H} {p : List MemPlace} (hok : Value.okWide Tryz.prog W .any base 23 v) (h : DataW.Trod enc Tryz.prog W 0 (fun _ => true) true 23 v d p) : ValsIx W v := by
 obtain ⟨a0, len, cap, rfl⟩ := okWide_slice Tryz.underlying23 hok
 obtain ⟨fuel, hf⟩ := h
 rcases open_slice Tryz.underlying23 hf with ⟨hcs, _⟩ | ⟨a, len', cap', m, n, D, Pl, hcs, _, hl, hm, hmm, _, hx⟩
 ·simp [Value.cells] at hcs
  obtain ⟨rfl, rfl, rfl⟩ := hcs
  exact ⟨none, 0, [], rfl, fun i v hi => by simp at hi, Nat.le_refl _, Nat.zero_le _, fun _ => rfl, by simp⟩
 ·simp [Value.cells] at hcs
  obtain ⟨rfl, rfl, rfl⟩ := hcs
  have hcell3 : Tryz.prog.cellsOf 30 = 3 := by kernel_rfl
  rw [hcell3] at hx
  have hmm2 : len ≤ m := by rw [hmm]; simp only [if_true]; exact hl
  have each : ∀ i, i < len → ∃ u : V3, W.cell? (a.add (i * 3)) = some (.int .i64 u.k) ∧ W.cell? (a.add (i * 3 + 1)) = some (.string ⟨u.n.toArray⟩) ∧ W.cell? (a.add (i * 3 + 2)) = some (.string ⟨u.c.toArray⟩) ∧ u.n.length ≤ 9223372036854775807 ∧ u.c.length ≤ 9223372036854775807 := by
   intro i hi
   obtain ⟨cs', h1, h2⟩ := hx i (by omega)
   obtain ⟨_, hlen, hcell⟩ := World.cells?_some h1
   obtain ⟨xs, k, _, _, _, hxl, hff⟩ := DataW.trod_struct Tryz.underlying30 h2
   have hone := hone_at Tryz.underlying30 (by kernel_rfl)
   have hxl3 : xs.length = 3 := hxl
   match xs, hxl3, cs', hlen, hff, hcell with
   | [y0, y1, y2], _, [v0, v1, v2], _, hff, hcell =>
    have g0 := hff 0 _ rfl
    have g1 := hff 1 _ rfl
    have g2 := hff 2 _ rfl
    have t0 := hone 0 _ rfl
    have t1 := hone 1 _ rfl
    have t2 := hone 2 _ rfl
    rw [t0.1, t0.2] at g0
    rw [t1.1, t1.2] at g1
    rw [t2.1, t2.2] at g2
    simp at g0 g1 g2
    have e0 := hcell 0 (by omega)
    have e1 := hcell 1 (by omega)
    have e2 := hcell 2 (by omega)
    rw [add_add] at e0 e1 e2
    simp at e0 e1 e2
    obtain ⟨c, hc, _, _⟩ := DataW.trod_int Tryz.underlying3 g0
    simp at hc
    obtain ⟨l1, hl1, m1⟩ := string_field Tryz.underlying9 g1
    obtain ⟨l2, hl2, m2⟩ := string_field Tryz.underlying9 g2
    exact ⟨⟨c, l1, l2⟩, by rw [e0, hc], by rw [e1, hl1], by rw [e2, hl2], m1, m2⟩
  obtain ⟨V, hV⟩ := choose_lt each
  have hlV : ((List.range len).map V).length = len := by simp
  refine ⟨some a, cap, (List.range len).map V, by rw [hlV], ?_, by rw [hlV]; exact hl, hm, (fun h => by cases h), ?_⟩
  ·intro i v hi
   have hil : i < len := by
    have := (List.getElem?_eq_some_iff.1 hi).1
    rwa [hlV] at this
   have hv : v = V i := by
    rw [List.getElem?_map, List.getElem?_range hil] at hi
    simpa using hi.symm
   subst hv
   obtain ⟨c0, c1, c2, _, _⟩ := hV i hil
   obtain ⟨blk, off, spot⟩ := a
   have hsp : spot = none := by
    have c00 := (hV 0 (by omega)).1
    rw [Nat.zero_mul] at c00
    unfold World.cell? at c00
    split at c00
    ·cases spot with
     | none => rfl
     | some x => simp [Addr.add] at c00
    ·cases c00
   subst hsp
   rw [Addr.add_lit] at c0 c1 c2
   exact ⟨blk, off, rfl, ⟨c0⟩, ⟨by rw [Nat.add_assoc]; exact c1⟩, ⟨by rw [Nat.add_assoc]; exact c2⟩⟩
  ·intro u hu
   obtain ⟨i, hi, rfl⟩ := List.mem_map.1 hu
   exact (hV i (List.mem_range.1 hi)).2.2.2
end Go.Proofs.YtcpfanpcdkoiaaaGreatDoor
