/-
  Pj27: LawVP (what is needed of them).
-/
import Derived.Test.YtcpfanpcdkoiaaaGreatDoorPj20
import Derived.Test.YtcpfanpcdkoiaaaGreatDoorPj23
import Derived.Test.YtcpfanpcdkoiaaaGreatDoorPj26
set_option maxRecDepth 100000
set_option linter.unusedVariables false
set_option linter.unusedSimpArgs false

namespace Go.Proofs.YtcpfanpcdkoiaaaGreatDoor
open Go.RowKit Go.Shelf


attribute [local go_sem] field_nat
theorem row_hx (ao : Option Addr) (cap : Nat) (vs : List V3) (b : Bool) (w : World) (hv : Hid (Vals w ao vs)) (hl : Hid (∀ v ∈ vs, v.n.length ≤ 9223372036854775807 ∧ v.c.length ≤ 9223372036854775807)) (HB : Hid (b = rowB vs)) : Calls Tryz.prog 6 #[.slice ao vs.length cap] w fun e w' => e = .returned (.bool b) ∧ Below w.heap.size w w' := row_any ao cap vs b w hv.out hl.out HB
theorem prepL_le : ∀ (fs : List F5) (vs us : List V3), prepL fs vs = some us → us.length ≤ vs.length := by
 intro fs
 induction fs with
 | nil => intro vs us h; unfold prepL at h; cases h; exact Nat.zero_le _
 | cons f fs ih =>
  intro vs us h
  cases vs with
  | nil => unfold prepL at h; cases h; exact Nat.zero_le _
  | cons v vs =>
   unfold prepL at h
   cases h1 : prep1 f v with
   | none => rw [h1] at h; cases h
   | some u =>
    rw [h1] at h
    cases h3 : prepL fs vs with
    | none => rw [h3] at h; cases h
    | some ws =>
     rw [h3] at h
     cases h
     have := ih vs ws h3
     simp only [List.length_cons]
     omega
theorem prepV_le {fs : List F5} {vs us : List V3} {b : Bool} {c : Int} (h : prepV fs vs = (us, b, c)) : us.length ≤ vs.length := by
 unfold prepV at h
 split at h
 ·cases h; exact Nat.zero_le _
 ·split at h
  ·cases h; exact Nat.zero_le _
  ·cases hp : prepL fs vs with
   | none => rw [hp] at h; cases h; exact Nat.zero_le _
   | some ws => rw [hp] at h; cases h; exact prepL_le _ _ _ hp
theorem below_keep1 {B kb : Nat} {w w' : World} (h : Keep (fun k => k = kb) w w') (hk : B ≤ kb) (hB : B ≤ w.heap.size) : Below B w w' := h.below (fun k hk9 => by omega) hB
set_option maxHeartbeats 8000000 in
theorem valuePrepares_main (ao : Option Addr) (cap : Nat) (xs : List FV) (ro : Option Addr) (rcap : Nat) (vs : List V3) (w : World) (hF0 : Flds w ao xs) (hV0 : Vals w ro vs) (hxl : xs.length ≤ 9223372036854775807) (hbig : ∀ x ∈ xs, BigF x.f) (hvc : vs.length ≤ rcap) (hrc : rcap ≤ maxLen) (hrn : ro = none → rcap = 0) (hvb : ∀ u ∈ vs, u.n.length ≤ 9223372036854775807 ∧ u.c.length ≤ 9223372036854775807) :
  Calls Tryz.prog 3 #[.slice ao xs.length cap, .slice ro vs.length rcap] w fun e w' => e = .returned (.bool true) ∧ Below w.heap.size w w' := by
 obtain ⟨fb, hfb⟩ : ∃ b, b = fieldsB (xs.map (·.f)) := ⟨_, rfl⟩
 obtain ⟨rb0, hrb⟩ : ∃ b, b = rowB vs := ⟨_, rfl⟩
 have HFB := Lib.hid hfb
 have HRB := Lib.hid hrb
 have HF := Lib.hid hF0
 have HV := Lib.hid hV0
 have HXL := Lib.hid hxl
 have HBIG := Lib.hid hbig
 have HVB := Lib.hid hvb
 have HRI : Hid (ValI w (.slice ro vs.length rcap) vs) := Lib.hid ⟨ro, rcap, rfl, hvc, hrc, hrn, hV0⟩
 have hbf : Below w.heap.size w w := Below.refl _ _
 clear hfb hrb hF0 hV0 hxl hbig hvb hrn hvc hrc
 go_enter Tryz.func3, Tryz.ntmps3
 go_wp2_with fail
 (with_reducible refine (fields_t ao cap xs fb _ HF HXL HBIG HFB).mono ?_)
 rintro e w1 ⟨rfl, hb⟩
 replace hbf := hbf.trans (hb.mono hbf.size)
 clear hb
 cases fb
 case false =>
  go_wp2_with fail
  refine (alive12_any _).mono ?_
  rintro e w9 ⟨rfl, hb⟩
  go_wp2_with fail
  go_ret
  exact ⟨ret_one rfl, hbf.trans (hb.mono hbf.size)⟩
 case true =>
 have HXM : Hid (xs.length ≤ 2000 ∧ ∀ x ∈ xs, Small x.f) := Lib.hid (by have h := fieldsB_le HFB.out.symm; rw [List.length_map] at h; exact ⟨h.1, fun x hx => h.2 _ (List.mem_map_of_mem hx)⟩)
 clear HFB HXL HBIG
 have HV1 : Hid (Vals w1 ro vs) := Lib.hid (HV.out.below hbf)
 go_wp2_with fail
 (with_reducible refine (row_hx ro rcap vs rb0 _ HV1 HVB HRB).mono ?_)
 rintro e w2 ⟨rfl, hb⟩
 replace hbf := hbf.trans (hb.mono hbf.size)
 clear hb HV1
 cases rb0
 case false =>
  go_wp2_with fail
  refine (alive12_any _).mono ?_
  rintro e w9 ⟨rfl, hb⟩
  go_wp2_with fail
  go_ret
  exact ⟨ret_one rfl, hbf.trans (hb.mono hbf.size)⟩
 case true =>
 have HVM : Hid (vs.length ≤ 50 ∧ ∀ v ∈ vs, v.n.length ≤ 4000 ∧ v.c.length ≤ 4000) := Lib.hid (rowB_le HRB.out.symm)
 clear HRB HVB
 go_wp2_with fail
 refine (alive12_any _).mono ?_
 rintro e w3 ⟨rfl, hb⟩
 replace hbf := hbf.trans (hb.mono hbf.size)
 clear hb
 have hxm : xs.length ≤ 2000 := HXM.out.1
 have hvm : vs.length ≤ 50 := HVM.out.1
 go_wp2_with fail
 go_loopg [5] xs.length (fun gg iv wr => ∃ (i : Nat), i + gg = xs.length ∧ iv = .int .i64 (i : Int) ∧ Below w.heap.size w wr)
 case atStart => exact ⟨0, by omega, rfl, hbf⟩
 clear hbf
 case round =>
  obtain ⟨i, hi, rfl, hbr⟩ := hrel
  by_cases hil : i < xs.length
  case pos =>
   have hii : ((i : Nat) : Int) < ((xs.length : Nat) : Int) := by omega
   have hi0 : (0 : Int) ≤ ((i : Nat) : Int) := by omega
   obtain ⟨x, hx9⟩ : ∃ x, xs[i]? = some x := ⟨_, List.getElem?_eq_getElem hil⟩
   have hmem : x ∈ xs := List.mem_of_getElem? hx9
   have hrn : Hid (x.f.r.n.length ≤ 1000000) := Lib.hid (by have := (HXM.out.2 x hmem).rn; omega)
   obtain ⟨b, off, ha, hfa⟩ := HF.out.at hx9
   have hst := (HF.out.2 x hmem).below hbr
   replace hfa := hfa.kept hbr
   obtain ⟨⟨nm, fk, vals, ⟨rk, rn, rc⟩, inv⟩, vo, vc⟩ := x
   dsimp only at hrn hst
   have HAO := Lib.hid ha
   rw [ha]
   obtain ⟨d, hd⟩ : ∃ d, d = validF ⟨nm, fk, vals, ⟨rk, rn, rc⟩, inv⟩ := ⟨_, rfl⟩
   have HD := Lib.hid hd
   clear ha hd hmem hx9
   go_upto_region 6 with fail
   refine wp_region_seq (S := fun w' => FldAt w' b (off + i * 7) ⟨⟨nm, fk, vals, ⟨rk, rn, rc⟩, inv⟩, vo, vc⟩) [(true, 0), (true, 1), (true, 2), (true, 3), (true, 5), (true, 6), (true, 7), (true, 8), (false, 4), (false, 9), (true, 10)] (by kernel_rfl) (by kernel_rfl) (by kernel_rfl) (by kernel_rfl) (by kernel_rfl) (fun d _ _ _ _ h => by cases d <;> exact h) hfa.drew (fun _ => ?_)
   simp only [pickOps, List.append_eq, List.cons_append, List.nil_append, List.getElem?_toArray, List.getElem?_cons_succ, List.getElem?_cons_zero]
   have hb : Below wr.heap.size wr wr.drew := (Below.refl _ _).drew
   generalize wr.drew = wd at hb ⊢
   replace hfa := hfa.kept hb
   replace hst := hst.below hb
   replace hbr := hbr.trans (hb.mono hbr.size)
   clear hb
   repeat (first | (refine seq_take (v := ?_) (by rfl) ?_ ?_; rotate_left; (· intro w hSw; (try dsimp only at hSw); obtain ⟨g0, g1, g2, g3, g4, g5, g6⟩ := FldAt.c7 hSw; clear hSw; go_simp; all_goals with_reducible rfl); (try simp only [Act.put, List.setIfInBounds_toArray, List.set_cons_zero, List.set_cons_succ])) | (refine seq_leave (by rfl) ?_; (try simp only [Act.put, List.setIfInBounds_toArray, List.set_cons_zero, List.set_cons_succ])))
   refine seq_step (by rfl) (fun K hK => ?_)
   go_simp
   go_at_call 8
   (with_reducible refine (validF_l nm fk vals rk rn rc inv vo vc d _ hst hrn HD).mono ?_)
   rintro e w2 ⟨rfl, hb⟩
   replace hfa := hfa.kept hb
   replace hst := hst.below hb
   replace hbr := hbr.trans (hb.mono hbr.size)
   clear hb
   first | refine hK.out _ _ hfa (fun _ => ?_) | (go_wp2_with fail; refine hK.out _ _ hfa (fun _ => ?_))
   clear hK K
   (try simp only [Act.put, List.setIfInBounds_toArray, List.set_cons_zero, List.set_cons_succ])
   repeat (first | (refine seq_take (v := ?_) (by rfl) ?_ ?_; rotate_left; (· intro w hSw; (try dsimp only at hSw); obtain ⟨g0, g1, g2, g3, g4, g5, g6⟩ := FldAt.c7 hSw; clear hSw; go_simp; all_goals with_reducible rfl); (try simp only [Act.put, List.setIfInBounds_toArray, List.set_cons_zero, List.set_cons_succ])) | (refine seq_leave (by rfl) ?_; (try simp only [Act.put, List.setIfInBounds_toArray, List.set_cons_zero, List.set_cons_succ])))
   refine seq_step (by rfl) (fun K hK => ?_)
   go_simp
   go_at_call 9
   (with_reducible refine (rvalidF_l nm fk vals rk rn rc inv vo vc d _ hst hrn HD).mono ?_)
   rintro e w3 ⟨rfl, hb⟩
   replace hfa := hfa.kept hb
   replace hst := hst.below hb
   replace hbr := hbr.trans (hb.mono hbr.size)
   clear hb
   first | refine hK.out _ _ hfa (fun _ => ?_) | (go_wp2_with fail; refine hK.out _ _ hfa (fun _ => ?_))
   clear hK K
   (try simp only [Act.put, List.setIfInBounds_toArray, List.set_cons_zero, List.set_cons_succ])
   repeat (first | (refine seq_take (v := ?_) (by rfl) ?_ ?_; rotate_left; (· intro w hSw; (try dsimp only at hSw); obtain ⟨g0, g1, g2, g3, g4, g5, g6⟩ := FldAt.c7 hSw; clear hSw; go_simp; all_goals with_reducible rfl); (try simp only [Act.put, List.setIfInBounds_toArray, List.set_cons_zero, List.set_cons_succ])) | (refine seq_leave (by rfl) ?_; (try simp only [Act.put, List.setIfInBounds_toArray, List.set_cons_zero, List.set_cons_succ])))
   refine seq_end ?_
   have hdd : (d != d) = false := by simp
   go_wp2_with fail
   clear hdd HD
   rw [← HAO.out]
   obtain ⟨go, hgo⟩ : ∃ go, go = gk := ⟨_, rfl⟩
   subst hgo
   go_loopg [6] vs.length (fun gg kv wr => ∃ (k : Nat), k + gg = vs.length ∧ kv = .int .i64 (k : Int) ∧ FldAt wr b (off + i * 7) ⟨⟨nm, fk, vals, ⟨rk, rn, rc⟩, inv⟩, vo, vc⟩ ∧ Strs wr (.slice vo vals.length vc) vals ∧ Below w.heap.size w wr)
   case atStart => exact ⟨0, by omega, rfl, hfa, hst, hbr⟩
   clear hfa hst hbr
   case round =>
    obtain ⟨k, hk, rfl, hfa, hst, hbr⟩ := hrel
    by_cases hkl : k < vs.length
    case pos =>
     have hkk : ((k : Nat) : Int) < ((vs.length : Nat) : Int) := by omega
     have hk0 : (0 : Int) ≤ ((k : Nat) : Int) := by omega
     obtain ⟨v, hv9⟩ : ∃ v, vs[k]? = some v := ⟨_, List.getElem?_eq_getElem hkl⟩
     obtain ⟨rb, roff, har, v0, v1, v2⟩ := HV.out k v hv9
     replace v0 := v0.kept hbr
     replace v1 := v1.kept hbr
     replace v2 := v2.kept hbr
     obtain ⟨vk, vn, vcc⟩ := v
     dsimp only at v0 v1 v2
     have HRO := Lib.hid har
     obtain ⟨d, hd⟩ : ∃ d, fitB ⟨nm, fk, vals, ⟨rk, rn, rc⟩, inv⟩ ⟨vk, vn, vcc⟩ = d := ⟨_, rfl⟩
     have HD := Lib.hid hd
     rw [HAO.out, har]
     clear hd har hv9
     go_upto_region 11 with fail
     refine wp_region_seq (S := fun w' => FldAt w' b (off + i * 7) ⟨⟨nm, fk, vals, ⟨rk, rn, rc⟩, inv⟩, vo, vc⟩ ∧ CellV w' rb (roff + k * 3) (.int .i64 vk) ∧ CellV w' rb (roff + k * 3 + 1) (.string ⟨vn.toArray⟩) ∧ CellV w' rb (roff + k * 3 + 2) (.string ⟨vcc.toArray⟩)) [(true, 0), (true, 1), (true, 2), (true, 3), (true, 4), (true, 5), (true, 6), (true, 7), (true, 9), (true, 10), (true, 11), (true, 12), (true, 13), (true, 14), (true, 15), (true, 16), (false, 8), (false, 17), (true, 18)] (by kernel_rfl) (by kernel_rfl) (by kernel_rfl) (by kernel_rfl) (by kernel_rfl) (fun d _ _ _ _ h => by cases d <;> exact h) ⟨hfa.drew, v0.drew, v1.drew, v2.drew⟩ (fun _ => ?_)
     simp only [pickOps, List.append_eq, List.cons_append, List.nil_append, List.getElem?_toArray, List.getElem?_cons_succ, List.getElem?_cons_zero]
     have hb : Below wr.heap.size wr wr.drew := (Below.refl _ _).drew
     generalize wr.drew = wd at hb ⊢
     replace hfa := hfa.kept hb
     replace hst := hst.below hb
     replace v0 := v0.kept hb
     replace v1 := v1.kept hb
     replace v2 := v2.kept hb
     replace hbr := hbr.trans (hb.mono hbr.size)
     clear hb
     repeat (first | (refine seq_take (v := ?_) (by rfl) ?_ ?_; rotate_left; (· intro w hSw; (try dsimp only at hSw); obtain ⟨hFA, ⟨v0⟩, ⟨v1⟩, ⟨v2⟩⟩ := hSw; obtain ⟨g0, g1, g2, g3, g4, g5, g6⟩ := FldAt.c7 hFA; clear hFA; go_simp; all_goals with_reducible rfl); (try simp only [Act.put, List.setIfInBounds_toArray, List.set_cons_zero, List.set_cons_succ])) | (refine seq_leave (by rfl) ?_; (try simp only [Act.put, List.setIfInBounds_toArray, List.set_cons_zero, List.set_cons_succ])))
     refine seq_step (by rfl) (fun K hK => ?_)
     go_simp
     go_at_call 10
     (with_reducible refine (fit_l nm fk vals rk rn rc inv vo vc vk vn vcc d _ hst HD).mono ?_)
     rintro e w2 ⟨rfl, hb⟩
     replace hfa := hfa.kept hb
     replace hst := hst.below hb
     replace v0 := v0.kept hb
     replace v1 := v1.kept hb
     replace v2 := v2.kept hb
     replace hbr := hbr.trans (hb.mono hbr.size)
     clear hb
     first | refine hK.out _ _ ⟨hfa, v0, v1, v2⟩ (fun _ => ?_) | (go_wp2_with fail; refine hK.out _ _ ⟨hfa, v0, v1, v2⟩ (fun _ => ?_))
     clear hK K
     (try simp only [Act.put, List.setIfInBounds_toArray, List.set_cons_zero, List.set_cons_succ])
     repeat (first | (refine seq_take (v := ?_) (by rfl) ?_ ?_; rotate_left; (· intro w hSw; (try dsimp only at hSw); obtain ⟨hFA, ⟨v0⟩, ⟨v1⟩, ⟨v2⟩⟩ := hSw; obtain ⟨g0, g1, g2, g3, g4, g5, g6⟩ := FldAt.c7 hFA; clear hFA; go_simp; all_goals with_reducible rfl); (try simp only [Act.put, List.setIfInBounds_toArray, List.set_cons_zero, List.set_cons_succ])) | (refine seq_leave (by rfl) ?_; (try simp only [Act.put, List.setIfInBounds_toArray, List.set_cons_zero, List.set_cons_succ])))
     refine seq_step (by rfl) (fun K hK => ?_)
     go_simp
     go_at_call 11
     (with_reducible refine (rfit_l nm fk vals rk rn rc inv vo vc vk vn vcc d _ hst HD).mono ?_)
     rintro e w3 ⟨rfl, hb⟩
     replace hfa := hfa.kept hb
     replace hst := hst.below hb
     replace v0 := v0.kept hb
     replace v1 := v1.kept hb
     replace v2 := v2.kept hb
     replace hbr := hbr.trans (hb.mono hbr.size)
     clear hb
     first | refine hK.out _ _ ⟨hfa, v0, v1, v2⟩ (fun _ => ?_) | (go_wp2_with fail; refine hK.out _ _ ⟨hfa, v0, v1, v2⟩ (fun _ => ?_))
     clear hK K
     (try simp only [Act.put, List.setIfInBounds_toArray, List.set_cons_zero, List.set_cons_succ])
     repeat (first | (refine seq_take (v := ?_) (by rfl) ?_ ?_; rotate_left; (· intro w hSw; (try dsimp only at hSw); obtain ⟨hFA, ⟨v0⟩, ⟨v1⟩, ⟨v2⟩⟩ := hSw; obtain ⟨g0, g1, g2, g3, g4, g5, g6⟩ := FldAt.c7 hFA; clear hFA; go_simp; all_goals with_reducible rfl); (try simp only [Act.put, List.setIfInBounds_toArray, List.set_cons_zero, List.set_cons_succ])) | (refine seq_leave (by rfl) ?_; (try simp only [Act.put, List.setIfInBounds_toArray, List.set_cons_zero, List.set_cons_succ])))
     refine seq_end ?_
     have hdd : (d != d) = false := by simp
     go_wp2_with fail
     clear hdd HD
     rw [← HAO.out, ← HRO.out]
     go_roundg (gk - 1)
     case measure => omega
     case rel => exact ⟨k + 1, by omega, by go_num, hfa, hst, hbr⟩
    case neg =>
     have hkk : ¬ ((k : Nat) : Int) < ((vs.length : Nat) : Int) := by omega
     go_wp2_with fail
     go_roundg (go - 1)
     case measure => omega
     case rel => exact ⟨i + 1, by omega, by go_num, hbr⟩
  case neg =>
   have hii : ¬ ((i : Nat) : Int) < ((xs.length : Nat) : Int) := by omega
   clear hil hi
   obtain ⟨kb, hkb⟩ : ∃ k, k = wr.heap.size := ⟨_, rfl⟩
   obtain ⟨w5, hw5⟩ : ∃ W, W = wr.alloc (.cells #[.slice none 0 0, .slice none 0 0, .slice none 0 0, .slice none 0 0, .slice none 0 0, .slice none 0 0, .slice none 0 0, .slice none 0 0, .slice none 0 0, .slice none 0 0, .slice none 0 0, .slice none 0 0] 42) := ⟨_, rfl⟩
   have hb5 : Below wr.heap.size wr w5 := by rw [hw5]; exact (Below.refl _ wr).alloc (Nat.le_refl _) _
   have HBK : Hid (BkVs kb kb (fun _ => False) w5) := Lib.hid (by rw [hw5, hkb]; exact BkVs.new wr _)
   have HKW : Hid (kb < w5.heap.size) := Lib.hid (by rw [hw5, hkb]; simp)
   have HWK : Hid (w.heap.size ≤ kb) := Lib.hid (by rw [hkb]; exact hbr.size)
   have HW := Lib.hid hw5
   clear hw5
   go_upto_region 14 with fail
   rw [← HW.out, ← hkb]
   clear HW hkb
   replace hbr := hbr.trans (hb5.mono hbr.size)
   clear hb5
   obtain ⟨⟨us9, ok9, c9⟩, hpv⟩ : ∃ p, prepV (xs.map (·.f)) vs = p := ⟨_, rfl⟩
   have HPV := Lib.hid hpv
   have HUL : Hid (us9.length ≤ 50) := Lib.hid (by have := prepV_le hpv; omega)
   have HFR : Hid (∀ x ∈ xs, x.f.r.n.length ≤ 1000000) := Lib.hid (fun x hx => by have := (HXM.out.2 x hx).rn; omega)
   have HVR : Hid (∀ v ∈ vs, v.n.length ≤ 1000000) := Lib.hid (fun v hv => by have := (HVM.out.2 v hv).1; omega)
   clear hpv
   have hcall := rprepare_any ao cap xs.length xs ro rcap vs us9 ok9 c9 w5 rfl (Lib.hid (HF.out.below hbr)) (Lib.hid (HV.out.below hbr)) HFR HVR (by omega) HPV
   go_wp2_with fail
   refine hcall.mono ?_
   rintro e w6 ⟨r, rfl, hO, hb⟩
   have hX : OwV w5.heap.size w6 r us9 := hO
   obtain ⟨xo, xc, rfl, -, -⟩ := hX.form
   have HX := Lib.hid hX
   replace HBK : Hid (BkVs kb kb (fun _ => False) w6) := Lib.hid (HBK.out.kept hb)
   replace hbr := hbr.trans (hb.mono hbr.size)
   obtain ⟨D9, hD9⟩ : ∃ d, d = w6.heap.size := ⟨_, rfl⟩
   have HD9 : Hid (D9 = w6.heap.size ∧ kb < D9) := Lib.hid (by have := hb.size; have := HKW.out; omega)
   clear hcall hO hb hX hD9
   go_wp2_with fail
   go_loopg [11] 2 (fun gg kv wr => ∃ (k : Nat) (S : Nat → Prop), k + gg = 2 ∧ kv = .int .i64 (k : Int) ∧ Hid (BkVs kb kb S wr) ∧ Hid (∀ j, S j → D9 ≤ j ∧ j < wr.heap.size) ∧ Hid (Keep (fun j => j = kb) w6 wr))
   case atStart => exact ⟨0, fun _ => False, by omega, rfl, HBK, Lib.hid (fun j h => h.elim), Lib.hid (Keep.refl _ _)⟩
   clear HBK
   case round =>
    obtain ⟨k, S, hk, rfl, HBK, HSS, HKP⟩ := hrel
    have HB9 : Hid (Below w.heap.size w wr) := Lib.hid (hbr.trans (below_keep1 HKP.out HWK.out hbr.size))
    by_cases hkl : k < 2
    case pos =>
     have hkk : ((k : Nat) : Int) < 2 := by omega
     have hcall := lent_vals (.slice ro vs.length rcap) vs wr (HRI.out.below HB9.out) (by omega)
     go_wp2_with fail
     refine hcall.mono ?_
     rintro e w7 ⟨m, rfl, hL, hb7⟩
     have HL := Lib.hid hL
     obtain ⟨mo, mc, rfl, -, -, -, hMv⟩ := hL.val
     have hF7 : Hid (Flds w7 ao xs) := Lib.hid (HF.out.below (HB9.out.trans (hb7.mono HB9.out.size)))
     have hcall2 := prepare_any ao cap xs.length xs mo mc vs us9 ok9 c9 w7 rfl hF7 (Lib.hid hMv) HFR HVR (by omega) HPV
     clear hcall hL hMv
     go_wp2_with fail
     refine hcall2.mono ?_
     rintro e w8 ⟨y, rfl, hO, hb8⟩
     have hY : OwV w7.heap.size w8 y us9 := hO
     obtain ⟨yo, yc, rfl, -, -⟩ := hY.form
     have HY := Lib.hid hY
     have HB7 := Lib.hid hb7
     have HB8 := Lib.hid hb8
     have hsz : D9 ≤ wr.heap.size := by have := HKP.out.size; have := HD9.out; omega
     have HKN : Hid (∀ j, (Value.slice yo us9.length yc).ownBlock = some j → ¬ S j ∧ j ≠ kb) := Lib.hid (fun j hj => by
      have h1 := (HY.out.lt j hj).1
      have h2 := HB7.out.size
      have h3 := HD9.out
      exact ⟨fun hs => by have := (HSS.out j hs).2; omega, fun e => by omega⟩)
     have hcall3 := bookValues_any kb kb S (.slice yo us9.length yc) us9 w8 ((HBK.out.kept hb7).kept hb8) (by have := hb7.size; have := hb8.size; have := HD9.out; omega) (hY.mono (by have := hb7.size; have := HD9.out; omega)) (by have := HUL.out; omega) HKN.out
     clear hcall2 hO hY hb7 hb8
     go_wp2_with fail
     refine hcall3.mono ?_
     rintro e wi ⟨rfl, ⟨S2, hBK2, hS2⟩, hK2⟩
     have hKi : Keep (fun j => j = kb) w6 wi := ((HKP.out.then_below HB7.out).then_below HB8.out).trans (hK2.mono (fun j _ h => h)) (fun j hj h => by rcases h with h | h; exact h; have := (HSS.out j h).1; have := HD9.out; omega)
     have HBK2 : Hid (BkVs kb kb (fun j => S2 j ∧ j < wi.heap.size) wi) := Lib.hid hBK2.trim
     have HSS2 : Hid (∀ j, S2 j ∧ j < wi.heap.size → D9 ≤ j ∧ j < wi.heap.size) := Lib.hid (fun j hj => ⟨by
      have h7 := HB7.out.size
      have h8 := HB8.out.size
      rcases hS2 j hj.1 with h | h | h
      ·exact (HSS.out j h).1
      ·have h1 := (HY.out.lt j h).1; omega
      ·omega, hj.2⟩)
     have j1 : ValI wi (.slice xo us9.length xc) us9 := (HX.out.keep hKi (fun j hj e => by have := (HX.out.lt j hj).1; have := HKW.out; omega)).val
     have j2 : ValI wi (.slice yo us9.length yc) us9 := (HY.out.keep hK2 (fun j hj e => by
      rcases e with e | e
      ·exact (HKN.out j hj).2 e
      ·exact (HKN.out j hj).1 e)).val
     have hLi : LentV wr.heap.size wi (.slice mo vs.length mc) vs := (HL.out.kept HB8.out).keep hK2 (fun j hj e => by
      have h1 := (HL.out.lt j hj).1
      rcases e with e | e
      ·have := HD9.out; omega
      ·have := (HSS.out j e).2; omega)
     have j3 : ValI wi (.slice ro vs.length rcap) vs := HRI.out.below (hbr.trans (below_keep1 hKi HWK.out hbr.size))
     have hok : (ok9 != ok9) = false := by simp
     have hcc : (c9 != c9) = false := by simp
     have HKI := Lib.hid hKi
     clear hcall3 hBK2 hS2 hK2 hKi
     go_wp2_with (first | (go_at_call 16; (with_reducible refine (same_vals _ _ us9 _ j1 j2).mono ?_); rintro e wj ⟨rfl, hbj⟩; have j3j := j3.below hbj; have hLj := hLi.kept hbj) | (go_at_call 17; (with_reducible refine (stays_vals _ _ _ vs _ hLj j3j (by omega)).mono ?_); rintro e wk ⟨rfl, hbk⟩))
     have HBJ : Hid (Below wi.heap.size wi wk) := Lib.hid (hbj.trans (hbk.mono hbj.size))
     clear hbj hbk j1 j2 hLi j3 j3j hLj hok hcc
     go_roundg (gk - 1)
     case measure => omega
     case rel => exact ⟨k + 1, fun j => S2 j ∧ j < wi.heap.size, by omega, by go_num, Lib.hid (HBK2.out.kept HBJ.out), Lib.hid (fun j hj => by have h1 := HSS2.out j hj; have h2 := HBJ.out.size; omega), Lib.hid (HKI.out.then_below HBJ.out)⟩
    case neg =>
     have hkk : ¬ ((k : Nat) : Int) < 2 := by omega
     have hcall := bookApartV_any kb kb S wr HBK.out (by have := HKP.out.size; have := HD9.out; omega)
     go_wp2_with fail
     refine hcall.mono ?_
     rintro e wa ⟨rfl, hba⟩
     go_wp2_with fail
     go_ret
     exact ⟨ret_one rfl, HB9.out.trans (hba.mono HWK.out)⟩
theorem valuePrepares_walk (v u : Value) (w : World) (h : FldsIn w v) (hs : ValsIx w u) :
  Calls Tryz.prog 3 #[v, u] w fun e w' => e = .returned (.bool true) ∧ Below w.heap.size w w' := by
 obtain ⟨ao, cap, xs, rfl, hF, h1, h2, h3⟩ := h
 obtain ⟨ro, rcap, vs, rfl, hV, k1, k2, k3, k4⟩ := hs
 unfold maxLen at h2
 exact valuePrepares_main ao cap xs ro rcap vs w hF hV (by omega) h3 k1 k2 k3 k4
end Go.Proofs.YtcpfanpcdkoiaaaGreatDoor
