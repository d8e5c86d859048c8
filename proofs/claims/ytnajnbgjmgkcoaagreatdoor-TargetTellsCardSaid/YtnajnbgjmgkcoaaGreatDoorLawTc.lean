/-
  TargetTells: the walk.
-/
import Derived.Test.YtnajnbgjmgkcoaaGreatDoorTarC
import Derived.Test.YtnajnbgjmgkcoaaGreatDoorTarD
import Derived.Test.YtnajnbgjmgkcoaaGreatDoorTarR
import Derived.Test.YtnajnbgjmgkcoaaGreatDoorOpenG
import Derived.Deep.LoopGhost
namespace Go.Proofs.YtnajnbgjmgkcoaaGreatDoor
open Go.RowKit
set_option linter.unusedVariables false
set_option linter.unusedSimpArgs false
attribute [local go_sem] field_nat

/-- A cell of memory that lies. -/
structure CellAt (w : World) (b off : Nat) (v : Value) : Prop where
  cell : w.cell? ⟨b, off, none⟩ = some v
theorem CellAt.kept {w w' : World} {b off : Nat} {v : Value} (h : CellAt w b off v) (hb : Below w.heap.size w w') : CellAt w' b off v := ⟨(hb.cell (p := ⟨b, off, none⟩) (World.block_lt_of_cell? w ⟨b, off, none⟩ h.cell)).trans h.cell⟩
theorem CellAt.drew {w : World} {b off : Nat} {v : Value} (h : CellAt w b off v) : CellAt w.drew b off v := ⟨h.cell⟩
theorem strs_of_owns {base : Nat} {e : TypeId} {w : World} {v : Value} {ls : List (List UInt8)} (h : Owns base e w v (svals ls)) : Strs w v ls := by
  rcases h.shape with ⟨rfl, hx⟩ | ⟨g, cap, rfl, h2, h3, h4, h5, h6, h7⟩
  · have : ls = [] := by simpa [svals] using hx
    subst this
    exact ⟨none, 0, rfl, Nat.le_refl _, Nat.zero_le _, .inl rfl⟩
  · rw [svals_length] at h4 h6 ⊢
    exact ⟨_, cap, rfl, h4, h5, .inr ⟨g, 0, rfl, h3, fun i hi => by rw [Nat.zero_add, h6 i hi, svals_get hi]⟩⟩
theorem tall_len {mn mx fa co : List UInt8} {c : Int} (ls : List (List UInt8)) : (tall mn mx fa co c ls).length = ls.length := by simp [tall]
theorem tall_get {mn mx fa co : List UInt8} {c : Int} {ls : List (List UInt8)} {i : Nat} (hi : i < ls.length) : (tall mn mx fa co c ls)[i]?.getD [] = tapply mn mx fa co c (ls[i]?.getD []) := by
  simp [tall, List.getElem?_eq_getElem hi]
theorem rapply_t (mn mx fa co num T : List UInt8) (c : Int) (w : World) (HT : Hid (tapply mn mx fa co c num = T)) (h1 : mn.length ≤ 100000) (h2 : mx.length ≤ 100000) (h3 : fa.length ≤ 100000) (h4 : co.length ≤ 100000) (h5 : num.length ≤ 100000) : Calls Tryz.prog 10 #[tgtV mn mx fa co c, .string ⟨num.toArray⟩] w fun e w' => e = .returned (.string ⟨T.toArray⟩) ∧ Below w.heap.size w w' := by
  have h := rapply_any mn mx fa co num c w h1 h2 h3 h4 h5
  rwa [HT.out] at h
theorem rvalid17_b (mn mx fa co : List UInt8) (c : Int) (b : Bool) (w : World) (HB : Hid (tvalid mn mx fa co c = b)) (h1 : mn.length ≤ 100000) (h2 : mx.length ≤ 100000) (h3 : fa.length ≤ 100000) (h4 : co.length ≤ 100000) : Calls Tryz.prog 13 #[tgtV mn mx fa co c] w fun e w' => e = .returned (.bool b) ∧ Below w.heap.size w w' := by
  have h := rvalid17_any mn mx fa co c w h1 h2 h3 h4
  rwa [HB.out] at h
theorem plain_b (mn mx fa co : List UInt8) (c : Int) (b : Bool) (w : World) (HB : Hid (plainB mn mx fa co c = b)) : Calls Tryz.prog 14 #[tgtV mn mx fa co c] w fun e w' => e = .returned (.bool b) ∧ Below w.heap.size w w' := by
  have h := plain_any mn mx fa co c w
  rwa [HB.out] at h
theorem btarget_b (mn mx fa co : List UInt8) (c : Int) (b : Bool) (w : World) (HB : Hid (shortT mn mx fa co = b)) (h1 : mn.length ≤ maxL) (h2 : mx.length ≤ maxL) (h3 : fa.length ≤ maxL) (h4 : co.length ≤ maxL) : Calls Tryz.prog 4 #[tgtV mn mx fa co c] w fun e w' => e = .returned (.bool b) ∧ Below w.heap.size w w' := by
  have h := btarget_any mn mx fa co c w h1 h2 h3 h4
  rwa [HB.out] at h
theorem short_b (sv : Value) (ls : List (List UInt8)) (b : Bool) (w : World) (HB : Hid (shortB 20 1000 ls = b)) (hs : Strs w sv ls) (hlen : ∀ l ∈ ls, l.length ≤ maxLen) : Calls Tryz.prog 5 #[.int .i64 20, .int .i64 1000, sv] w fun e w' => e = .returned (.bool b) ∧ Below w.heap.size w w' := by
  have h := short_any 20 1000 sv ls w hs (by decide) (by decide) hlen
  rwa [HB.out] at h

set_option maxRecDepth 100000 in
set_option maxHeartbeats 1000000 in
/-- TargetTells, of what is too long. -/
theorem targetTells_early (mn mx fa co : List UInt8) (c : Int) (sv : Value) (ls : List (List UInt8)) (w : World) (hs : StrsN w sv ls) (hlen : ∀ l ∈ ls, l.length ≤ maxLen) (b1 b2 : Bool) (HB1 : Hid (shortT mn mx fa co = b1)) (HB2 : Hid (shortB 20 1000 ls = b2)) (hno : (b1 && b2) = false) (h1 : mn.length ≤ maxL) (h2 : mx.length ≤ maxL) (h3 : fa.length ≤ maxL) (h4 : co.length ≤ maxL) :
    Calls Tryz.prog 3 #[tgtV mn mx fa co c, sv] w fun e w' => e = .returned (.bool true) ∧ Below w.heap.size w w' := by
  have hst := hs.1
  obtain ⟨w0, hw0⟩ : ∃ w0, w0 = (w.alloc (.cells #[.string ⟨mn.toArray⟩, .string ⟨mx.toArray⟩, .string ⟨fa.toArray⟩, .string ⟨co.toArray⟩, .int .i64 c] 23)) := ⟨_, rfl⟩
  have hbf : Below w.heap.size w w0 := by rw [hw0]; exact ((Below.refl _ w).alloc (Nat.le_refl _) _)
  obtain ⟨pg, hpg⟩ : ∃ p, p = w.heap.size := ⟨_, rfl⟩
  have hbg : Box5 w0 pg (Value.string ⟨mn.toArray⟩) (Value.string ⟨mx.toArray⟩) (Value.string ⟨fa.toArray⟩) (Value.string ⟨co.toArray⟩) (Value.int .i64 c) := by rw [hw0, hpg]; exact ⟨by go_simp, by go_simp, by go_simp, by go_simp, by go_simp, by go_simp, by go_simp, by go_simp, by go_simp, by go_simp⟩
  have HP : Hid (w.heap.size ≤ pg) := Lib.hid (by omega)
  replace hst := hst.below hbf
  have HW := Lib.hid hw0; clear hw0
  go_enter Tryz.func3, Tryz.ntmps3
  go_upto_region 1 with fail
  rw [← HW.out, ← hpg]
  clear hpg HW
  have eg0 := hbg.c0
  have eg1 := hbg.c1
  have eg2 := hbg.c2
  have eg3 := hbg.c3
  have eg4 := hbg.c4
  go_wp2_with fail
  refine (btarget_b mn mx fa co c b1 _ HB1 h1 h2 h3 h4).mono ?_
  rintro e w1 ⟨rfl, hb⟩
  clear eg0 eg1 eg2 eg3 eg4
  replace hbg := hbg.kept hb
  replace hst := hst.below hb
  replace hbf := hbf.trans (hb.mono hbf.size)
  clear hb
  cases b1
  case false =>
    go_wp2_with fail
    refine (alive17_any _).mono ?_
    rintro e w2 ⟨rfl, hb⟩
    replace hbg := hbg.kept hb
    replace hst := hst.below hb
    replace hbf := hbf.trans (hb.mono hbf.size)
    clear hb
    go_wp2_with fail
    go_ret
    exact ⟨rfl, hbf⟩
  case true =>
    go_wp2_with fail
    refine (short_b _ ls b2 _ HB2 hst hlen).mono ?_
    rintro e w2 ⟨rfl, hb⟩
    replace hbg := hbg.kept hb
    replace hst := hst.below hb
    replace hbf := hbf.trans (hb.mono hbf.size)
    clear hb
    cases b2
    case false =>
      go_wp2_with fail
      refine (alive17_any _).mono ?_
      rintro e w3 ⟨rfl, hb⟩
      replace hbg := hbg.kept hb
      replace hst := hst.below hb
      replace hbf := hbf.trans (hb.mono hbf.size)
      clear hb
      go_wp2_with fail
      go_ret
      exact ⟨rfl, hbf⟩
    case true =>
      exact absurd hno (by simp)

set_option maxRecDepth 100000 in
set_option maxHeartbeats 8000000 in
/-- TargetTells. -/
theorem targetTells_main (mn mx fa co : List UInt8) (c : Int) (sv : Value) (ls : List (List UInt8)) (w : World) (hs : StrsN w sv ls) (hlen : ∀ l ∈ ls, l.length ≤ maxLen) (HB1 : Hid (shortT mn mx fa co = true)) (HB2 : Hid (shortB 20 1000 ls = true)) (h1 : mn.length ≤ maxL) (h2 : mx.length ≤ maxL) (h3 : fa.length ≤ maxL) (h4 : co.length ≤ maxL) :
    Calls Tryz.prog 3 #[tgtV mn mx fa co c, sv] w fun e w' => e = .returned (.bool true) ∧ Below w.heap.size w w' := by
  have hst := hs.1
  have hsn := hs.2
  obtain ⟨w0, hw0⟩ : ∃ w0, w0 = (w.alloc (.cells #[.string ⟨mn.toArray⟩, .string ⟨mx.toArray⟩, .string ⟨fa.toArray⟩, .string ⟨co.toArray⟩, .int .i64 c] 23)) := ⟨_, rfl⟩
  have hbf : Below w.heap.size w w0 := by rw [hw0]; exact ((Below.refl _ w).alloc (Nat.le_refl _) _)
  obtain ⟨pg, hpg⟩ : ∃ p, p = w.heap.size := ⟨_, rfl⟩
  have hbg : Box5 w0 pg (Value.string ⟨mn.toArray⟩) (Value.string ⟨mx.toArray⟩) (Value.string ⟨fa.toArray⟩) (Value.string ⟨co.toArray⟩) (Value.int .i64 c) := by rw [hw0, hpg]; exact ⟨by go_simp, by go_simp, by go_simp, by go_simp, by go_simp, by go_simp, by go_simp, by go_simp, by go_simp, by go_simp⟩
  have HP : Hid (w.heap.size ≤ pg) := Lib.hid (by omega)
  replace hst := hst.below hbf
  have HW := Lib.hid hw0; clear hw0
  go_enter Tryz.func3, Tryz.ntmps3
  go_upto_region 1 with fail
  rw [← HW.out, ← hpg]
  clear hpg HW
  have k1 := (shortT_len HB1.out).1
  have k2 := (shortT_len HB1.out).2.1
  have k3 := (shortT_len HB1.out).2.2.1
  have k4 := (shortT_len HB1.out).2.2.2
  have hsb := of_decide_eq_true HB2.out
  have hln := hsb.1
  have HLL : Hid (∀ l ∈ ls, l.length ≤ 1000) := Lib.hid (fun l hl => Nat.le_trans (total_mem hl) hsb.2)
  clear hsb
  have eg0 := hbg.c0
  have eg1 := hbg.c1
  have eg2 := hbg.c2
  have eg3 := hbg.c3
  have eg4 := hbg.c4
  go_wp2_with fail
  refine (btarget_b mn mx fa co c true _ HB1 h1 h2 h3 h4).mono ?_
  rintro e w1 ⟨rfl, hb⟩
  clear eg0 eg1 eg2 eg3 eg4
  replace hbg := hbg.kept hb
  replace hst := hst.below hb
  replace hbf := hbf.trans (hb.mono hbf.size)
  clear hb
  go_wp2_with fail
  refine (short_b _ ls true _ HB2 hst hlen).mono ?_
  rintro e w2 ⟨rfl, hb⟩
  replace hbg := hbg.kept hb
  replace hst := hst.below hb
  replace hbf := hbf.trans (hb.mono hbf.size)
  clear hb
  go_wp2_with fail
  refine (alive17_any _).mono ?_
  rintro e w3 ⟨rfl, hb⟩
  replace hbg := hbg.kept hb
  replace hst := hst.below hb
  replace hbf := hbf.trans (hb.mono hbf.size)
  clear hb
  go_wp2_with fail
  refine (lent_texts _ ls _ ⟨hst, hsn⟩ (by omega)).mono ?_
  rintro e w4 ⟨m5, rfl, hL, hb⟩
  replace hbg := hbg.kept hb
  replace hst := hst.below hb
  replace hbf := hbf.trans (hb.mono hbf.size)
  clear hb
  obtain ⟨g5, c5, rfl, _, _, _, _, _, _⟩ := hL.row
  have hls := hL.strs
  have eg0 := hbg.c0
  have eg1 := hbg.c1
  have eg2 := hbg.c2
  have eg3 := hbg.c3
  have eg4 := hbg.c4
  go_wp2_with fail
  refine (all_any mn mx fa co c _ ls _ hls h1 h2 h3 h4 (by omega) (fun l hl => by have := HLL.out l hl; unfold maxL; omega)).mono ?_
  rintro e w5 ⟨r5, rfl, ho, hb⟩
  clear eg0 eg1 eg2 eg3 eg4
  replace hbg := hbg.kept hb
  replace hst := hst.below hb
  replace hL := hL.below hb
  replace hls := hls.below hb
  replace hbf := hbf.trans (hb.mono hbf.size)
  clear hb
  have hr := strs_of_owns ho
  clear ho
  have hr9 := hr
  obtain ⟨ro, rc, hrE, hr1, hr2, _⟩ := hr9
  rw [tall_len] at hrE hr1
  subst hrE
  obtain ⟨w6, hwE⟩ : ∃ W, W = (w5.alloc (.cells #[.slice ro ls.length rc] 30)) := ⟨_, rfl⟩
  have hb : Below w5.heap.size w5 w6 := by rw [hwE]; exact ((Below.refl _ w5).alloc (Nat.le_refl _) _)
  obtain ⟨pr, hpr⟩ : ∃ p, p = w5.heap.size := ⟨_, rfl⟩
  have hbr : Box w6 pr (Value.slice ro ls.length rc) := by rw [hwE, hpr]; exact ⟨by go_simp, by go_simp, by simp <;> omega⟩
  replace HP : Hid (w.heap.size ≤ pg ∧ pg < pr) := Lib.hid (by have h1 := HP.out; have h9 := hbf.size; have h2g := hbg.lt; omega)
  have HW := Lib.hid hwE; clear hwE
  go_upto_region 5 with fail
  rw [← HW.out, ← hpr]
  clear hpr HW
  replace hbg := hbg.kept hb
  replace hst := hst.below hb
  replace hL := hL.below hb
  replace hls := hls.below hb
  replace hr := hr.below hb
  replace hbf := hbf.trans (hb.mono hbf.size)
  clear hb
  obtain ⟨so, sc, rfl, hs1, hs2, _⟩ := id hst
  have er := hbr.cell
  go_wp2_with fail
  refine (stays_texts _ _ _ ls _ hL hst (by omega)).mono ?_
  rintro e w7 ⟨rfl, hb⟩
  clear er
  replace hbg := hbg.kept hb
  replace hbr := hbr.kept hb
  replace hst := hst.below hb
  replace hL := hL.below hb
  replace hls := hls.below hb
  replace hr := hr.below hb
  replace hbf := hbf.trans (hb.mono hbf.size)
  clear hb
  (try go_wp2_with fail)
  (try go_step3)
  (try go_wp2_with fail)
  (try go_step3)
  (try go_wp2_with fail)
  go_loopg [7, 8] ls.length (fun gg iv wv wr => ∃ (i : Nat), i + gg = ls.length ∧ iv = .int .i64 (i : Int) ∧ Box5 wr pg (Value.string ⟨mn.toArray⟩) (Value.string ⟨mx.toArray⟩) (Value.string ⟨fa.toArray⟩) (Value.string ⟨co.toArray⟩) (Value.int .i64 c) ∧ Box wr pr (Value.slice ro ls.length rc) ∧ Strs wr (.slice so ls.length sc) ls ∧ Strs wr (.slice ro ls.length rc) (tall mn mx fa co c ls) ∧ Below w.heap.size w wr)
  case atStart => exact ⟨0, by omega, rfl, hbg, hbr, hst, hr, hbf⟩
  clear hbg hbr hst hr hbf hL hls
  case round =>
    obtain ⟨i, hi, rfl, hbg, hbr, hst, hr, hbf⟩ := hrel
    by_cases hil : i < ls.length
    case pos =>
      obtain ⟨_, _, e1, _, _, hsc⟩ := id hst
      cases e1
      obtain ⟨_, _, e2, _, _, hrc⟩ := id hr
      rw [tall_len] at e2 hrc
      cases e2
      rcases hsc with h | ⟨gb, off, rfl, hgb, hcb⟩
      · rw [h] at hil; simp at hil
      rcases hrc with h | ⟨gr, of2, rfl, hgr, hcr⟩
      · have h9 := congrArg List.length h; rw [tall_len] at h9; simp at h9; rw [h9] at hil; simp at hil
      have cb := hcb i hil
      have cr := hcr i hil
      rw [tall_get hil] at cr
      have hsl : (ls[i]?.getD []).length ≤ 1000 := by rw [List.getElem?_eq_getElem hil]; exact HLL.out _ (List.getElem_mem hil)
      obtain ⟨T9, hT9⟩ : ∃ t, tapply mn mx fa co c (ls[i]?.getD []) = t := ⟨_, rfl⟩
      rw [hT9] at cr
      have HT9 := Lib.hid hT9
      generalize ls[i]?.getD [] = s at *
      have hbx : CellAt wr gb (off + i) (.string ⟨s.toArray⟩) := ⟨cb⟩
      have hby : CellAt wr gr (of2 + i) (.string ⟨T9.toArray⟩) := ⟨cr⟩
      have q1 : (i : Int) < (ls.length : Int) := by omega
      have q2 : (0 : Int) ≤ (i : Int) := by omega
      have ht9 : (T9 == T9) = true := beq_self_eq_true _
      clear hcb hcr cb cr hT9
      have eg0 := hbg.c0
      have eg1 := hbg.c1
      have eg2 := hbg.c2
      have eg3 := hbg.c3
      have eg4 := hbg.c4
      have ex := hbx.cell
      go_wp2_with fail
      clear eg0 eg1 eg2 eg3 eg4 ex
      refine wp_region_seqQ (S := fun w' => Box5 w' pg (Value.string ⟨mn.toArray⟩) (Value.string ⟨mx.toArray⟩) (Value.string ⟨fa.toArray⟩) (Value.string ⟨co.toArray⟩) (Value.int .i64 c) ∧ CellAt w' (gb) (off + i) (Value.string ⟨s.toArray⟩)) [(0, 4, some 46), (0, 2, some 47), (0, 128, some 48), (6, 422212465065984, some 49), (8, 562949953421312, some 50), (17, 1196268651020288, some 51), (63, 2251799813685248, some 8)] [(true, 0), (true, 1), (true, 2), (true, 3), (true, 4), (false, 5), (true, 6)] (by kernel_rfl) (by kernel_rfl) (by kernel_rfl) (by kernel_rfl) (by kernel_rfl) (by kernel_rfl) (fun d _ _ _ _ h => by cases d <;> exact h) ⟨hbg.drew, hbx.drew⟩ (fun _ => ?_)
      simp only [pickOps, List.append_eq, List.cons_append, List.nil_append, List.getElem?_toArray, List.getElem?_cons_succ, List.getElem?_cons_zero]
      have hb : Below wr.heap.size wr wr.drew := (Below.refl _ _).drew
      generalize wr.drew = w8 at hb ⊢
      replace hbg := hbg.kept hb
      replace hbr := hbr.kept hb
      replace hbx := hbx.kept hb
      replace hby := hby.kept hb
      replace hst := hst.below hb
      replace hr := hr.below hb
      replace hbf := hbf.trans (hb.mono hbf.size)
      clear hb
      repeat (first | (refine seq_take (v := ?_) (by rfl) ?_ ?_; rotate_left; (· intro w hSw; (try dsimp only at hSw); obtain ⟨⟨eg0, eg1, eg2, eg3, eg4, _, _, _, _, _⟩, ⟨ex⟩⟩ := hSw; go_simp; all_goals with_reducible rfl); (try simp only [Act.put, List.setIfInBounds_toArray, List.set_cons_zero, List.set_cons_succ])) | (refine seq_leave (by rfl) ?_; (try simp only [Act.put, List.setIfInBounds_toArray, List.set_cons_zero, List.set_cons_succ])))
      refine seq_step (by rfl) (fun K hK => ?_)
      go_simp
      go_at_call 10
      (with_reducible refine (rapply_t mn mx fa co s T9 c _ HT9 (by omega) (by omega) (by omega) (by omega) (by omega)).mono ?_)
      rintro e w9 ⟨rfl, hb⟩
      replace hbg := hbg.kept hb
      replace hbr := hbr.kept hb
      replace hbx := hbx.kept hb
      replace hby := hby.kept hb
      replace hst := hst.below hb
      replace hr := hr.below hb
      replace hbf := hbf.trans (hb.mono hbf.size)
      clear hb
      first | refine hK.out _ _ ⟨hbg, hbx⟩ (fun _ => ?_) | (go_wp2_with fail; refine hK.out _ _ ⟨hbg, hbx⟩ (fun _ => ?_))
      clear hK K
      (try simp only [Act.put, List.setIfInBounds_toArray, List.set_cons_zero, List.set_cons_succ])
      repeat (first | (refine seq_take (v := ?_) (by rfl) ?_ ?_; rotate_left; (· intro w hSw; (try dsimp only at hSw); obtain ⟨⟨eg0, eg1, eg2, eg3, eg4, _, _, _, _, _⟩, ⟨ex⟩⟩ := hSw; go_simp; all_goals with_reducible rfl); (try simp only [Act.put, List.setIfInBounds_toArray, List.set_cons_zero, List.set_cons_succ])) | (refine seq_leave (by rfl) ?_; (try simp only [Act.put, List.setIfInBounds_toArray, List.set_cons_zero, List.set_cons_succ])))
      refine seq_end ?_
      have eg0 := hbg.c0
      have eg1 := hbg.c1
      have eg2 := hbg.c2
      have eg3 := hbg.c3
      have eg4 := hbg.c4
      have er := hbr.cell
      have ex := hbx.cell
      have ey := hby.cell
      go_wp2_with fail
      clear eg0 eg1 eg2 eg3 eg4 er ex ey
      refine wp_region_seqQ (S := fun w' => Box5 w' pg (Value.string ⟨mn.toArray⟩) (Value.string ⟨mx.toArray⟩) (Value.string ⟨fa.toArray⟩) (Value.string ⟨co.toArray⟩) (Value.int .i64 c) ∧ Box w' pr (Value.slice (some ⟨gr, of2, none⟩) ls.length rc) ∧ CellAt w' (gb) (off + i) (Value.string ⟨s.toArray⟩) ∧ CellAt w' (gr) (of2 + i) (Value.string ⟨T9.toArray⟩)) [(0, 64, some 52), (1, 4503599627370496, some 53), (0, 128, some 54), (6, 27021597764222976, some 55), (8, 36028797018963968, some 56), (0, 256, some 57), (48, 216172782113783808, some 58), (64, 288230376151711744, some 59), (128, 576460752303423492, some 60), (128, 576460752303423490, some 61), (128, 576460752303423616, some 62), (1664, 7493989779944505344, some 63), (2176, 9799832789158199296, some 64), (4480, 20176126330619822080, some 65), (128, 576460752303423744, some 66), (24704, 111256925194560733184, some 67), (32896, 148150413341979836416, some 68)] [(true, 0), (true, 1), (true, 2), (true, 3), (true, 4), (true, 5), (true, 6), (true, 7), (true, 8), (true, 9), (true, 10), (true, 11), (true, 12), (true, 14), (false, 13), (true, 15), (true, 16)] (by kernel_rfl) (by kernel_rfl) (by kernel_rfl) (by kernel_rfl) (by kernel_rfl) (by kernel_rfl) (fun d _ _ _ _ h => by cases d <;> exact h) ⟨hbg.drew, hbr.drew, hbx.drew, hby.drew⟩ (fun _ => ?_)
      simp only [pickOps, List.append_eq, List.cons_append, List.nil_append, List.getElem?_toArray, List.getElem?_cons_succ, List.getElem?_cons_zero]
      have hb : Below w9.heap.size w9 w9.drew := (Below.refl _ _).drew
      generalize w9.drew = w10 at hb ⊢
      replace hbg := hbg.kept hb
      replace hbr := hbr.kept hb
      replace hbx := hbx.kept hb
      replace hby := hby.kept hb
      replace hst := hst.below hb
      replace hr := hr.below hb
      replace hbf := hbf.trans (hb.mono hbf.size)
      clear hb
      repeat (first | (refine seq_take (v := ?_) (by rfl) ?_ ?_; rotate_left; (· intro w hSw; (try dsimp only at hSw); obtain ⟨⟨eg0, eg1, eg2, eg3, eg4, _, _, _, _, _⟩, ⟨er, _, _⟩, ⟨ex⟩, ⟨ey⟩⟩ := hSw; go_simp; all_goals with_reducible rfl); (try simp only [Act.put, List.setIfInBounds_toArray, List.set_cons_zero, List.set_cons_succ])) | (refine seq_leave (by rfl) ?_; (try simp only [Act.put, List.setIfInBounds_toArray, List.set_cons_zero, List.set_cons_succ])))
      refine seq_step (by rfl) (fun K hK => ?_)
      go_simp
      go_at_call 11
      (with_reducible refine (apply_t mn mx fa co s T9 c _ HT9 h1 h2 h3 h4 (by unfold maxL; omega)).mono ?_)
      rintro e w11 ⟨rfl, hb⟩
      replace hbg := hbg.kept hb
      replace hbr := hbr.kept hb
      replace hbx := hbx.kept hb
      replace hby := hby.kept hb
      replace hst := hst.below hb
      replace hr := hr.below hb
      replace hbf := hbf.trans (hb.mono hbf.size)
      clear hb
      first | refine hK.out _ _ ⟨hbg, hbr, hbx, hby⟩ (fun _ => ?_) | (go_wp2_with fail; refine hK.out _ _ ⟨hbg, hbr, hbx, hby⟩ (fun _ => ?_))
      clear hK K
      (try simp only [Act.put, List.setIfInBounds_toArray, List.set_cons_zero, List.set_cons_succ])
      repeat (first | (refine seq_take (v := ?_) (by rfl) ?_ ?_; rotate_left; (· intro w hSw; (try dsimp only at hSw); obtain ⟨⟨eg0, eg1, eg2, eg3, eg4, _, _, _, _, _⟩, ⟨er, _, _⟩, ⟨ex⟩, ⟨ey⟩⟩ := hSw; go_simp; all_goals with_reducible rfl); (try simp only [Act.put, List.setIfInBounds_toArray, List.set_cons_zero, List.set_cons_succ])) | (refine seq_leave (by rfl) ?_; (try simp only [Act.put, List.setIfInBounds_toArray, List.set_cons_zero, List.set_cons_succ])))
      refine seq_end ?_
      go_wp2_with fail
      go_roundg (gk - 1)
      case measure => omega
      case rel => exact ⟨i + 1, by omega, by first | rfl | go_num, hbg, hbr, hst, hr, hbf⟩
    case neg =>
      have q1 : ¬ (i : Int) < (ls.length : Int) := by omega
      obtain ⟨b9, hb9⟩ : ∃ b, tvalid mn mx fa co c = b := ⟨_, rfl⟩
      have HB9 := Lib.hid hb9
      clear hb9
      have hbb : (b9 == b9) = true := beq_self_eq_true _
      go_upto_region 13 with fail
      by_cases g0 : mn = []
      case neg =>
        have e0 := nil_beq g0
        have HPL : Hid (plainB mn mx fa co c = false) := Lib.hid (by unfold plainB; rw [e0]; rfl)
        refine wp_region_seqQ (S := fun w' => Box5 w' pg (Value.string ⟨mn.toArray⟩) (Value.string ⟨mx.toArray⟩) (Value.string ⟨fa.toArray⟩) (Value.string ⟨co.toArray⟩) (Value.int .i64 c)) [(0, 4, some 69), (1, 590295810358705651712, some 70), (0, 4, some 71), (6, 2361183241434822606848, some 72), (10, 5902958103587056517120, some 73), (24, 9444732965739290427392, some 74), (32, 18889465931478580854788, some 75), (96, 56668397794435742564352, some 76), (32, 18889465931478580854788, some 77), (32, 18889465931478580854784, some 78), (800, 472236648286964521369600, some 79), (1184, 698910239464707491627008, some 80), (2080, 1227815285546107755560960, some 81), (8191, 2417851639229258349412352, some 4)] [(true, 0), (true, 2), (false, 1), (false, 3), (true, 4), (true, 5), (true, 6), (true, 8), (true, 9), (true, 10), (false, 7), (true, 11), (true, 12), (true, 13)] (by kernel_rfl) (by kernel_rfl) (by kernel_rfl) (by kernel_rfl) (by kernel_rfl) (by kernel_rfl) (fun d _ _ _ _ h => by cases d <;> exact h) hbg.drew (fun _ => ?_)
        simp only [pickOps, List.append_eq, List.cons_append, List.nil_append, List.getElem?_toArray, List.getElem?_cons_succ, List.getElem?_cons_zero]
        have hb : Below wr.heap.size wr wr.drew := (Below.refl _ _).drew
        generalize wr.drew = w8 at hb ⊢
        replace hbg := hbg.kept hb
        replace hbr := hbr.kept hb
        replace hst := hst.below hb
        replace hr := hr.below hb
        replace hbf := hbf.trans (hb.mono hbf.size)
        clear hb
        repeat (first | (refine seq_take (v := ?_) (by rfl) ?_ ?_; rotate_left; (· intro w hSw; (try dsimp only at hSw); obtain ⟨eg0, eg1, eg2, eg3, eg4, _, _, _, _, _⟩ := hSw; go_simp; all_goals with_reducible rfl); (try simp only [Act.put, List.setIfInBounds_toArray, List.set_cons_zero, List.set_cons_succ])) | (refine seq_leave (by rfl) ?_; (try simp only [Act.put, List.setIfInBounds_toArray, List.set_cons_zero, List.set_cons_succ])))
        refine seq_step (by rfl) (fun K hK => ?_)
        go_simp
        go_at_call 12
        (with_reducible refine (valid17_b mn mx fa co c b9 _ HB9 h1 h2 h3 h4).mono ?_)
        rintro e w9 ⟨rfl, hb⟩
        replace hbg := hbg.kept hb
        replace hbr := hbr.kept hb
        replace hst := hst.below hb
        replace hr := hr.below hb
        replace hbf := hbf.trans (hb.mono hbf.size)
        clear hb
        first | refine hK.out _ _ hbg (fun _ => ?_) | (go_wp2_with fail; refine hK.out _ _ hbg (fun _ => ?_))
        clear hK K
        (try simp only [Act.put, List.setIfInBounds_toArray, List.set_cons_zero, List.set_cons_succ])
        refine seq_step (by rfl) (fun K hK => ?_)
        go_simp
        go_at_call 13
        (with_reducible refine (rvalid17_b mn mx fa co c b9 _ HB9 (by omega) (by omega) (by omega) (by omega)).mono ?_)
        rintro e w10 ⟨rfl, hb⟩
        replace hbg := hbg.kept hb
        replace hbr := hbr.kept hb
        replace hst := hst.below hb
        replace hr := hr.below hb
        replace hbf := hbf.trans (hb.mono hbf.size)
        clear hb
        first | refine hK.out _ _ hbg (fun _ => ?_) | (go_wp2_with fail; refine hK.out _ _ hbg (fun _ => ?_))
        clear hK K
        (try simp only [Act.put, List.setIfInBounds_toArray, List.set_cons_zero, List.set_cons_succ])
        repeat (first | (refine seq_take (v := ?_) (by rfl) ?_ ?_; rotate_left; (· intro w hSw; (try dsimp only at hSw); obtain ⟨eg0, eg1, eg2, eg3, eg4, _, _, _, _, _⟩ := hSw; go_simp; all_goals with_reducible rfl); (try simp only [Act.put, List.setIfInBounds_toArray, List.set_cons_zero, List.set_cons_succ])) | (refine seq_leave (by rfl) ?_; (try simp only [Act.put, List.setIfInBounds_toArray, List.set_cons_zero, List.set_cons_succ])))
        refine seq_step (by rfl) (fun K hK => ?_)
        go_simp
        go_at_call 14
        (with_reducible refine (plain_b mn mx fa co c false _ HPL).mono ?_)
        rintro e w11 ⟨rfl, hb⟩
        replace hbg := hbg.kept hb
        replace hbr := hbr.kept hb
        replace hst := hst.below hb
        replace hr := hr.below hb
        replace hbf := hbf.trans (hb.mono hbf.size)
        clear hb
        first | refine hK.out _ _ hbg (fun _ => ?_) | (go_wp2_with fail; refine hK.out _ _ hbg (fun _ => ?_))
        clear hK K
        (try simp only [Act.put, List.setIfInBounds_toArray, List.set_cons_zero, List.set_cons_succ])
        repeat (first | (refine seq_take (v := ?_) (by rfl) ?_ ?_; rotate_left; (· intro w hSw; (try dsimp only at hSw); obtain ⟨eg0, eg1, eg2, eg3, eg4, _, _, _, _, _⟩ := hSw; go_simp; all_goals with_reducible rfl); (try simp only [Act.put, List.setIfInBounds_toArray, List.set_cons_zero, List.set_cons_succ])) | (refine seq_leave (by rfl) ?_; (try simp only [Act.put, List.setIfInBounds_toArray, List.set_cons_zero, List.set_cons_succ])))
        refine seq_end ?_
        go_wp2_with fail
        go_ret
        exact ⟨rfl, hbf⟩
      subst g0
      by_cases g1 : mx = []
      case neg =>
        have e1 := nil_beq g1
        have HPL : Hid (plainB [] mx fa co c = false) := Lib.hid (by unfold plainB; rw [e1]; rfl)
        refine wp_region_seqQ (S := fun w' => Box5 w' pg (Value.string ⟨#[]⟩) (Value.string ⟨mx.toArray⟩) (Value.string ⟨fa.toArray⟩) (Value.string ⟨co.toArray⟩) (Value.int .i64 c)) [(0, 4, some 69), (1, 590295810358705651712, some 70), (0, 4, some 71), (6, 2361183241434822606848, some 72), (10, 5902958103587056517120, some 73), (24, 9444732965739290427392, some 74), (32, 18889465931478580854788, some 75), (96, 56668397794435742564352, some 76), (32, 18889465931478580854788, some 77), (32, 18889465931478580854784, some 78), (800, 472236648286964521369600, some 79), (1184, 698910239464707491627008, some 80), (2080, 1227815285546107755560960, some 81), (8191, 2417851639229258349412352, some 4)] [(true, 0), (true, 2), (false, 1), (false, 3), (true, 4), (true, 5), (true, 6), (true, 8), (true, 9), (true, 10), (false, 7), (true, 11), (true, 12), (true, 13)] (by kernel_rfl) (by kernel_rfl) (by kernel_rfl) (by kernel_rfl) (by kernel_rfl) (by kernel_rfl) (fun d _ _ _ _ h => by cases d <;> exact h) hbg.drew (fun _ => ?_)
        simp only [pickOps, List.append_eq, List.cons_append, List.nil_append, List.getElem?_toArray, List.getElem?_cons_succ, List.getElem?_cons_zero]
        have hb : Below wr.heap.size wr wr.drew := (Below.refl _ _).drew
        generalize wr.drew = w8 at hb ⊢
        replace hbg := hbg.kept hb
        replace hbr := hbr.kept hb
        replace hst := hst.below hb
        replace hr := hr.below hb
        replace hbf := hbf.trans (hb.mono hbf.size)
        clear hb
        repeat (first | (refine seq_take (v := ?_) (by rfl) ?_ ?_; rotate_left; (· intro w hSw; (try dsimp only at hSw); obtain ⟨eg0, eg1, eg2, eg3, eg4, _, _, _, _, _⟩ := hSw; go_simp; all_goals with_reducible rfl); (try simp only [Act.put, List.setIfInBounds_toArray, List.set_cons_zero, List.set_cons_succ])) | (refine seq_leave (by rfl) ?_; (try simp only [Act.put, List.setIfInBounds_toArray, List.set_cons_zero, List.set_cons_succ])))
        refine seq_step (by rfl) (fun K hK => ?_)
        go_simp
        go_at_call 12
        (with_reducible refine (valid17_b [] mx fa co c b9 _ HB9 (Nat.zero_le _) h2 h3 h4).mono ?_)
        rintro e w9 ⟨rfl, hb⟩
        replace hbg := hbg.kept hb
        replace hbr := hbr.kept hb
        replace hst := hst.below hb
        replace hr := hr.below hb
        replace hbf := hbf.trans (hb.mono hbf.size)
        clear hb
        first | refine hK.out _ _ hbg (fun _ => ?_) | (go_wp2_with fail; refine hK.out _ _ hbg (fun _ => ?_))
        clear hK K
        (try simp only [Act.put, List.setIfInBounds_toArray, List.set_cons_zero, List.set_cons_succ])
        refine seq_step (by rfl) (fun K hK => ?_)
        go_simp
        go_at_call 13
        (with_reducible refine (rvalid17_b [] mx fa co c b9 _ HB9 (Nat.zero_le _) (by omega) (by omega) (by omega)).mono ?_)
        rintro e w10 ⟨rfl, hb⟩
        replace hbg := hbg.kept hb
        replace hbr := hbr.kept hb
        replace hst := hst.below hb
        replace hr := hr.below hb
        replace hbf := hbf.trans (hb.mono hbf.size)
        clear hb
        first | refine hK.out _ _ hbg (fun _ => ?_) | (go_wp2_with fail; refine hK.out _ _ hbg (fun _ => ?_))
        clear hK K
        (try simp only [Act.put, List.setIfInBounds_toArray, List.set_cons_zero, List.set_cons_succ])
        repeat (first | (refine seq_take (v := ?_) (by rfl) ?_ ?_; rotate_left; (· intro w hSw; (try dsimp only at hSw); obtain ⟨eg0, eg1, eg2, eg3, eg4, _, _, _, _, _⟩ := hSw; go_simp; all_goals with_reducible rfl); (try simp only [Act.put, List.setIfInBounds_toArray, List.set_cons_zero, List.set_cons_succ])) | (refine seq_leave (by rfl) ?_; (try simp only [Act.put, List.setIfInBounds_toArray, List.set_cons_zero, List.set_cons_succ])))
        refine seq_step (by rfl) (fun K hK => ?_)
        go_simp
        go_at_call 14
        (with_reducible refine (plain_b [] mx fa co c false _ HPL).mono ?_)
        rintro e w11 ⟨rfl, hb⟩
        replace hbg := hbg.kept hb
        replace hbr := hbr.kept hb
        replace hst := hst.below hb
        replace hr := hr.below hb
        replace hbf := hbf.trans (hb.mono hbf.size)
        clear hb
        first | refine hK.out _ _ hbg (fun _ => ?_) | (go_wp2_with fail; refine hK.out _ _ hbg (fun _ => ?_))
        clear hK K
        (try simp only [Act.put, List.setIfInBounds_toArray, List.set_cons_zero, List.set_cons_succ])
        repeat (first | (refine seq_take (v := ?_) (by rfl) ?_ ?_; rotate_left; (· intro w hSw; (try dsimp only at hSw); obtain ⟨eg0, eg1, eg2, eg3, eg4, _, _, _, _, _⟩ := hSw; go_simp; all_goals with_reducible rfl); (try simp only [Act.put, List.setIfInBounds_toArray, List.set_cons_zero, List.set_cons_succ])) | (refine seq_leave (by rfl) ?_; (try simp only [Act.put, List.setIfInBounds_toArray, List.set_cons_zero, List.set_cons_succ])))
        refine seq_end ?_
        go_wp2_with fail
        go_ret
        exact ⟨rfl, hbf⟩
      subst g1
      by_cases g2 : fa = []
      case neg =>
        have e2 := nil_beq g2
        have HPL : Hid (plainB [] [] fa co c = false) := Lib.hid (by unfold plainB; rw [e2]; rfl)
        refine wp_region_seqQ (S := fun w' => Box5 w' pg (Value.string ⟨#[]⟩) (Value.string ⟨#[]⟩) (Value.string ⟨fa.toArray⟩) (Value.string ⟨co.toArray⟩) (Value.int .i64 c)) [(0, 4, some 69), (1, 590295810358705651712, some 70), (0, 4, some 71), (6, 2361183241434822606848, some 72), (10, 5902958103587056517120, some 73), (24, 9444732965739290427392, some 74), (32, 18889465931478580854788, some 75), (96, 56668397794435742564352, some 76), (32, 18889465931478580854788, some 77), (32, 18889465931478580854784, some 78), (800, 472236648286964521369600, some 79), (1184, 698910239464707491627008, some 80), (2080, 1227815285546107755560960, some 81), (8191, 2417851639229258349412352, some 4)] [(true, 0), (true, 2), (false, 1), (false, 3), (true, 4), (true, 5), (true, 6), (true, 8), (true, 9), (true, 10), (false, 7), (true, 11), (true, 12), (true, 13)] (by kernel_rfl) (by kernel_rfl) (by kernel_rfl) (by kernel_rfl) (by kernel_rfl) (by kernel_rfl) (fun d _ _ _ _ h => by cases d <;> exact h) hbg.drew (fun _ => ?_)
        simp only [pickOps, List.append_eq, List.cons_append, List.nil_append, List.getElem?_toArray, List.getElem?_cons_succ, List.getElem?_cons_zero]
        have hb : Below wr.heap.size wr wr.drew := (Below.refl _ _).drew
        generalize wr.drew = w8 at hb ⊢
        replace hbg := hbg.kept hb
        replace hbr := hbr.kept hb
        replace hst := hst.below hb
        replace hr := hr.below hb
        replace hbf := hbf.trans (hb.mono hbf.size)
        clear hb
        repeat (first | (refine seq_take (v := ?_) (by rfl) ?_ ?_; rotate_left; (· intro w hSw; (try dsimp only at hSw); obtain ⟨eg0, eg1, eg2, eg3, eg4, _, _, _, _, _⟩ := hSw; go_simp; all_goals with_reducible rfl); (try simp only [Act.put, List.setIfInBounds_toArray, List.set_cons_zero, List.set_cons_succ])) | (refine seq_leave (by rfl) ?_; (try simp only [Act.put, List.setIfInBounds_toArray, List.set_cons_zero, List.set_cons_succ])))
        refine seq_step (by rfl) (fun K hK => ?_)
        go_simp
        go_at_call 12
        (with_reducible refine (valid17_b [] [] fa co c b9 _ HB9 (Nat.zero_le _) (Nat.zero_le _) h3 h4).mono ?_)
        rintro e w9 ⟨rfl, hb⟩
        replace hbg := hbg.kept hb
        replace hbr := hbr.kept hb
        replace hst := hst.below hb
        replace hr := hr.below hb
        replace hbf := hbf.trans (hb.mono hbf.size)
        clear hb
        first | refine hK.out _ _ hbg (fun _ => ?_) | (go_wp2_with fail; refine hK.out _ _ hbg (fun _ => ?_))
        clear hK K
        (try simp only [Act.put, List.setIfInBounds_toArray, List.set_cons_zero, List.set_cons_succ])
        refine seq_step (by rfl) (fun K hK => ?_)
        go_simp
        go_at_call 13
        (with_reducible refine (rvalid17_b [] [] fa co c b9 _ HB9 (Nat.zero_le _) (Nat.zero_le _) (by omega) (by omega)).mono ?_)
        rintro e w10 ⟨rfl, hb⟩
        replace hbg := hbg.kept hb
        replace hbr := hbr.kept hb
        replace hst := hst.below hb
        replace hr := hr.below hb
        replace hbf := hbf.trans (hb.mono hbf.size)
        clear hb
        first | refine hK.out _ _ hbg (fun _ => ?_) | (go_wp2_with fail; refine hK.out _ _ hbg (fun _ => ?_))
        clear hK K
        (try simp only [Act.put, List.setIfInBounds_toArray, List.set_cons_zero, List.set_cons_succ])
        repeat (first | (refine seq_take (v := ?_) (by rfl) ?_ ?_; rotate_left; (· intro w hSw; (try dsimp only at hSw); obtain ⟨eg0, eg1, eg2, eg3, eg4, _, _, _, _, _⟩ := hSw; go_simp; all_goals with_reducible rfl); (try simp only [Act.put, List.setIfInBounds_toArray, List.set_cons_zero, List.set_cons_succ])) | (refine seq_leave (by rfl) ?_; (try simp only [Act.put, List.setIfInBounds_toArray, List.set_cons_zero, List.set_cons_succ])))
        refine seq_step (by rfl) (fun K hK => ?_)
        go_simp
        go_at_call 14
        (with_reducible refine (plain_b [] [] fa co c false _ HPL).mono ?_)
        rintro e w11 ⟨rfl, hb⟩
        replace hbg := hbg.kept hb
        replace hbr := hbr.kept hb
        replace hst := hst.below hb
        replace hr := hr.below hb
        replace hbf := hbf.trans (hb.mono hbf.size)
        clear hb
        first | refine hK.out _ _ hbg (fun _ => ?_) | (go_wp2_with fail; refine hK.out _ _ hbg (fun _ => ?_))
        clear hK K
        (try simp only [Act.put, List.setIfInBounds_toArray, List.set_cons_zero, List.set_cons_succ])
        repeat (first | (refine seq_take (v := ?_) (by rfl) ?_ ?_; rotate_left; (· intro w hSw; (try dsimp only at hSw); obtain ⟨eg0, eg1, eg2, eg3, eg4, _, _, _, _, _⟩ := hSw; go_simp; all_goals with_reducible rfl); (try simp only [Act.put, List.setIfInBounds_toArray, List.set_cons_zero, List.set_cons_succ])) | (refine seq_leave (by rfl) ?_; (try simp only [Act.put, List.setIfInBounds_toArray, List.set_cons_zero, List.set_cons_succ])))
        refine seq_end ?_
        go_wp2_with fail
        go_ret
        exact ⟨rfl, hbf⟩
      subst g2
      by_cases g3 : co = []
      case neg =>
        have e3 := nil_beq g3
        have HPL : Hid (plainB [] [] [] co c = false) := Lib.hid (by unfold plainB; rw [e3]; rfl)
        refine wp_region_seqQ (S := fun w' => Box5 w' pg (Value.string ⟨#[]⟩) (Value.string ⟨#[]⟩) (Value.string ⟨#[]⟩) (Value.string ⟨co.toArray⟩) (Value.int .i64 c)) [(0, 4, some 69), (1, 590295810358705651712, some 70), (0, 4, some 71), (6, 2361183241434822606848, some 72), (10, 5902958103587056517120, some 73), (24, 9444732965739290427392, some 74), (32, 18889465931478580854788, some 75), (96, 56668397794435742564352, some 76), (32, 18889465931478580854788, some 77), (32, 18889465931478580854784, some 78), (800, 472236648286964521369600, some 79), (1184, 698910239464707491627008, some 80), (2080, 1227815285546107755560960, some 81), (8191, 2417851639229258349412352, some 4)] [(true, 0), (true, 2), (false, 1), (false, 3), (true, 4), (true, 5), (true, 6), (true, 8), (true, 9), (true, 10), (false, 7), (true, 11), (true, 12), (true, 13)] (by kernel_rfl) (by kernel_rfl) (by kernel_rfl) (by kernel_rfl) (by kernel_rfl) (by kernel_rfl) (fun d _ _ _ _ h => by cases d <;> exact h) hbg.drew (fun _ => ?_)
        simp only [pickOps, List.append_eq, List.cons_append, List.nil_append, List.getElem?_toArray, List.getElem?_cons_succ, List.getElem?_cons_zero]
        have hb : Below wr.heap.size wr wr.drew := (Below.refl _ _).drew
        generalize wr.drew = w8 at hb ⊢
        replace hbg := hbg.kept hb
        replace hbr := hbr.kept hb
        replace hst := hst.below hb
        replace hr := hr.below hb
        replace hbf := hbf.trans (hb.mono hbf.size)
        clear hb
        repeat (first | (refine seq_take (v := ?_) (by rfl) ?_ ?_; rotate_left; (· intro w hSw; (try dsimp only at hSw); obtain ⟨eg0, eg1, eg2, eg3, eg4, _, _, _, _, _⟩ := hSw; go_simp; all_goals with_reducible rfl); (try simp only [Act.put, List.setIfInBounds_toArray, List.set_cons_zero, List.set_cons_succ])) | (refine seq_leave (by rfl) ?_; (try simp only [Act.put, List.setIfInBounds_toArray, List.set_cons_zero, List.set_cons_succ])))
        refine seq_step (by rfl) (fun K hK => ?_)
        go_simp
        go_at_call 12
        (with_reducible refine (valid17_b [] [] [] co c b9 _ HB9 (Nat.zero_le _) (Nat.zero_le _) (Nat.zero_le _) h4).mono ?_)
        rintro e w9 ⟨rfl, hb⟩
        replace hbg := hbg.kept hb
        replace hbr := hbr.kept hb
        replace hst := hst.below hb
        replace hr := hr.below hb
        replace hbf := hbf.trans (hb.mono hbf.size)
        clear hb
        first | refine hK.out _ _ hbg (fun _ => ?_) | (go_wp2_with fail; refine hK.out _ _ hbg (fun _ => ?_))
        clear hK K
        (try simp only [Act.put, List.setIfInBounds_toArray, List.set_cons_zero, List.set_cons_succ])
        refine seq_step (by rfl) (fun K hK => ?_)
        go_simp
        go_at_call 13
        (with_reducible refine (rvalid17_b [] [] [] co c b9 _ HB9 (Nat.zero_le _) (Nat.zero_le _) (Nat.zero_le _) (by omega)).mono ?_)
        rintro e w10 ⟨rfl, hb⟩
        replace hbg := hbg.kept hb
        replace hbr := hbr.kept hb
        replace hst := hst.below hb
        replace hr := hr.below hb
        replace hbf := hbf.trans (hb.mono hbf.size)
        clear hb
        first | refine hK.out _ _ hbg (fun _ => ?_) | (go_wp2_with fail; refine hK.out _ _ hbg (fun _ => ?_))
        clear hK K
        (try simp only [Act.put, List.setIfInBounds_toArray, List.set_cons_zero, List.set_cons_succ])
        repeat (first | (refine seq_take (v := ?_) (by rfl) ?_ ?_; rotate_left; (· intro w hSw; (try dsimp only at hSw); obtain ⟨eg0, eg1, eg2, eg3, eg4, _, _, _, _, _⟩ := hSw; go_simp; all_goals with_reducible rfl); (try simp only [Act.put, List.setIfInBounds_toArray, List.set_cons_zero, List.set_cons_succ])) | (refine seq_leave (by rfl) ?_; (try simp only [Act.put, List.setIfInBounds_toArray, List.set_cons_zero, List.set_cons_succ])))
        refine seq_step (by rfl) (fun K hK => ?_)
        go_simp
        go_at_call 14
        (with_reducible refine (plain_b [] [] [] co c false _ HPL).mono ?_)
        rintro e w11 ⟨rfl, hb⟩
        replace hbg := hbg.kept hb
        replace hbr := hbr.kept hb
        replace hst := hst.below hb
        replace hr := hr.below hb
        replace hbf := hbf.trans (hb.mono hbf.size)
        clear hb
        first | refine hK.out _ _ hbg (fun _ => ?_) | (go_wp2_with fail; refine hK.out _ _ hbg (fun _ => ?_))
        clear hK K
        (try simp only [Act.put, List.setIfInBounds_toArray, List.set_cons_zero, List.set_cons_succ])
        repeat (first | (refine seq_take (v := ?_) (by rfl) ?_ ?_; rotate_left; (· intro w hSw; (try dsimp only at hSw); obtain ⟨eg0, eg1, eg2, eg3, eg4, _, _, _, _, _⟩ := hSw; go_simp; all_goals with_reducible rfl); (try simp only [Act.put, List.setIfInBounds_toArray, List.set_cons_zero, List.set_cons_succ])) | (refine seq_leave (by rfl) ?_; (try simp only [Act.put, List.setIfInBounds_toArray, List.set_cons_zero, List.set_cons_succ])))
        refine seq_end ?_
        go_wp2_with fail
        go_ret
        exact ⟨rfl, hbf⟩
      subst g3
      by_cases g9 : c = 0
      case neg =>
        have e9 : (c == 0) = false := by rw [beq_eq_false_iff_ne]; exact g9
        have HPL : Hid (plainB [] [] [] [] c = false) := Lib.hid (by unfold plainB; rw [e9]; rfl)
        refine wp_region_seqQ (S := fun w' => Box5 w' pg (Value.string ⟨#[]⟩) (Value.string ⟨#[]⟩) (Value.string ⟨#[]⟩) (Value.string ⟨#[]⟩) (Value.int .i64 c)) [(0, 4, some 69), (1, 590295810358705651712, some 70), (0, 4, some 71), (6, 2361183241434822606848, some 72), (10, 5902958103587056517120, some 73), (24, 9444732965739290427392, some 74), (32, 18889465931478580854788, some 75), (96, 56668397794435742564352, some 76), (32, 18889465931478580854788, some 77), (32, 18889465931478580854784, some 78), (800, 472236648286964521369600, some 79), (1184, 698910239464707491627008, some 80), (2080, 1227815285546107755560960, some 81), (8191, 2417851639229258349412352, some 4)] [(true, 0), (true, 2), (false, 1), (false, 3), (true, 4), (true, 5), (true, 6), (true, 8), (true, 9), (true, 10), (false, 7), (true, 11), (true, 12), (true, 13)] (by kernel_rfl) (by kernel_rfl) (by kernel_rfl) (by kernel_rfl) (by kernel_rfl) (by kernel_rfl) (fun d _ _ _ _ h => by cases d <;> exact h) hbg.drew (fun _ => ?_)
        simp only [pickOps, List.append_eq, List.cons_append, List.nil_append, List.getElem?_toArray, List.getElem?_cons_succ, List.getElem?_cons_zero]
        have hb : Below wr.heap.size wr wr.drew := (Below.refl _ _).drew
        generalize wr.drew = w8 at hb ⊢
        replace hbg := hbg.kept hb
        replace hbr := hbr.kept hb
        replace hst := hst.below hb
        replace hr := hr.below hb
        replace hbf := hbf.trans (hb.mono hbf.size)
        clear hb
        repeat (first | (refine seq_take (v := ?_) (by rfl) ?_ ?_; rotate_left; (· intro w hSw; (try dsimp only at hSw); obtain ⟨eg0, eg1, eg2, eg3, eg4, _, _, _, _, _⟩ := hSw; go_simp; all_goals with_reducible rfl); (try simp only [Act.put, List.setIfInBounds_toArray, List.set_cons_zero, List.set_cons_succ])) | (refine seq_leave (by rfl) ?_; (try simp only [Act.put, List.setIfInBounds_toArray, List.set_cons_zero, List.set_cons_succ])))
        refine seq_step (by rfl) (fun K hK => ?_)
        go_simp
        go_at_call 12
        (with_reducible refine (valid17_b [] [] [] [] c b9 _ HB9 (Nat.zero_le _) (Nat.zero_le _) (Nat.zero_le _) (Nat.zero_le _)).mono ?_)
        rintro e w9 ⟨rfl, hb⟩
        replace hbg := hbg.kept hb
        replace hbr := hbr.kept hb
        replace hst := hst.below hb
        replace hr := hr.below hb
        replace hbf := hbf.trans (hb.mono hbf.size)
        clear hb
        first | refine hK.out _ _ hbg (fun _ => ?_) | (go_wp2_with fail; refine hK.out _ _ hbg (fun _ => ?_))
        clear hK K
        (try simp only [Act.put, List.setIfInBounds_toArray, List.set_cons_zero, List.set_cons_succ])
        refine seq_step (by rfl) (fun K hK => ?_)
        go_simp
        go_at_call 13
        (with_reducible refine (rvalid17_b [] [] [] [] c b9 _ HB9 (Nat.zero_le _) (Nat.zero_le _) (Nat.zero_le _) (Nat.zero_le _)).mono ?_)
        rintro e w10 ⟨rfl, hb⟩
        replace hbg := hbg.kept hb
        replace hbr := hbr.kept hb
        replace hst := hst.below hb
        replace hr := hr.below hb
        replace hbf := hbf.trans (hb.mono hbf.size)
        clear hb
        first | refine hK.out _ _ hbg (fun _ => ?_) | (go_wp2_with fail; refine hK.out _ _ hbg (fun _ => ?_))
        clear hK K
        (try simp only [Act.put, List.setIfInBounds_toArray, List.set_cons_zero, List.set_cons_succ])
        repeat (first | (refine seq_take (v := ?_) (by rfl) ?_ ?_; rotate_left; (· intro w hSw; (try dsimp only at hSw); obtain ⟨eg0, eg1, eg2, eg3, eg4, _, _, _, _, _⟩ := hSw; go_simp; all_goals with_reducible rfl); (try simp only [Act.put, List.setIfInBounds_toArray, List.set_cons_zero, List.set_cons_succ])) | (refine seq_leave (by rfl) ?_; (try simp only [Act.put, List.setIfInBounds_toArray, List.set_cons_zero, List.set_cons_succ])))
        refine seq_step (by rfl) (fun K hK => ?_)
        go_simp
        go_at_call 14
        (with_reducible refine (plain_b [] [] [] [] c false _ HPL).mono ?_)
        rintro e w11 ⟨rfl, hb⟩
        replace hbg := hbg.kept hb
        replace hbr := hbr.kept hb
        replace hst := hst.below hb
        replace hr := hr.below hb
        replace hbf := hbf.trans (hb.mono hbf.size)
        clear hb
        first | refine hK.out _ _ hbg (fun _ => ?_) | (go_wp2_with fail; refine hK.out _ _ hbg (fun _ => ?_))
        clear hK K
        (try simp only [Act.put, List.setIfInBounds_toArray, List.set_cons_zero, List.set_cons_succ])
        repeat (first | (refine seq_take (v := ?_) (by rfl) ?_ ?_; rotate_left; (· intro w hSw; (try dsimp only at hSw); obtain ⟨eg0, eg1, eg2, eg3, eg4, _, _, _, _, _⟩ := hSw; go_simp; all_goals with_reducible rfl); (try simp only [Act.put, List.setIfInBounds_toArray, List.set_cons_zero, List.set_cons_succ])) | (refine seq_leave (by rfl) ?_; (try simp only [Act.put, List.setIfInBounds_toArray, List.set_cons_zero, List.set_cons_succ])))
        refine seq_end ?_
        go_wp2_with fail
        go_ret
        exact ⟨rfl, hbf⟩
      subst g9
      have HPL : Hid (plainB [] [] [] [] 0 = true) := Lib.hid (rfl)
      refine wp_region_seqQ (S := fun w' => Box5 w' pg (Value.string ⟨#[]⟩) (Value.string ⟨#[]⟩) (Value.string ⟨#[]⟩) (Value.string ⟨#[]⟩) (Value.int .i64 0)) [(0, 4, some 69), (1, 590295810358705651712, some 70), (0, 4, some 71), (6, 2361183241434822606848, some 72), (10, 5902958103587056517120, some 73), (24, 9444732965739290427392, some 74), (32, 18889465931478580854788, some 75), (96, 56668397794435742564352, some 76), (32, 18889465931478580854788, some 77), (32, 18889465931478580854784, some 78), (800, 472236648286964521369600, some 79), (1184, 698910239464707491627008, some 80), (2080, 1227815285546107755560960, some 81), (8191, 2417851639229258349412352, some 4)] [(true, 0), (true, 2), (false, 1), (false, 3), (true, 4), (true, 5), (true, 6), (true, 8), (true, 9), (true, 10), (false, 7), (true, 11), (true, 12), (true, 13)] (by kernel_rfl) (by kernel_rfl) (by kernel_rfl) (by kernel_rfl) (by kernel_rfl) (by kernel_rfl) (fun d _ _ _ _ h => by cases d <;> exact h) hbg.drew (fun _ => ?_)
      simp only [pickOps, List.append_eq, List.cons_append, List.nil_append, List.getElem?_toArray, List.getElem?_cons_succ, List.getElem?_cons_zero]
      have hb : Below wr.heap.size wr wr.drew := (Below.refl _ _).drew
      generalize wr.drew = w8 at hb ⊢
      replace hbg := hbg.kept hb
      replace hbr := hbr.kept hb
      replace hst := hst.below hb
      replace hr := hr.below hb
      replace hbf := hbf.trans (hb.mono hbf.size)
      clear hb
      repeat (first | (refine seq_take (v := ?_) (by rfl) ?_ ?_; rotate_left; (· intro w hSw; (try dsimp only at hSw); obtain ⟨eg0, eg1, eg2, eg3, eg4, _, _, _, _, _⟩ := hSw; go_simp; all_goals with_reducible rfl); (try simp only [Act.put, List.setIfInBounds_toArray, List.set_cons_zero, List.set_cons_succ])) | (refine seq_leave (by rfl) ?_; (try simp only [Act.put, List.setIfInBounds_toArray, List.set_cons_zero, List.set_cons_succ])))
      refine seq_step (by rfl) (fun K hK => ?_)
      go_simp
      go_at_call 12
      (with_reducible refine (valid17_b [] [] [] [] 0 b9 _ HB9 (Nat.zero_le _) (Nat.zero_le _) (Nat.zero_le _) (Nat.zero_le _)).mono ?_)
      rintro e w9 ⟨rfl, hb⟩
      replace hbg := hbg.kept hb
      replace hbr := hbr.kept hb
      replace hst := hst.below hb
      replace hr := hr.below hb
      replace hbf := hbf.trans (hb.mono hbf.size)
      clear hb
      first | refine hK.out _ _ hbg (fun _ => ?_) | (go_wp2_with fail; refine hK.out _ _ hbg (fun _ => ?_))
      clear hK K
      (try simp only [Act.put, List.setIfInBounds_toArray, List.set_cons_zero, List.set_cons_succ])
      refine seq_step (by rfl) (fun K hK => ?_)
      go_simp
      go_at_call 13
      (with_reducible refine (rvalid17_b [] [] [] [] 0 b9 _ HB9 (Nat.zero_le _) (Nat.zero_le _) (Nat.zero_le _) (Nat.zero_le _)).mono ?_)
      rintro e w10 ⟨rfl, hb⟩
      replace hbg := hbg.kept hb
      replace hbr := hbr.kept hb
      replace hst := hst.below hb
      replace hr := hr.below hb
      replace hbf := hbf.trans (hb.mono hbf.size)
      clear hb
      first | refine hK.out _ _ hbg (fun _ => ?_) | (go_wp2_with fail; refine hK.out _ _ hbg (fun _ => ?_))
      clear hK K
      (try simp only [Act.put, List.setIfInBounds_toArray, List.set_cons_zero, List.set_cons_succ])
      repeat (first | (refine seq_take (v := ?_) (by rfl) ?_ ?_; rotate_left; (· intro w hSw; (try dsimp only at hSw); obtain ⟨eg0, eg1, eg2, eg3, eg4, _, _, _, _, _⟩ := hSw; go_simp; all_goals with_reducible rfl); (try simp only [Act.put, List.setIfInBounds_toArray, List.set_cons_zero, List.set_cons_succ])) | (refine seq_leave (by rfl) ?_; (try simp only [Act.put, List.setIfInBounds_toArray, List.set_cons_zero, List.set_cons_succ])))
      refine seq_step (by rfl) (fun K hK => ?_)
      go_simp
      go_at_call 14
      (with_reducible refine (plain_b [] [] [] [] 0 true _ HPL).mono ?_)
      rintro e w11 ⟨rfl, hb⟩
      replace hbg := hbg.kept hb
      replace hbr := hbr.kept hb
      replace hst := hst.below hb
      replace hr := hr.below hb
      replace hbf := hbf.trans (hb.mono hbf.size)
      clear hb
      first | refine hK.out _ _ hbg (fun _ => ?_) | (go_wp2_with fail; refine hK.out _ _ hbg (fun _ => ?_))
      clear hK K
      (try simp only [Act.put, List.setIfInBounds_toArray, List.set_cons_zero, List.set_cons_succ])
      repeat (first | (refine seq_take (v := ?_) (by rfl) ?_ ?_; rotate_left; (· intro w hSw; (try dsimp only at hSw); obtain ⟨eg0, eg1, eg2, eg3, eg4, _, _, _, _, _⟩ := hSw; go_simp; all_goals with_reducible rfl); (try simp only [Act.put, List.setIfInBounds_toArray, List.set_cons_zero, List.set_cons_succ])) | (refine seq_leave (by rfl) ?_; (try simp only [Act.put, List.setIfInBounds_toArray, List.set_cons_zero, List.set_cons_succ])))
      refine seq_end ?_
      go_wp2_with fail
      go_ret
      exact ⟨rfl, hbf⟩

theorem targetTells_walk (a0 a1 : Value) (ls : List (List UInt8)) (w : World) (hg : Tgt a0) (hs : StrsN w a1 ls) (hm : ∀ l ∈ ls, l.length ≤ maxLen) :
    Calls Tryz.prog 3 #[a0, a1] w fun e w' => e = .returned (.bool true) ∧ Below w.heap.size w w' := by
  obtain ⟨mn, mx, fa, co, c, rfl, h1, h2, h3, h4⟩ := hg
  by_cases hb : shortT mn mx fa co = true ∧ shortB 20 1000 ls = true
  · exact targetTells_main mn mx fa co c a1 ls w hs hm (Lib.hid hb.1) (Lib.hid hb.2) h1 h2 h3 h4
  · refine targetTells_early mn mx fa co c a1 ls w hs hm _ _ (Lib.hid rfl) (Lib.hid rfl) ?_ h1 h2 h3 h4
    rw [Bool.and_eq_false_iff]
    by_cases h9 : shortT mn mx fa co = true
    · exact .inr (by simpa using fun h => hb ⟨h9, h⟩)
    · exact .inl (by simpa using h9)
end Go.Proofs.YtnajnbgjmgkcoaaGreatDoor
