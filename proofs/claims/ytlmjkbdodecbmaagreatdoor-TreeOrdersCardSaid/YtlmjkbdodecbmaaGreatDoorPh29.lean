/-
  Ph29: LawTo (what is needed of them).
-/
import Derived.Test.YtlmjkbdodecbmaaGreatDoorPh27
import Derived.Test.YtlmjkbdodecbmaaGreatDoorPh28

namespace Go.Proofs.YtlmjkbdodecbmaaGreatDoor
open Go.RowKit Go.Shelf
set_option linter.unusedVariables false
set_option linter.unusedSimpArgs false
attribute [local go_sem] field_nat
theorem eq_seqnil3 (w : World) (b : Nat) : (binOp .eql 47 (.func (.func pathsF) #[] #[.pointer (some ⟨b, 0, none⟩)]) .nilFunc).run Tryz.prog w = .ok (.bool false) w := by kernel_rfl
theorem tdepth_l (u : TR) (N : Nat) (ms nt : Int) (no : Option Addr) (nc B : Nat) (z : Nat) (w : World) (hu : Hid (u.nodes.length = N ∧ u.ms = ms ∧ u.nt = nt)) (hT : Hid (TrIs B w u no nc)) (hB : Hid (B ≤ w.heap.size)) (hsz : Hid ((u.nodes.length + (u.nodes.map fun x => x.kids.length).sum ≤ 1500) ∧ ∀ x ∈ u.nodes, SmN x)) (HZ : Hid (z = deepT u)) :
    Calls Tryz.prog 21 #[.agg #[.slice no N nc, .int .i64 ms, .int .i64 nt]] w fun e w' => e = .returned (.int .i64 (z : Int)) ∧ Below w.heap.size w w' := by
  obtain ⟨rfl, rfl, rfl⟩ := hu.out
  exact tdepth_any u z no nc B w hT.out hB.out hsz.out.1 HZ
theorem tvalid_l (u : TR) (N : Nat) (ms nt : Int) (no : Option Addr) (nc B : Nat) (ao : Option Addr) (cap : Nat) (xs : List FV) (b : Bool) (w : World) (hu : Hid (u.nodes.length = N ∧ u.ms = ms ∧ u.nt = nt)) (hT : Hid (TrIs B w u no nc)) (hB : Hid (B ≤ w.heap.size)) (hsz : Hid ((u.nodes.length + (u.nodes.map fun x => x.kids.length).sum ≤ 1500) ∧ ∀ x ∈ u.nodes, SmN x)) (hf : Hid (Flds w ao xs)) (hxl : Hid (xs.length ≤ 1000000)) (HB : Hid (b = validT (xs.map (·.f)) u)) :
    Calls Tryz.prog 19 #[.agg #[.slice no N nc, .int .i64 ms, .int .i64 nt], .slice ao xs.length cap] w fun e w' => e = .returned (.bool b) ∧ Below w.heap.size w w' := by
  obtain ⟨rfl, rfl, rfl⟩ := hu.out
  exact tvalid_any u no nc B ao cap xs b w hT.out hB.out hsz.out.1 (Lib.hid hsz.out.2) hf hxl.out HB
theorem tsame_l (u : TR) (N : Nat) (ms nt : Int) (no : Option Addr) (nc B : Nat) (mo : Option Addr) (mc : Nat) (w : World) (hu : Hid (u.nodes.length = N ∧ u.ms = ms ∧ u.nt = nt)) (hT : Hid (TrIs B w u no nc)) (hM : Hid (TrIs B w u mo mc)) (hB : Hid (B ≤ w.heap.size)) :
    Calls Tryz.prog 20 #[.agg #[.slice no N nc, .int .i64 ms, .int .i64 nt], .agg #[.slice mo N mc, .int .i64 ms, .int .i64 nt]] w fun e w' => e = .returned (.bool true) ∧ Below w.heap.size w w' := by
  obtain ⟨rfl, rfl, rfl⟩ := hu.out
  exact treeSame_self u no mo nc mc B w hT.out hM.out hB.out
theorem torder_l (u : TR) (N : Nat) (ms nt : Int) (no : Option Addr) (nc B : Nat) (w : World) (hu : Hid (u.nodes.length = N ∧ u.ms = ms ∧ u.nt = nt)) (hT : Hid (TrIs B w u no nc)) (hB : Hid (B ≤ w.heap.size)) (hsz : Hid ((u.nodes.length + (u.nodes.map fun x => x.kids.length).sum ≤ 1500) ∧ ∀ x ∈ u.nodes, SmN x)) (hs : Hid (shapeB u = true)) (ho : Hid (orderT u = u)) :
    Calls Tryz.prog 18 #[.agg #[.slice no N nc, .int .i64 ms, .int .i64 nt]] w fun e w' => (∃ no nc, e = .returned (.tuple #[.agg #[.slice no N nc, .int .i64 ms, .int .i64 nt], .bool true]) ∧ TrIs w'.heap.size w' u no nc) ∧ Below w.heap.size w w' := by
  obtain ⟨rfl, rfl, rfl⟩ := hu.out
  refine (torder_any u no nc B w hT.out hB.out hsz.out.1 (Lib.hid hsz.out.2)).mono ?_
  rintro e w' ⟨hb, ⟨h, _⟩ | ⟨_, no, nc, rfl, hT⟩⟩
  · rw [hs.out] at h; cases h
  · rw [ho.out] at hT ⊢
    exact ⟨⟨no, nc, rfl, hT⟩, hb⟩
theorem ways_l (u : TR) (N : Nat) (ms nt : Int) (no : Option Addr) (nc B : Nat) (px n : Nat) (w : World) (hu : Hid (u.nodes.length = N ∧ u.ms = ms ∧ u.nt = nt)) (hT : Hid (TrIs B w u no nc)) (hB : Hid (B ≤ w.heap.size)) (hsz : Hid ((u.nodes.length + (u.nodes.map fun x => x.kids.length).sum ≤ 1500) ∧ ∀ x ∈ u.nodes, SmN x)) (hx : Hid (BoxL w px [.slice no N nc, .int .i64 ms, .int .i64 nt])) (hn : Hid (n = (pathsT u).length)) :
    Calls Tryz.prog 13 #[.func (.func pathsF) #[] #[.pointer (some ⟨px, 0, none⟩)], .int .i64 0] w fun e w' => (∃ ao ac, e = .returned (.slice ao n ac)) ∧ Below w.heap.size w w' := by
  obtain ⟨rfl, rfl, rfl⟩ := hu.out
  have hl : (pathsT u).length ≤ 2000 := by
    rw [paths_count]
    refine Nat.le_trans (List.length_filter_le _ _) ?_
    by_cases hs : shapeB u = true
    · rw [walkT_len hs]; have := hsz.out.1; unfold TR.N; omega
    · have hw : walkT u = [] := by unfold walkT; rw [if_neg hs]
      rw [hw]; exact Nat.zero_le _
  have h9 := ways_any (pathsT u) (pathsT u) 0 B px w (paths1_iter B u no nc px w hT.out hB.out hx.out.lt hsz.out.1 hx.out) hB.out hx.out.lt hl (Lib.hid (by unfold cutL; rw [if_neg (by omega)]))
  rw [← hn.out] at h9
  exact h9
set_option maxRecDepth 100000 in
set_option maxHeartbeats 8000000 in
/-- TreeOrders. -/
theorem treeOrders_main (t : TR) (no : Option Addr) (nc : Nat) (ao : Option Addr) (cap : Nat) (xs : List FV) (w : World) (hT0 : TrIs w.heap.size w t no nc) (hF0 : Flds w ao xs) (hxl : xs.length ≤ 9223372036854775807) (hbig : ∀ x ∈ xs, BigF x.f) :
    Calls Tryz.prog 4 #[.agg #[.slice no t.nodes.length nc, .int .i64 t.ms, .int .i64 t.nt], .slice ao xs.length cap] w fun e w' => e = .returned (.bool true) ∧ Below w.heap.size w w' := by
  obtain ⟨B, hB⟩ : ∃ B, B = w.heap.size := ⟨_, rfl⟩
  rw [← hB] at hT0
  obtain ⟨tb, htb⟩ : ∃ b, b = treeB t := ⟨_, rfl⟩
  obtain ⟨fb, hfb⟩ : ∃ b, b = fieldsB (xs.map (·.f)) := ⟨_, rfl⟩
  obtain ⟨vb, hvb⟩ : ∃ b, b = validT (xs.map (·.f)) t := ⟨_, rfl⟩
  have HTB := Lib.hid htb
  have HFB := Lib.hid hfb
  have HVB := Lib.hid hvb
  obtain ⟨w0, hw0, hbf, hz0, pt, hpt, hbt⟩ := boxT w no t.nodes.length nc t.ms t.nt
  have hT := hT0.low (Low.of_below hbf (by omega))
  have hBw : B ≤ w0.heap.size := by omega
  have HF : Hid (Flds w0 ao xs) := Lib.hid (hF0.below hbf)
  have HXL := Lib.hid hxl
  have HBIG := Lib.hid hbig
  have HW := Lib.hid hw0
  clear hw0 hz0 htb hfb hvb hT0 hF0 hxl hbig hB
  go_enter Tryz.func4, Tryz.ntmps4
  go_upto_region 1 with fail
  rw [← HW.out, ← hpt]
  clear hpt HW
  have e0 := hbt.cell 0 _ rfl
  have e1 := hbt.cell 1 _ rfl
  have e2 := hbt.cell 2 _ rfl
  go_wp2_with fail
  (with_reducible refine (bTree_any t tb no nc B _ hT hBw HTB).mono ?_)
  rintro e w1 ⟨rfl, hb⟩
  try clear e0 e1 e2
  replace hbt := hbt.kept hb
  replace hT := hT.low (Low.of_below hb hBw)
  replace hBw := Nat.le_trans hBw hb.size
  replace HF : Hid (Flds _ ao xs) := Lib.hid (HF.out.below hb)
  replace hbf := hbf.trans (hb.mono hbf.size)
  clear hb
  cases tb
  case false =>
    go_wp2_with fail
    refine (alive14_any _).mono ?_
    rintro e w9 ⟨rfl, hb⟩
    go_wp2_with fail
    go_ret
    exact ⟨ret_one rfl, hbf.trans (hb.mono hbf.size)⟩
  case true =>
  have HTB2 := Lib.hid HTB.out.symm
  have HSZ := Lib.hid (treeB_le HTB.out.symm)
  clear HTB
  go_wp2_with fail
  (with_reducible refine (fields_t ao cap xs fb _ HF HXL HBIG HFB).mono ?_)
  rintro e w2 ⟨rfl, hb⟩
  try clear e0 e1 e2
  replace hbt := hbt.kept hb
  replace hT := hT.low (Low.of_below hb hBw)
  replace hBw := Nat.le_trans hBw hb.size
  replace HF : Hid (Flds _ ao xs) := Lib.hid (HF.out.below hb)
  replace hbf := hbf.trans (hb.mono hbf.size)
  clear hb
  cases fb
  case false =>
    go_wp2_with fail
    refine (alive14_any _).mono ?_
    rintro e w9 ⟨rfl, hb⟩
    go_wp2_with fail
    go_ret
    exact ⟨ret_one rfl, hbf.trans (hb.mono hbf.size)⟩
  case true =>
  have HXM : Hid (xs.length ≤ 1000000) := Lib.hid (by have := (fieldsB_le HFB.out.symm).1; rw [List.length_map] at this; omega)
  clear HFB HXL HBIG
  go_wp2_with fail
  refine (alive14_any _).mono ?_
  rintro e w3 ⟨rfl, hb⟩
  try clear e0 e1 e2
  replace hbt := hbt.kept hb
  replace hT := hT.low (Low.of_below hb hBw)
  replace hBw := Nat.le_trans hBw hb.size
  replace HF : Hid (Flds _ ao xs) := Lib.hid (HF.out.below hb)
  replace hbf := hbf.trans (hb.mono hbf.size)
  clear hb
  have e0 := hbt.cell 0 _ rfl
  have e1 := hbt.cell 1 _ rfl
  have e2 := hbt.cell 2 _ rfl
  have hcall := torder_any t no nc B w3 hT hBw HSZ.out.1 (Lib.hid HSZ.out.2)
  go_wp2_with fail
  refine hcall.mono ?_
  rintro e w4 ⟨hb, hq⟩
  clear hcall
  try clear e0 e1 e2
  replace hbt := hbt.kept hb
  replace hT := hT.low (Low.of_below hb hBw)
  replace hBw := Nat.le_trans hBw hb.size
  replace HF : Hid (Flds _ ao xs) := Lib.hid (HF.out.below hb)
  replace hbf := hbf.trans (hb.mono hbf.size)
  clear hb
  rcases hq with ⟨hs, rfl⟩ | ⟨hs, no2, nc2, he, hT2⟩
  · have HVF : Hid (false = validT (xs.map (·.f)) t) := Lib.hid (by unfold validT; rw [hs]; simp)
    obtain ⟨w5, hw5, hb5b, -, p5, hp5, hb5⟩ := boxT w4 none 0 0 0 0
    have hT5 := hT.low (Low.of_below hb5b hBw)
    have hBw5 := Nat.le_trans hBw hb5b.size
    have HF5 : Hid (Flds w5 ao xs) := Lib.hid (HF.out.below hb5b)
    have hbt5 := hbt.kept hb5b
    have hbf5 := hbf.trans (hb5b.mono hbf.size)
    have HW := Lib.hid hw5
    clear hw5 hb5b hs hT hbt hbf HF hBw
    go_upto_region 4 with fail
    rw [← HW.out, ← hp5]
    clear HW hp5
    have q0 := hb5.cell 0 _ rfl
    have e0 := hbt5.cell 0 _ rfl
    have e1 := hbt5.cell 1 _ rfl
    have e2 := hbt5.cell 2 _ rfl
    go_wp2_with fail
    (with_reducible refine (tvalid_l t t.nodes.length t.ms t.nt no nc B ao cap xs false _ (Lib.hid ⟨rfl, rfl, rfl⟩) (Lib.hid hT5) (Lib.hid hBw5) HSZ HF5 HXM HVF).mono ?_)
    rintro e w6 ⟨rfl, hb⟩
    go_wp2_with fail
    go_ret
    exact ⟨ret_one rfl, hbf5.trans (hb.mono hbf5.size)⟩
  have hol : (orderT t).nodes.length = t.nodes.length := orderT_len hs
  rw [hol] at he
  subst he
  obtain ⟨u, hu⟩ : ∃ u, u = orderT t := ⟨_, rfl⟩
  have HU : Hid (u.nodes.length = t.nodes.length ∧ u.ms = t.ms ∧ u.nt = t.nt) := Lib.hid (by rw [hu]; exact ⟨hol, rfl, rfl⟩)
  have HUS : Hid (shapeB u = true) := Lib.hid (by rw [hu]; exact order_shape hs)
  have HUO : Hid (orderT u = u) := Lib.hid (by rw [hu]; exact order_again hs)
  have HUZ : Hid ((u.nodes.length + (u.nodes.map fun x => x.kids.length).sum ≤ 1500) ∧ ∀ x ∈ u.nodes, SmN x) := Lib.hid (by rw [hu]; exact order_small hs HTB2.out)
  have HUD : Hid (deepT t = deepT u) := Lib.hid (by rw [hu]; exact (order_deep hs).symm)
  have HUP : Hid ((pathsT t).length = (pathsT u).length) := Lib.hid (by rw [hu]; exact (order_paths hs).symm)
  have HUV : Hid (validT (xs.map (·.f)) t = true → validT (xs.map (·.f)) u = true) := Lib.hid (by rw [hu]; exact fun h => order_valid hs h)
  rw [← hu] at hT2
  obtain ⟨B2, hB2⟩ : ∃ b, b = w4.heap.size := ⟨_, rfl⟩
  rw [← hB2] at hT2
  obtain ⟨w5, hw5, hb5b, -, p5, hp5, hb5⟩ := boxT w4 no2 t.nodes.length nc2 t.ms t.nt
  have hTB : TrIs B2 w4 t no nc := hT.mono (by omega)
  have hT5 : Hid (TrIs B2 w5 t no nc) := Lib.hid (hTB.low (Low.of_below hb5b (by omega)))
  have hA5 : Hid (TrIs B2 w5 u no2 nc2) := Lib.hid (hT2.low (Low.of_below hb5b (by omega)))
  have hBw5 : Hid (B2 ≤ w5.heap.size) := Lib.hid (by have := hb5b.size; omega)
  have HF5 : Hid (Flds w5 ao xs) := Lib.hid (HF.out.below hb5b)
  have hbt5 := hbt.kept hb5b
  have hbf5 := hbf.trans (hb5b.mono hbf.size)
  have HW := Lib.hid hw5
  clear hw5 hb5b hs hT hbt hbf HF hBw hol hu hT2 hTB hB2
  go_upto_region 4 with fail
  rw [← HW.out, ← hp5]
  clear HW hp5
  have q0 := hb5.cell 0 _ rfl
  have q1 := hb5.cell 1 _ rfl
  have q2 := hb5.cell 2 _ rfl
  go_wp2_with fail
  (with_reducible refine (torder_l u t.nodes.length t.ms t.nt no2 nc2 B2 _ HU hA5 hBw5 HUZ HUS HUO).mono ?_)
  rintro e w6 ⟨⟨no3, nc3, rfl, hT6⟩, hb⟩
  clear q0 q1 q2
  obtain ⟨B3, hB3⟩ : ∃ b, b = w6.heap.size := ⟨_, rfl⟩
  rw [← hB3] at hT6
  obtain ⟨w7, hw7, hb7b, -, p7, hp7, hb7⟩ := boxT w6 no3 t.nodes.length nc3 t.ms t.nt
  have hb67 := hb.trans (hb7b.mono hb.size)
  have HB25 := hBw5.out
  have hle : B2 ≤ B3 := by have := hb.size; omega
  have HT : Hid (TrIs B3 w7 t no nc) := Lib.hid ((hT5.out.low (Low.of_below hb67 HB25)).mono hle)
  have HA : Hid (TrIs B3 w7 u no2 nc2) := Lib.hid ((hA5.out.low (Low.of_below hb67 HB25)).mono hle)
  have HC : Hid (TrIs B3 w7 u no3 nc3) := Lib.hid (hT6.low (Low.of_below hb7b (by omega)))
  have HBw : Hid (B3 ≤ w7.heap.size) := Lib.hid (by have := hb7b.size; omega)
  have HF7 : Hid (Flds w7 ao xs) := Lib.hid (HF5.out.below hb67)
  have hbt7 := hbt5.kept hb67
  have hb57 := hb5.kept hb67
  have hbf7 := hbf5.trans (hb67.mono hbf5.size)
  have HW := Lib.hid hw7
  clear hw7 hb7b hb67 hb HB25 hle hT5 hA5 hT6 hBw5 HF5 hbt5 hb5 hbf5 hB3
  go_upto_region 7 with fail
  rw [← HW.out, ← hp7]
  clear HW hp7
  refine wp_region_seq (S := fun w' => BoxL w' pt [.slice no t.nodes.length nc, .int .i64 t.ms, .int .i64 t.nt] ∧ BoxL w' p5 [.slice no2 t.nodes.length nc2, .int .i64 t.ms, .int .i64 t.nt]) [(true, 0), (true, 2), (false, 1), (false, 3), (true, 4), (true, 5)] (by kernel_rfl) (by kernel_rfl) (by kernel_rfl) (by kernel_rfl) (by kernel_rfl) (fun d _ _ _ _ h => by cases d <;> exact h) ⟨hbt7.drew, hb57.drew⟩ (fun _ => ?_)
  simp only [pickOps, List.append_eq, List.cons_append, List.nil_append, List.getElem?_toArray, List.getElem?_cons_succ, List.getElem?_cons_zero]
  have hb : Below w7.heap.size w7 w7.drew := (Below.refl _ _).drew
  generalize w7.drew = wd at hb ⊢
  replace hbt7 := hbt7.kept hb
  replace hb57 := hb57.kept hb
  replace hb7 := hb7.kept hb
  replace HT : Hid (TrIs B3 _ t no nc) := Lib.hid (HT.out.low (Low.of_below hb HBw.out))
  replace HA : Hid (TrIs B3 _ u no2 nc2) := Lib.hid (HA.out.low (Low.of_below hb HBw.out))
  replace HC : Hid (TrIs B3 _ u no3 nc3) := Lib.hid (HC.out.low (Low.of_below hb HBw.out))
  replace HBw : Hid (B3 ≤ World.size9 _) := Lib.hid (Nat.le_trans HBw.out (hb).size)
  replace HF7 : Hid (Flds _ ao xs) := Lib.hid (HF7.out.below hb)
  replace hbf7 := hbf7.trans ((hb).mono hbf7.size)
  clear hb
  repeat (first | (refine seq_take (v := ?_) (by rfl) ?_ ?_; rotate_left; (· intro w hSw; (try dsimp only at hSw); obtain ⟨hLt, hL5⟩ := hSw; have e0 := hLt.cell 0 _ rfl; have e1 := hLt.cell 1 _ rfl; have e2 := hLt.cell 2 _ rfl; have q0 := hL5.cell 0 _ rfl; have q1 := hL5.cell 1 _ rfl; have q2 := hL5.cell 2 _ rfl; clear hLt hL5; go_simp; all_goals with_reducible rfl); (try simp only [Act.put, List.setIfInBounds_toArray, List.set_cons_zero, List.set_cons_succ])) | (refine seq_leave (by rfl) ?_; (try simp only [Act.put, List.setIfInBounds_toArray, List.set_cons_zero, List.set_cons_succ])))
  refine seq_step (by rfl) (fun K hK => ?_)
  go_simp
  go_at_call 11
  (with_reducible refine (paths_any no t.nodes.length nc t.ms t.nt _).mono ?_)
  rintro e w11 ⟨rfl, hwp⟩
  have hb : Below wd.heap.size wd w11 := by rw [hwp]; exact (Below.refl _ _).alloc (Nat.le_refl _) _
  obtain ⟨px11, hpx⟩ : ∃ q, q = wd.heap.size := ⟨_, rfl⟩
  have hbx11 : BoxL w11 px11 [.slice no t.nodes.length nc, .int .i64 t.ms, .int .i64 t.nt] := by rw [hwp, hpx]; exact BoxL.new wd _ _
  rw [← hpx]
  clear hwp hpx
  replace hbt7 := hbt7.kept hb
  replace hb57 := hb57.kept hb
  replace hb7 := hb7.kept hb
  replace HT : Hid (TrIs B3 _ t no nc) := Lib.hid (HT.out.low (Low.of_below hb HBw.out))
  replace HA : Hid (TrIs B3 _ u no2 nc2) := Lib.hid (HA.out.low (Low.of_below hb HBw.out))
  replace HC : Hid (TrIs B3 _ u no3 nc3) := Lib.hid (HC.out.low (Low.of_below hb HBw.out))
  replace HBw : Hid (B3 ≤ World.size9 _) := Lib.hid (Nat.le_trans HBw.out (hb).size)
  replace HF7 : Hid (Flds _ ao xs) := Lib.hid (HF7.out.below hb)
  replace hbf7 := hbf7.trans ((hb).mono hbf7.size)
  clear hb
  first | refine hK.out _ _ ⟨hbt7, hb57⟩ (fun _ => ?_) | (go_wp2_with fail; refine hK.out _ _ ⟨hbt7, hb57⟩ (fun _ => ?_))
  clear hK K
  (try simp only [Act.put, List.setIfInBounds_toArray, List.set_cons_zero, List.set_cons_succ])
  repeat (first | (refine seq_take (v := ?_) (by rfl) ?_ ?_; rotate_left; (· intro w hSw; (try dsimp only at hSw); obtain ⟨hLt, hL5⟩ := hSw; have e0 := hLt.cell 0 _ rfl; have e1 := hLt.cell 1 _ rfl; have e2 := hLt.cell 2 _ rfl; have q0 := hL5.cell 0 _ rfl; have q1 := hL5.cell 1 _ rfl; have q2 := hL5.cell 2 _ rfl; clear hLt hL5; go_simp; all_goals with_reducible rfl); (try simp only [Act.put, List.setIfInBounds_toArray, List.set_cons_zero, List.set_cons_succ])) | (refine seq_leave (by rfl) ?_; (try simp only [Act.put, List.setIfInBounds_toArray, List.set_cons_zero, List.set_cons_succ])))
  refine seq_step (by rfl) (fun K hK => ?_)
  go_simp
  go_at_call 11
  (with_reducible refine (paths_any no2 t.nodes.length nc2 t.ms t.nt _).mono ?_)
  rintro e w12 ⟨rfl, hwp⟩
  have hb : Below w11.heap.size w11 w12 := by rw [hwp]; exact (Below.refl _ _).alloc (Nat.le_refl _) _
  obtain ⟨px12, hpx⟩ : ∃ q, q = w11.heap.size := ⟨_, rfl⟩
  have hbx12 : BoxL w12 px12 [.slice no2 t.nodes.length nc2, .int .i64 t.ms, .int .i64 t.nt] := by rw [hwp, hpx]; exact BoxL.new w11 _ _
  rw [← hpx]
  clear hwp hpx
  replace hbx11 := hbx11.kept hb
  replace hbt7 := hbt7.kept hb
  replace hb57 := hb57.kept hb
  replace hb7 := hb7.kept hb
  replace HT : Hid (TrIs B3 _ t no nc) := Lib.hid (HT.out.low (Low.of_below hb HBw.out))
  replace HA : Hid (TrIs B3 _ u no2 nc2) := Lib.hid (HA.out.low (Low.of_below hb HBw.out))
  replace HC : Hid (TrIs B3 _ u no3 nc3) := Lib.hid (HC.out.low (Low.of_below hb HBw.out))
  replace HBw : Hid (B3 ≤ World.size9 _) := Lib.hid (Nat.le_trans HBw.out (hb).size)
  replace HF7 : Hid (Flds _ ao xs) := Lib.hid (HF7.out.below hb)
  replace hbf7 := hbf7.trans ((hb).mono hbf7.size)
  clear hb
  first | refine hK.out _ _ ⟨hbt7, hb57⟩ (fun _ => ?_) | (go_wp2_with fail; refine hK.out _ _ ⟨hbt7, hb57⟩ (fun _ => ?_))
  clear hK K
  (try simp only [Act.put, List.setIfInBounds_toArray, List.set_cons_zero, List.set_cons_succ])
  repeat (first | (refine seq_take (v := ?_) (by rfl) ?_ ?_; rotate_left; (· intro w hSw; (try dsimp only at hSw); obtain ⟨hLt, hL5⟩ := hSw; have e0 := hLt.cell 0 _ rfl; have e1 := hLt.cell 1 _ rfl; have e2 := hLt.cell 2 _ rfl; have q0 := hL5.cell 0 _ rfl; have q1 := hL5.cell 1 _ rfl; have q2 := hL5.cell 2 _ rfl; clear hLt hL5; go_simp; all_goals with_reducible rfl); (try simp only [Act.put, List.setIfInBounds_toArray, List.set_cons_zero, List.set_cons_succ])) | (refine seq_leave (by rfl) ?_; (try simp only [Act.put, List.setIfInBounds_toArray, List.set_cons_zero, List.set_cons_succ])))
  refine seq_end ?_
  have hsn1 := eq_seqnil3 w12 px11
  have hsn2 := eq_seqnil3 w12 px12
  go_upto_region 10 with fail
  clear hsn1 hsn2
  obtain ⟨z, hz⟩ : ∃ z, z = deepT t := ⟨_, rfl⟩
  obtain ⟨n, hn⟩ : ∃ z, z = (pathsT t).length := ⟨_, rfl⟩
  have HZT := Lib.hid hz
  have HZU : Hid (z = deepT u) := Lib.hid (by rw [hz, HUD.out])
  have HNT := Lib.hid hn
  have HNU : Hid (n = (pathsT u).length) := Lib.hid (by rw [hn, HUP.out])
  clear hz hn
  cases vb
  case false =>
    refine wp_region_seq (S := fun w' => BoxL w' pt [.slice no t.nodes.length nc, .int .i64 t.ms, .int .i64 t.nt] ∧ BoxL w' p5 [.slice no2 t.nodes.length nc2, .int .i64 t.ms, .int .i64 t.nt] ∧ BoxL w' p7 [.slice no3 t.nodes.length nc3, .int .i64 t.ms, .int .i64 t.nt]) [(true, 0), (true, 1), (true, 2), (true, 3), (false, 4), (true, 5), (true, 6), (true, 7), (true, 9), (false, 8), (false, 10), (true, 11), (true, 12), (true, 13), (true, 14), (true, 15), (true, 16), (true, 17), (true, 18), (true, 19), (true, 20), (true, 21), (true, 22), (true, 23), (true, 26), (false, 24), (true, 25), (false, 27), (true, 28), (true, 29), (true, 30), (true, 31), (true, 32), (true, 33), (false, 34), (true, 35), (true, 36), (true, 37), (true, 38), (false, 39), (true, 40), (true, 41), (true, 42)] (by kernel_rfl) (by kernel_rfl) (by kernel_rfl) (by kernel_rfl) (by kernel_rfl) (fun d _ _ _ _ h => by cases d <;> exact h) ⟨hbt7.drew, hb57.drew, hb7.drew⟩ (fun _ => ?_)
    simp only [pickOps, List.append_eq, List.cons_append, List.nil_append, List.getElem?_toArray, List.getElem?_cons_succ, List.getElem?_cons_zero]
    have hb : Below w12.heap.size w12 w12.drew := (Below.refl _ _).drew
    generalize w12.drew = wd at hb ⊢
    replace hbt7 := hbt7.kept hb
    replace hb57 := hb57.kept hb
    replace hb7 := hb7.kept hb
    replace HT : Hid (TrIs B3 _ t no nc) := Lib.hid (HT.out.low (Low.of_below hb HBw.out))
    replace HA : Hid (TrIs B3 _ u no2 nc2) := Lib.hid (HA.out.low (Low.of_below hb HBw.out))
    replace HC : Hid (TrIs B3 _ u no3 nc3) := Lib.hid (HC.out.low (Low.of_below hb HBw.out))
    replace HBw : Hid (B3 ≤ World.size9 _) := Lib.hid (Nat.le_trans HBw.out (hb).size)
    replace HF7 : Hid (Flds _ ao xs) := Lib.hid (HF7.out.below hb)
    replace hbf7 := hbf7.trans ((hb).mono hbf7.size)
    replace hbx11 := hbx11.kept hb
    replace hbx12 := hbx12.kept hb
    clear hb
    repeat (first | (refine seq_take (v := ?_) (by rfl) ?_ ?_; rotate_left; (· intro w hSw; (try dsimp only at hSw); obtain ⟨hLt, hL5, hL7⟩ := hSw; have e0 := hLt.cell 0 _ rfl; have q0 := hL5.cell 0 _ rfl; have r0 := hL7.cell 0 _ rfl; have e1 := hLt.cell 1 _ rfl; have q1 := hL5.cell 1 _ rfl; have r1 := hL7.cell 1 _ rfl; have e2 := hLt.cell 2 _ rfl; have q2 := hL5.cell 2 _ rfl; have r2 := hL7.cell 2 _ rfl; clear hLt hL5 hL7; go_simp; all_goals with_reducible rfl); (try simp only [Act.put, List.setIfInBounds_toArray, List.set_cons_zero, List.set_cons_succ])) | (refine seq_leave (by rfl) ?_; (try simp only [Act.put, List.setIfInBounds_toArray, List.set_cons_zero, List.set_cons_succ])))
    refine seq_step (by rfl) (fun K hK => ?_)
    go_simp
    go_at_call 20
    (with_reducible refine (tsame_l u t.nodes.length t.ms t.nt no2 nc2 B3 no3 nc3 _ HU HA HC HBw).mono ?_)
    rintro e w21 ⟨rfl, hb⟩
    replace hbt7 := hbt7.kept hb
    replace hb57 := hb57.kept hb
    replace hb7 := hb7.kept hb
    replace HT : Hid (TrIs B3 _ t no nc) := Lib.hid (HT.out.low (Low.of_below hb HBw.out))
    replace HA : Hid (TrIs B3 _ u no2 nc2) := Lib.hid (HA.out.low (Low.of_below hb HBw.out))
    replace HC : Hid (TrIs B3 _ u no3 nc3) := Lib.hid (HC.out.low (Low.of_below hb HBw.out))
    replace HBw : Hid (B3 ≤ World.size9 _) := Lib.hid (Nat.le_trans HBw.out (hb).size)
    replace HF7 : Hid (Flds _ ao xs) := Lib.hid (HF7.out.below hb)
    replace hbf7 := hbf7.trans ((hb).mono hbf7.size)
    replace hbx11 := hbx11.kept hb
    replace hbx12 := hbx12.kept hb
    clear hb
    first | refine hK.out _ _ ⟨hbt7, hb57, hb7⟩ (fun _ => ?_) | (go_wp2_with fail; refine hK.out _ _ ⟨hbt7, hb57, hb7⟩ (fun _ => ?_))
    clear hK K
    (try simp only [Act.put, List.setIfInBounds_toArray, List.set_cons_zero, List.set_cons_succ])
    repeat (first | (refine seq_take (v := ?_) (by rfl) ?_ ?_; rotate_left; (· intro w hSw; (try dsimp only at hSw); obtain ⟨hLt, hL5, hL7⟩ := hSw; have e0 := hLt.cell 0 _ rfl; have q0 := hL5.cell 0 _ rfl; have r0 := hL7.cell 0 _ rfl; have e1 := hLt.cell 1 _ rfl; have q1 := hL5.cell 1 _ rfl; have r1 := hL7.cell 1 _ rfl; have e2 := hLt.cell 2 _ rfl; have q2 := hL5.cell 2 _ rfl; have r2 := hL7.cell 2 _ rfl; clear hLt hL5 hL7; go_simp; all_goals with_reducible rfl); (try simp only [Act.put, List.setIfInBounds_toArray, List.set_cons_zero, List.set_cons_succ])) | (refine seq_leave (by rfl) ?_; (try simp only [Act.put, List.setIfInBounds_toArray, List.set_cons_zero, List.set_cons_succ])))
    refine seq_step (by rfl) (fun K hK => ?_)
    go_simp
    go_at_call 21
    (with_reducible refine (tdepth_l u t.nodes.length t.ms t.nt no2 nc2 B3 z _ HU HA HBw HUZ HZU).mono ?_)
    rintro e w22 ⟨rfl, hb⟩
    replace hbt7 := hbt7.kept hb
    replace hb57 := hb57.kept hb
    replace hb7 := hb7.kept hb
    replace HT : Hid (TrIs B3 _ t no nc) := Lib.hid (HT.out.low (Low.of_below hb HBw.out))
    replace HA : Hid (TrIs B3 _ u no2 nc2) := Lib.hid (HA.out.low (Low.of_below hb HBw.out))
    replace HC : Hid (TrIs B3 _ u no3 nc3) := Lib.hid (HC.out.low (Low.of_below hb HBw.out))
    replace HBw : Hid (B3 ≤ World.size9 _) := Lib.hid (Nat.le_trans HBw.out (hb).size)
    replace HF7 : Hid (Flds _ ao xs) := Lib.hid (HF7.out.below hb)
    replace hbf7 := hbf7.trans ((hb).mono hbf7.size)
    replace hbx11 := hbx11.kept hb
    replace hbx12 := hbx12.kept hb
    clear hb
    first | refine hK.out _ _ ⟨hbt7, hb57, hb7⟩ (fun _ => ?_) | (go_wp2_with fail; refine hK.out _ _ ⟨hbt7, hb57, hb7⟩ (fun _ => ?_))
    clear hK K
    (try simp only [Act.put, List.setIfInBounds_toArray, List.set_cons_zero, List.set_cons_succ])
    repeat (first | (refine seq_take (v := ?_) (by rfl) ?_ ?_; rotate_left; (· intro w hSw; (try dsimp only at hSw); obtain ⟨hLt, hL5, hL7⟩ := hSw; have e0 := hLt.cell 0 _ rfl; have q0 := hL5.cell 0 _ rfl; have r0 := hL7.cell 0 _ rfl; have e1 := hLt.cell 1 _ rfl; have q1 := hL5.cell 1 _ rfl; have r1 := hL7.cell 1 _ rfl; have e2 := hLt.cell 2 _ rfl; have q2 := hL5.cell 2 _ rfl; have r2 := hL7.cell 2 _ rfl; clear hLt hL5 hL7; go_simp; all_goals with_reducible rfl); (try simp only [Act.put, List.setIfInBounds_toArray, List.set_cons_zero, List.set_cons_succ])) | (refine seq_leave (by rfl) ?_; (try simp only [Act.put, List.setIfInBounds_toArray, List.set_cons_zero, List.set_cons_succ])))
    refine seq_step (by rfl) (fun K hK => ?_)
    go_simp
    go_at_call 21
    (with_reducible refine (tdepth_l t t.nodes.length t.ms t.nt no nc B3 z _ (Lib.hid ⟨rfl, rfl, rfl⟩) HT HBw HSZ HZT).mono ?_)
    rintro e w23 ⟨rfl, hb⟩
    replace hbt7 := hbt7.kept hb
    replace hb57 := hb57.kept hb
    replace hb7 := hb7.kept hb
    replace HT : Hid (TrIs B3 _ t no nc) := Lib.hid (HT.out.low (Low.of_below hb HBw.out))
    replace HA : Hid (TrIs B3 _ u no2 nc2) := Lib.hid (HA.out.low (Low.of_below hb HBw.out))
    replace HC : Hid (TrIs B3 _ u no3 nc3) := Lib.hid (HC.out.low (Low.of_below hb HBw.out))
    replace HBw : Hid (B3 ≤ World.size9 _) := Lib.hid (Nat.le_trans HBw.out (hb).size)
    replace HF7 : Hid (Flds _ ao xs) := Lib.hid (HF7.out.below hb)
    replace hbf7 := hbf7.trans ((hb).mono hbf7.size)
    replace hbx11 := hbx11.kept hb
    replace hbx12 := hbx12.kept hb
    clear hb
    first | refine hK.out _ _ ⟨hbt7, hb57, hb7⟩ (fun _ => ?_) | (go_wp2_with fail; refine hK.out _ _ ⟨hbt7, hb57, hb7⟩ (fun _ => ?_))
    clear hK K
    (try simp only [Act.put, List.setIfInBounds_toArray, List.set_cons_zero, List.set_cons_succ])
    repeat (first | (refine seq_take (v := ?_) (by rfl) ?_ ?_; rotate_left; (· intro w hSw; (try dsimp only at hSw); obtain ⟨hLt, hL5, hL7⟩ := hSw; have e0 := hLt.cell 0 _ rfl; have q0 := hL5.cell 0 _ rfl; have r0 := hL7.cell 0 _ rfl; have e1 := hLt.cell 1 _ rfl; have q1 := hL5.cell 1 _ rfl; have r1 := hL7.cell 1 _ rfl; have e2 := hLt.cell 2 _ rfl; have q2 := hL5.cell 2 _ rfl; have r2 := hL7.cell 2 _ rfl; clear hLt hL5 hL7; go_simp; all_goals with_reducible rfl); (try simp only [Act.put, List.setIfInBounds_toArray, List.set_cons_zero, List.set_cons_succ])) | (refine seq_leave (by rfl) ?_; (try simp only [Act.put, List.setIfInBounds_toArray, List.set_cons_zero, List.set_cons_succ])))
    refine seq_step (by rfl) (fun K hK => ?_)
    go_simp
    go_at_call 13
    (with_reducible refine (ways_l t t.nodes.length t.ms t.nt no nc B3 px11 n _ (Lib.hid ⟨rfl, rfl, rfl⟩) HT HBw HSZ (Lib.hid hbx11) HNT).mono ?_)
    rintro e w24 ⟨⟨xo, xc, rfl⟩, hb⟩
    replace hbt7 := hbt7.kept hb
    replace hb57 := hb57.kept hb
    replace hb7 := hb7.kept hb
    replace HT : Hid (TrIs B3 _ t no nc) := Lib.hid (HT.out.low (Low.of_below hb HBw.out))
    replace HA : Hid (TrIs B3 _ u no2 nc2) := Lib.hid (HA.out.low (Low.of_below hb HBw.out))
    replace HC : Hid (TrIs B3 _ u no3 nc3) := Lib.hid (HC.out.low (Low.of_below hb HBw.out))
    replace HBw : Hid (B3 ≤ World.size9 _) := Lib.hid (Nat.le_trans HBw.out (hb).size)
    replace HF7 : Hid (Flds _ ao xs) := Lib.hid (HF7.out.below hb)
    replace hbf7 := hbf7.trans ((hb).mono hbf7.size)
    replace hbx11 := hbx11.kept hb
    replace hbx12 := hbx12.kept hb
    clear hb
    first | refine hK.out _ _ ⟨hbt7, hb57, hb7⟩ (fun _ => ?_) | (go_wp2_with fail; refine hK.out _ _ ⟨hbt7, hb57, hb7⟩ (fun _ => ?_))
    clear hK K
    (try simp only [Act.put, List.setIfInBounds_toArray, List.set_cons_zero, List.set_cons_succ])
    repeat (first | (refine seq_take (v := ?_) (by rfl) ?_ ?_; rotate_left; (· intro w hSw; (try dsimp only at hSw); obtain ⟨hLt, hL5, hL7⟩ := hSw; have e0 := hLt.cell 0 _ rfl; have q0 := hL5.cell 0 _ rfl; have r0 := hL7.cell 0 _ rfl; have e1 := hLt.cell 1 _ rfl; have q1 := hL5.cell 1 _ rfl; have r1 := hL7.cell 1 _ rfl; have e2 := hLt.cell 2 _ rfl; have q2 := hL5.cell 2 _ rfl; have r2 := hL7.cell 2 _ rfl; clear hLt hL5 hL7; go_simp; all_goals with_reducible rfl); (try simp only [Act.put, List.setIfInBounds_toArray, List.set_cons_zero, List.set_cons_succ])) | (refine seq_leave (by rfl) ?_; (try simp only [Act.put, List.setIfInBounds_toArray, List.set_cons_zero, List.set_cons_succ])))
    refine seq_step (by rfl) (fun K hK => ?_)
    go_simp
    go_at_call 13
    (with_reducible refine (ways_l u t.nodes.length t.ms t.nt no2 nc2 B3 px12 n _ HU HA HBw HUZ (Lib.hid hbx12) HNU).mono ?_)
    rintro e w25 ⟨⟨yo, yc, rfl⟩, hb⟩
    replace hbt7 := hbt7.kept hb
    replace hb57 := hb57.kept hb
    replace hb7 := hb7.kept hb
    replace HT : Hid (TrIs B3 _ t no nc) := Lib.hid (HT.out.low (Low.of_below hb HBw.out))
    replace HA : Hid (TrIs B3 _ u no2 nc2) := Lib.hid (HA.out.low (Low.of_below hb HBw.out))
    replace HC : Hid (TrIs B3 _ u no3 nc3) := Lib.hid (HC.out.low (Low.of_below hb HBw.out))
    replace HBw : Hid (B3 ≤ World.size9 _) := Lib.hid (Nat.le_trans HBw.out (hb).size)
    replace HF7 : Hid (Flds _ ao xs) := Lib.hid (HF7.out.below hb)
    replace hbf7 := hbf7.trans ((hb).mono hbf7.size)
    replace hbx11 := hbx11.kept hb
    replace hbx12 := hbx12.kept hb
    clear hb
    first | refine hK.out _ _ ⟨hbt7, hb57, hb7⟩ (fun _ => ?_) | (go_wp2_with fail; refine hK.out _ _ ⟨hbt7, hb57, hb7⟩ (fun _ => ?_))
    clear hK K
    (try simp only [Act.put, List.setIfInBounds_toArray, List.set_cons_zero, List.set_cons_succ])
    repeat (first | (refine seq_take (v := ?_) (by rfl) ?_ ?_; rotate_left; (· intro w hSw; (try dsimp only at hSw); obtain ⟨hLt, hL5, hL7⟩ := hSw; have e0 := hLt.cell 0 _ rfl; have q0 := hL5.cell 0 _ rfl; have r0 := hL7.cell 0 _ rfl; have e1 := hLt.cell 1 _ rfl; have q1 := hL5.cell 1 _ rfl; have r1 := hL7.cell 1 _ rfl; have e2 := hLt.cell 2 _ rfl; have q2 := hL5.cell 2 _ rfl; have r2 := hL7.cell 2 _ rfl; clear hLt hL5 hL7; go_simp; all_goals with_reducible rfl); (try simp only [Act.put, List.setIfInBounds_toArray, List.set_cons_zero, List.set_cons_succ])) | (refine seq_leave (by rfl) ?_; (try simp only [Act.put, List.setIfInBounds_toArray, List.set_cons_zero, List.set_cons_succ])))
    refine seq_step (by rfl) (fun K hK => ?_)
    go_simp
    go_at_call 19
    (with_reducible refine (tvalid_l t t.nodes.length t.ms t.nt no nc B3 ao cap xs false _ (Lib.hid ⟨rfl, rfl, rfl⟩) HT HBw HSZ HF7 HXM HVB).mono ?_)
    rintro e w26 ⟨rfl, hb⟩
    replace hbt7 := hbt7.kept hb
    replace hb57 := hb57.kept hb
    replace hb7 := hb7.kept hb
    replace HT : Hid (TrIs B3 _ t no nc) := Lib.hid (HT.out.low (Low.of_below hb HBw.out))
    replace HA : Hid (TrIs B3 _ u no2 nc2) := Lib.hid (HA.out.low (Low.of_below hb HBw.out))
    replace HC : Hid (TrIs B3 _ u no3 nc3) := Lib.hid (HC.out.low (Low.of_below hb HBw.out))
    replace HBw : Hid (B3 ≤ World.size9 _) := Lib.hid (Nat.le_trans HBw.out (hb).size)
    replace HF7 : Hid (Flds _ ao xs) := Lib.hid (HF7.out.below hb)
    replace hbf7 := hbf7.trans ((hb).mono hbf7.size)
    replace hbx11 := hbx11.kept hb
    replace hbx12 := hbx12.kept hb
    clear hb
    first | refine hK.out _ _ ⟨hbt7, hb57, hb7⟩ (fun _ => ?_) | (go_wp2_with fail; refine hK.out _ _ ⟨hbt7, hb57, hb7⟩ (fun _ => ?_))
    clear hK K
    (try simp only [Act.put, List.setIfInBounds_toArray, List.set_cons_zero, List.set_cons_succ])
    repeat (first | (refine seq_take (v := ?_) (by rfl) ?_ ?_; rotate_left; (· intro w hSw; (try dsimp only at hSw); obtain ⟨hLt, hL5, hL7⟩ := hSw; have e0 := hLt.cell 0 _ rfl; have q0 := hL5.cell 0 _ rfl; have r0 := hL7.cell 0 _ rfl; have e1 := hLt.cell 1 _ rfl; have q1 := hL5.cell 1 _ rfl; have r1 := hL7.cell 1 _ rfl; have e2 := hLt.cell 2 _ rfl; have q2 := hL5.cell 2 _ rfl; have r2 := hL7.cell 2 _ rfl; clear hLt hL5 hL7; go_simp; all_goals with_reducible rfl); (try simp only [Act.put, List.setIfInBounds_toArray, List.set_cons_zero, List.set_cons_succ])) | (refine seq_leave (by rfl) ?_; (try simp only [Act.put, List.setIfInBounds_toArray, List.set_cons_zero, List.set_cons_succ])))
    refine seq_pass (by rfl) ⟨hbt7, hb57, hb7⟩ ?_
    repeat (first | (refine seq_take (v := ?_) (by rfl) ?_ ?_; rotate_left; (· intro w hSw; (try dsimp only at hSw); obtain ⟨hLt, hL5, hL7⟩ := hSw; have e0 := hLt.cell 0 _ rfl; have q0 := hL5.cell 0 _ rfl; have r0 := hL7.cell 0 _ rfl; have e1 := hLt.cell 1 _ rfl; have q1 := hL5.cell 1 _ rfl; have r1 := hL7.cell 1 _ rfl; have e2 := hLt.cell 2 _ rfl; have q2 := hL5.cell 2 _ rfl; have r2 := hL7.cell 2 _ rfl; clear hLt hL5 hL7; go_simp; all_goals with_reducible rfl); (try simp only [Act.put, List.setIfInBounds_toArray, List.set_cons_zero, List.set_cons_succ])) | (refine seq_leave (by rfl) ?_; (try simp only [Act.put, List.setIfInBounds_toArray, List.set_cons_zero, List.set_cons_succ])))
    refine seq_end ?_
    go_wp2_with fail
    go_ret
    exact ⟨ret_one rfl, hbf7⟩
  case true =>
    have HVU : Hid (true = validT (xs.map (·.f)) u) := Lib.hid (HUV.out HVB.out.symm).symm
    refine wp_region_seq (S := fun w' => BoxL w' pt [.slice no t.nodes.length nc, .int .i64 t.ms, .int .i64 t.nt] ∧ BoxL w' p5 [.slice no2 t.nodes.length nc2, .int .i64 t.ms, .int .i64 t.nt] ∧ BoxL w' p7 [.slice no3 t.nodes.length nc3, .int .i64 t.ms, .int .i64 t.nt]) [(true, 0), (true, 1), (true, 2), (true, 3), (false, 4), (true, 5), (true, 6), (true, 7), (true, 9), (false, 8), (false, 10), (true, 11), (true, 12), (true, 13), (true, 14), (true, 15), (true, 16), (true, 17), (true, 18), (true, 19), (true, 20), (true, 21), (true, 22), (true, 23), (true, 26), (false, 24), (true, 25), (false, 27), (true, 28), (true, 29), (true, 30), (true, 31), (true, 32), (true, 33), (false, 34), (true, 35), (true, 36), (true, 37), (true, 38), (false, 39), (true, 40), (true, 41), (true, 42)] (by kernel_rfl) (by kernel_rfl) (by kernel_rfl) (by kernel_rfl) (by kernel_rfl) (fun d _ _ _ _ h => by cases d <;> exact h) ⟨hbt7.drew, hb57.drew, hb7.drew⟩ (fun _ => ?_)
    simp only [pickOps, List.append_eq, List.cons_append, List.nil_append, List.getElem?_toArray, List.getElem?_cons_succ, List.getElem?_cons_zero]
    have hb : Below w12.heap.size w12 w12.drew := (Below.refl _ _).drew
    generalize w12.drew = wd at hb ⊢
    replace hbt7 := hbt7.kept hb
    replace hb57 := hb57.kept hb
    replace hb7 := hb7.kept hb
    replace HT : Hid (TrIs B3 _ t no nc) := Lib.hid (HT.out.low (Low.of_below hb HBw.out))
    replace HA : Hid (TrIs B3 _ u no2 nc2) := Lib.hid (HA.out.low (Low.of_below hb HBw.out))
    replace HC : Hid (TrIs B3 _ u no3 nc3) := Lib.hid (HC.out.low (Low.of_below hb HBw.out))
    replace HBw : Hid (B3 ≤ World.size9 _) := Lib.hid (Nat.le_trans HBw.out (hb).size)
    replace HF7 : Hid (Flds _ ao xs) := Lib.hid (HF7.out.below hb)
    replace hbf7 := hbf7.trans ((hb).mono hbf7.size)
    replace hbx11 := hbx11.kept hb
    replace hbx12 := hbx12.kept hb
    clear hb
    repeat (first | (refine seq_take (v := ?_) (by rfl) ?_ ?_; rotate_left; (· intro w hSw; (try dsimp only at hSw); obtain ⟨hLt, hL5, hL7⟩ := hSw; have e0 := hLt.cell 0 _ rfl; have q0 := hL5.cell 0 _ rfl; have r0 := hL7.cell 0 _ rfl; have e1 := hLt.cell 1 _ rfl; have q1 := hL5.cell 1 _ rfl; have r1 := hL7.cell 1 _ rfl; have e2 := hLt.cell 2 _ rfl; have q2 := hL5.cell 2 _ rfl; have r2 := hL7.cell 2 _ rfl; clear hLt hL5 hL7; go_simp; all_goals with_reducible rfl); (try simp only [Act.put, List.setIfInBounds_toArray, List.set_cons_zero, List.set_cons_succ])) | (refine seq_leave (by rfl) ?_; (try simp only [Act.put, List.setIfInBounds_toArray, List.set_cons_zero, List.set_cons_succ])))
    refine seq_step (by rfl) (fun K hK => ?_)
    go_simp
    go_at_call 20
    (with_reducible refine (tsame_l u t.nodes.length t.ms t.nt no2 nc2 B3 no3 nc3 _ HU HA HC HBw).mono ?_)
    rintro e w21 ⟨rfl, hb⟩
    replace hbt7 := hbt7.kept hb
    replace hb57 := hb57.kept hb
    replace hb7 := hb7.kept hb
    replace HT : Hid (TrIs B3 _ t no nc) := Lib.hid (HT.out.low (Low.of_below hb HBw.out))
    replace HA : Hid (TrIs B3 _ u no2 nc2) := Lib.hid (HA.out.low (Low.of_below hb HBw.out))
    replace HC : Hid (TrIs B3 _ u no3 nc3) := Lib.hid (HC.out.low (Low.of_below hb HBw.out))
    replace HBw : Hid (B3 ≤ World.size9 _) := Lib.hid (Nat.le_trans HBw.out (hb).size)
    replace HF7 : Hid (Flds _ ao xs) := Lib.hid (HF7.out.below hb)
    replace hbf7 := hbf7.trans ((hb).mono hbf7.size)
    replace hbx11 := hbx11.kept hb
    replace hbx12 := hbx12.kept hb
    clear hb
    first | refine hK.out _ _ ⟨hbt7, hb57, hb7⟩ (fun _ => ?_) | (go_wp2_with fail; refine hK.out _ _ ⟨hbt7, hb57, hb7⟩ (fun _ => ?_))
    clear hK K
    (try simp only [Act.put, List.setIfInBounds_toArray, List.set_cons_zero, List.set_cons_succ])
    repeat (first | (refine seq_take (v := ?_) (by rfl) ?_ ?_; rotate_left; (· intro w hSw; (try dsimp only at hSw); obtain ⟨hLt, hL5, hL7⟩ := hSw; have e0 := hLt.cell 0 _ rfl; have q0 := hL5.cell 0 _ rfl; have r0 := hL7.cell 0 _ rfl; have e1 := hLt.cell 1 _ rfl; have q1 := hL5.cell 1 _ rfl; have r1 := hL7.cell 1 _ rfl; have e2 := hLt.cell 2 _ rfl; have q2 := hL5.cell 2 _ rfl; have r2 := hL7.cell 2 _ rfl; clear hLt hL5 hL7; go_simp; all_goals with_reducible rfl); (try simp only [Act.put, List.setIfInBounds_toArray, List.set_cons_zero, List.set_cons_succ])) | (refine seq_leave (by rfl) ?_; (try simp only [Act.put, List.setIfInBounds_toArray, List.set_cons_zero, List.set_cons_succ])))
    refine seq_step (by rfl) (fun K hK => ?_)
    go_simp
    go_at_call 21
    (with_reducible refine (tdepth_l u t.nodes.length t.ms t.nt no2 nc2 B3 z _ HU HA HBw HUZ HZU).mono ?_)
    rintro e w22 ⟨rfl, hb⟩
    replace hbt7 := hbt7.kept hb
    replace hb57 := hb57.kept hb
    replace hb7 := hb7.kept hb
    replace HT : Hid (TrIs B3 _ t no nc) := Lib.hid (HT.out.low (Low.of_below hb HBw.out))
    replace HA : Hid (TrIs B3 _ u no2 nc2) := Lib.hid (HA.out.low (Low.of_below hb HBw.out))
    replace HC : Hid (TrIs B3 _ u no3 nc3) := Lib.hid (HC.out.low (Low.of_below hb HBw.out))
    replace HBw : Hid (B3 ≤ World.size9 _) := Lib.hid (Nat.le_trans HBw.out (hb).size)
    replace HF7 : Hid (Flds _ ao xs) := Lib.hid (HF7.out.below hb)
    replace hbf7 := hbf7.trans ((hb).mono hbf7.size)
    replace hbx11 := hbx11.kept hb
    replace hbx12 := hbx12.kept hb
    clear hb
    first | refine hK.out _ _ ⟨hbt7, hb57, hb7⟩ (fun _ => ?_) | (go_wp2_with fail; refine hK.out _ _ ⟨hbt7, hb57, hb7⟩ (fun _ => ?_))
    clear hK K
    (try simp only [Act.put, List.setIfInBounds_toArray, List.set_cons_zero, List.set_cons_succ])
    repeat (first | (refine seq_take (v := ?_) (by rfl) ?_ ?_; rotate_left; (· intro w hSw; (try dsimp only at hSw); obtain ⟨hLt, hL5, hL7⟩ := hSw; have e0 := hLt.cell 0 _ rfl; have q0 := hL5.cell 0 _ rfl; have r0 := hL7.cell 0 _ rfl; have e1 := hLt.cell 1 _ rfl; have q1 := hL5.cell 1 _ rfl; have r1 := hL7.cell 1 _ rfl; have e2 := hLt.cell 2 _ rfl; have q2 := hL5.cell 2 _ rfl; have r2 := hL7.cell 2 _ rfl; clear hLt hL5 hL7; go_simp; all_goals with_reducible rfl); (try simp only [Act.put, List.setIfInBounds_toArray, List.set_cons_zero, List.set_cons_succ])) | (refine seq_leave (by rfl) ?_; (try simp only [Act.put, List.setIfInBounds_toArray, List.set_cons_zero, List.set_cons_succ])))
    refine seq_step (by rfl) (fun K hK => ?_)
    go_simp
    go_at_call 21
    (with_reducible refine (tdepth_l t t.nodes.length t.ms t.nt no nc B3 z _ (Lib.hid ⟨rfl, rfl, rfl⟩) HT HBw HSZ HZT).mono ?_)
    rintro e w23 ⟨rfl, hb⟩
    replace hbt7 := hbt7.kept hb
    replace hb57 := hb57.kept hb
    replace hb7 := hb7.kept hb
    replace HT : Hid (TrIs B3 _ t no nc) := Lib.hid (HT.out.low (Low.of_below hb HBw.out))
    replace HA : Hid (TrIs B3 _ u no2 nc2) := Lib.hid (HA.out.low (Low.of_below hb HBw.out))
    replace HC : Hid (TrIs B3 _ u no3 nc3) := Lib.hid (HC.out.low (Low.of_below hb HBw.out))
    replace HBw : Hid (B3 ≤ World.size9 _) := Lib.hid (Nat.le_trans HBw.out (hb).size)
    replace HF7 : Hid (Flds _ ao xs) := Lib.hid (HF7.out.below hb)
    replace hbf7 := hbf7.trans ((hb).mono hbf7.size)
    replace hbx11 := hbx11.kept hb
    replace hbx12 := hbx12.kept hb
    clear hb
    first | refine hK.out _ _ ⟨hbt7, hb57, hb7⟩ (fun _ => ?_) | (go_wp2_with fail; refine hK.out _ _ ⟨hbt7, hb57, hb7⟩ (fun _ => ?_))
    clear hK K
    (try simp only [Act.put, List.setIfInBounds_toArray, List.set_cons_zero, List.set_cons_succ])
    repeat (first | (refine seq_take (v := ?_) (by rfl) ?_ ?_; rotate_left; (· intro w hSw; (try dsimp only at hSw); obtain ⟨hLt, hL5, hL7⟩ := hSw; have e0 := hLt.cell 0 _ rfl; have q0 := hL5.cell 0 _ rfl; have r0 := hL7.cell 0 _ rfl; have e1 := hLt.cell 1 _ rfl; have q1 := hL5.cell 1 _ rfl; have r1 := hL7.cell 1 _ rfl; have e2 := hLt.cell 2 _ rfl; have q2 := hL5.cell 2 _ rfl; have r2 := hL7.cell 2 _ rfl; clear hLt hL5 hL7; go_simp; all_goals with_reducible rfl); (try simp only [Act.put, List.setIfInBounds_toArray, List.set_cons_zero, List.set_cons_succ])) | (refine seq_leave (by rfl) ?_; (try simp only [Act.put, List.setIfInBounds_toArray, List.set_cons_zero, List.set_cons_succ])))
    refine seq_step (by rfl) (fun K hK => ?_)
    go_simp
    go_at_call 13
    (with_reducible refine (ways_l t t.nodes.length t.ms t.nt no nc B3 px11 n _ (Lib.hid ⟨rfl, rfl, rfl⟩) HT HBw HSZ (Lib.hid hbx11) HNT).mono ?_)
    rintro e w24 ⟨⟨xo, xc, rfl⟩, hb⟩
    replace hbt7 := hbt7.kept hb
    replace hb57 := hb57.kept hb
    replace hb7 := hb7.kept hb
    replace HT : Hid (TrIs B3 _ t no nc) := Lib.hid (HT.out.low (Low.of_below hb HBw.out))
    replace HA : Hid (TrIs B3 _ u no2 nc2) := Lib.hid (HA.out.low (Low.of_below hb HBw.out))
    replace HC : Hid (TrIs B3 _ u no3 nc3) := Lib.hid (HC.out.low (Low.of_below hb HBw.out))
    replace HBw : Hid (B3 ≤ World.size9 _) := Lib.hid (Nat.le_trans HBw.out (hb).size)
    replace HF7 : Hid (Flds _ ao xs) := Lib.hid (HF7.out.below hb)
    replace hbf7 := hbf7.trans ((hb).mono hbf7.size)
    replace hbx11 := hbx11.kept hb
    replace hbx12 := hbx12.kept hb
    clear hb
    first | refine hK.out _ _ ⟨hbt7, hb57, hb7⟩ (fun _ => ?_) | (go_wp2_with fail; refine hK.out _ _ ⟨hbt7, hb57, hb7⟩ (fun _ => ?_))
    clear hK K
    (try simp only [Act.put, List.setIfInBounds_toArray, List.set_cons_zero, List.set_cons_succ])
    repeat (first | (refine seq_take (v := ?_) (by rfl) ?_ ?_; rotate_left; (· intro w hSw; (try dsimp only at hSw); obtain ⟨hLt, hL5, hL7⟩ := hSw; have e0 := hLt.cell 0 _ rfl; have q0 := hL5.cell 0 _ rfl; have r0 := hL7.cell 0 _ rfl; have e1 := hLt.cell 1 _ rfl; have q1 := hL5.cell 1 _ rfl; have r1 := hL7.cell 1 _ rfl; have e2 := hLt.cell 2 _ rfl; have q2 := hL5.cell 2 _ rfl; have r2 := hL7.cell 2 _ rfl; clear hLt hL5 hL7; go_simp; all_goals with_reducible rfl); (try simp only [Act.put, List.setIfInBounds_toArray, List.set_cons_zero, List.set_cons_succ])) | (refine seq_leave (by rfl) ?_; (try simp only [Act.put, List.setIfInBounds_toArray, List.set_cons_zero, List.set_cons_succ])))
    refine seq_step (by rfl) (fun K hK => ?_)
    go_simp
    go_at_call 13
    (with_reducible refine (ways_l u t.nodes.length t.ms t.nt no2 nc2 B3 px12 n _ HU HA HBw HUZ (Lib.hid hbx12) HNU).mono ?_)
    rintro e w25 ⟨⟨yo, yc, rfl⟩, hb⟩
    replace hbt7 := hbt7.kept hb
    replace hb57 := hb57.kept hb
    replace hb7 := hb7.kept hb
    replace HT : Hid (TrIs B3 _ t no nc) := Lib.hid (HT.out.low (Low.of_below hb HBw.out))
    replace HA : Hid (TrIs B3 _ u no2 nc2) := Lib.hid (HA.out.low (Low.of_below hb HBw.out))
    replace HC : Hid (TrIs B3 _ u no3 nc3) := Lib.hid (HC.out.low (Low.of_below hb HBw.out))
    replace HBw : Hid (B3 ≤ World.size9 _) := Lib.hid (Nat.le_trans HBw.out (hb).size)
    replace HF7 : Hid (Flds _ ao xs) := Lib.hid (HF7.out.below hb)
    replace hbf7 := hbf7.trans ((hb).mono hbf7.size)
    replace hbx11 := hbx11.kept hb
    replace hbx12 := hbx12.kept hb
    clear hb
    first | refine hK.out _ _ ⟨hbt7, hb57, hb7⟩ (fun _ => ?_) | (go_wp2_with fail; refine hK.out _ _ ⟨hbt7, hb57, hb7⟩ (fun _ => ?_))
    clear hK K
    (try simp only [Act.put, List.setIfInBounds_toArray, List.set_cons_zero, List.set_cons_succ])
    repeat (first | (refine seq_take (v := ?_) (by rfl) ?_ ?_; rotate_left; (· intro w hSw; (try dsimp only at hSw); obtain ⟨hLt, hL5, hL7⟩ := hSw; have e0 := hLt.cell 0 _ rfl; have q0 := hL5.cell 0 _ rfl; have r0 := hL7.cell 0 _ rfl; have e1 := hLt.cell 1 _ rfl; have q1 := hL5.cell 1 _ rfl; have r1 := hL7.cell 1 _ rfl; have e2 := hLt.cell 2 _ rfl; have q2 := hL5.cell 2 _ rfl; have r2 := hL7.cell 2 _ rfl; clear hLt hL5 hL7; go_simp; all_goals with_reducible rfl); (try simp only [Act.put, List.setIfInBounds_toArray, List.set_cons_zero, List.set_cons_succ])) | (refine seq_leave (by rfl) ?_; (try simp only [Act.put, List.setIfInBounds_toArray, List.set_cons_zero, List.set_cons_succ])))
    refine seq_step (by rfl) (fun K hK => ?_)
    go_simp
    go_at_call 19
    (with_reducible refine (tvalid_l t t.nodes.length t.ms t.nt no nc B3 ao cap xs true _ (Lib.hid ⟨rfl, rfl, rfl⟩) HT HBw HSZ HF7 HXM HVB).mono ?_)
    rintro e w26 ⟨rfl, hb⟩
    replace hbt7 := hbt7.kept hb
    replace hb57 := hb57.kept hb
    replace hb7 := hb7.kept hb
    replace HT : Hid (TrIs B3 _ t no nc) := Lib.hid (HT.out.low (Low.of_below hb HBw.out))
    replace HA : Hid (TrIs B3 _ u no2 nc2) := Lib.hid (HA.out.low (Low.of_below hb HBw.out))
    replace HC : Hid (TrIs B3 _ u no3 nc3) := Lib.hid (HC.out.low (Low.of_below hb HBw.out))
    replace HBw : Hid (B3 ≤ World.size9 _) := Lib.hid (Nat.le_trans HBw.out (hb).size)
    replace HF7 : Hid (Flds _ ao xs) := Lib.hid (HF7.out.below hb)
    replace hbf7 := hbf7.trans ((hb).mono hbf7.size)
    replace hbx11 := hbx11.kept hb
    replace hbx12 := hbx12.kept hb
    clear hb
    first | refine hK.out _ _ ⟨hbt7, hb57, hb7⟩ (fun _ => ?_) | (go_wp2_with fail; refine hK.out _ _ ⟨hbt7, hb57, hb7⟩ (fun _ => ?_))
    clear hK K
    (try simp only [Act.put, List.setIfInBounds_toArray, List.set_cons_zero, List.set_cons_succ])
    repeat (first | (refine seq_take (v := ?_) (by rfl) ?_ ?_; rotate_left; (· intro w hSw; (try dsimp only at hSw); obtain ⟨hLt, hL5, hL7⟩ := hSw; have e0 := hLt.cell 0 _ rfl; have q0 := hL5.cell 0 _ rfl; have r0 := hL7.cell 0 _ rfl; have e1 := hLt.cell 1 _ rfl; have q1 := hL5.cell 1 _ rfl; have r1 := hL7.cell 1 _ rfl; have e2 := hLt.cell 2 _ rfl; have q2 := hL5.cell 2 _ rfl; have r2 := hL7.cell 2 _ rfl; clear hLt hL5 hL7; go_simp; all_goals with_reducible rfl); (try simp only [Act.put, List.setIfInBounds_toArray, List.set_cons_zero, List.set_cons_succ])) | (refine seq_leave (by rfl) ?_; (try simp only [Act.put, List.setIfInBounds_toArray, List.set_cons_zero, List.set_cons_succ])))
    refine seq_step (by rfl) (fun K hK => ?_)
    go_simp
    go_at_call 19
    (with_reducible refine (tvalid_l u t.nodes.length t.ms t.nt no2 nc2 B3 ao cap xs true _ HU HA HBw HUZ HF7 HXM HVU).mono ?_)
    rintro e w27 ⟨rfl, hb⟩
    replace hbt7 := hbt7.kept hb
    replace hb57 := hb57.kept hb
    replace hb7 := hb7.kept hb
    replace HT : Hid (TrIs B3 _ t no nc) := Lib.hid (HT.out.low (Low.of_below hb HBw.out))
    replace HA : Hid (TrIs B3 _ u no2 nc2) := Lib.hid (HA.out.low (Low.of_below hb HBw.out))
    replace HC : Hid (TrIs B3 _ u no3 nc3) := Lib.hid (HC.out.low (Low.of_below hb HBw.out))
    replace HBw : Hid (B3 ≤ World.size9 _) := Lib.hid (Nat.le_trans HBw.out (hb).size)
    replace HF7 : Hid (Flds _ ao xs) := Lib.hid (HF7.out.below hb)
    replace hbf7 := hbf7.trans ((hb).mono hbf7.size)
    replace hbx11 := hbx11.kept hb
    replace hbx12 := hbx12.kept hb
    clear hb
    first | refine hK.out _ _ ⟨hbt7, hb57, hb7⟩ (fun _ => ?_) | (go_wp2_with fail; refine hK.out _ _ ⟨hbt7, hb57, hb7⟩ (fun _ => ?_))
    clear hK K
    (try simp only [Act.put, List.setIfInBounds_toArray, List.set_cons_zero, List.set_cons_succ])
    repeat (first | (refine seq_take (v := ?_) (by rfl) ?_ ?_; rotate_left; (· intro w hSw; (try dsimp only at hSw); obtain ⟨hLt, hL5, hL7⟩ := hSw; have e0 := hLt.cell 0 _ rfl; have q0 := hL5.cell 0 _ rfl; have r0 := hL7.cell 0 _ rfl; have e1 := hLt.cell 1 _ rfl; have q1 := hL5.cell 1 _ rfl; have r1 := hL7.cell 1 _ rfl; have e2 := hLt.cell 2 _ rfl; have q2 := hL5.cell 2 _ rfl; have r2 := hL7.cell 2 _ rfl; clear hLt hL5 hL7; go_simp; all_goals with_reducible rfl); (try simp only [Act.put, List.setIfInBounds_toArray, List.set_cons_zero, List.set_cons_succ])) | (refine seq_leave (by rfl) ?_; (try simp only [Act.put, List.setIfInBounds_toArray, List.set_cons_zero, List.set_cons_succ])))
    refine seq_end ?_
    go_wp2_with fail
    go_ret
    exact ⟨ret_one rfl, hbf7⟩
theorem treeOrders_walk (v u : Value) (w : World) (h : TreeIn w v) (hs : FldsIn w u) :
    Calls Tryz.prog 4 #[v, u] w fun e w' => e = .returned (.bool true) ∧ Below w.heap.size w w' := by
  obtain ⟨t, no, nc, rfl, hT⟩ := h
  obtain ⟨ao, cap, xs, rfl, hF, h1, h2, h3⟩ := hs
  unfold maxLen at h2
  exact treeOrders_main t no nc ao cap xs w hT hF (by omega) h3
end Go.Proofs.YtlmjkbdodecbmaaGreatDoor
