/-
  onnx: Check.
-/
import Derived.Test.YtieffhkfefimeaaGreatOnxJ
namespace Go.Proofs.YtieffhkfefimeaaGreat
open Go.RowKit
set_option linter.unusedVariables false
set_option linter.unusedSimpArgs false

theorem named_cases (e : EE) : (e.agg ∉ aggW ∧ namedE e = wordE 2) ∨ (e.agg ∈ aggW ∧ e.post ∉ postW ∧ namedE e = wordE 3) ∨ (e.agg ∈ aggW ∧ e.post ∈ postW ∧ namedE e = []) := by
  unfold namedE
  by_cases h : e.agg ∈ aggW
  · by_cases h2 : e.post ∈ postW
    · exact .inr (.inr ⟨h, h2, by rw [if_neg (by simp [h]), if_neg (by simp [h2])]⟩)
    · exact .inr (.inl ⟨h, h2, by rw [if_neg (by simp [h]), if_pos h2]⟩)
  · exact .inl ⟨h, by rw [if_pos h]⟩
set_option maxRecDepth 100000 in
set_option maxHeartbeats 8000000 in
/-- Check. -/
theorem check_any (v : Value) (e : EE) (bo : Option Addr) (bc : Nat) (no : Option Addr) (nc : Nat) (lo : Option Addr) (lc : Nat) (w : World) (h : EnsIs w v e bo bc no nc lo lc) (hlim : e.nodes.length ≤ 100000) (c : Nat) (hc : Hid (checkE e = c)) :
    Calls Tryz.prog 7 #[v] w fun e w' => e = .returned (.tuple #[.string ⟨(wordE c).toArray⟩, .bool (decide (c = 0))]) ∧ Below w.heap.size w w' := by
  obtain ⟨rfl, h1, h2, h4, h5, h3, h6, h7, h8, h9⟩ := h
  have hcc := hc.out
  unfold checkE at hcc
  obtain ⟨b1, hb1⟩ : ∃ b, sizeE e = b := ⟨_, rfl⟩
  rw [hb1] at hcc
  have Hb1 := Lib.hid hb1
  clear hb1
  obtain ⟨b4, hb4⟩ : ∃ b, baseE e = b := ⟨_, rfl⟩
  rw [hb4] at hcc
  have Hb4 := Lib.hid hb4
  clear hb4
  obtain ⟨b5, hb5⟩ : ∃ b, numsE e.nodes = b := ⟨_, rfl⟩
  rw [hb5] at hcc
  have Hb5 := Lib.hid hb5
  clear hb5
  obtain ⟨b6, hb6⟩ : ∃ b, everyE e.nodes true (fun n => decide (1 ≤ n.mode ∧ n.mode ≤ 7)) = b := ⟨_, rfl⟩
  rw [hb6] at hcc
  have Hb6 := Lib.hid hb6
  clear hb6
  obtain ⟨b7, hb7⟩ : ∃ b, everyE e.nodes false (fun n => decide (0 ≤ n.feat ∧ n.feat < e.feats)) = b := ⟨_, rfl⟩
  rw [hb7] at hcc
  have Hb7 := Lib.hid hb7
  clear hb7
  obtain ⟨b8, hb8⟩ : ∃ b, everyE e.nodes false (fun n => finP n.val) = b := ⟨_, rfl⟩
  rw [hb8] at hcc
  have Hb8 := Lib.hid hb8
  clear hb8
  obtain ⟨b9, hb9⟩ : ∃ b, everyE e.nodes true (fun n => decide (n.val < 4294967296)) = b := ⟨_, rfl⟩
  rw [hb9] at hcc
  have Hb9 := Lib.hid hb9
  clear hb9
  obtain ⟨k0, hk0⟩ : ∃ b, kidE e.nodes = b := ⟨_, rfl⟩
  rw [hk0] at hcc
  have Hk0 := Lib.hid hk0
  clear hk0
  obtain ⟨k1, hk1⟩ : ∃ b, forestE e.nodes = b := ⟨_, rfl⟩
  rw [hk1] at hcc
  have Hk1 := Lib.hid hk1
  clear hk1
  obtain ⟨k2, hk2⟩ : ∃ b, leafE e = b := ⟨_, rfl⟩
  rw [hk2] at hcc
  have Hk2 := Lib.hid hk2
  clear hk2
  obtain ⟨k3, hk3⟩ : ∃ b, e.leaves.any (fun l => !finP l.wt) = b := ⟨_, rfl⟩
  rw [hk3] at hcc
  have Hk3 := Lib.hid hk3
  clear hk3
  obtain ⟨w0, hw0⟩ : ∃ w0, w0 = (w.alloc (.cells #[.int .i64 e.feats, .int .i64 e.tgts, .string ⟨e.agg.toArray⟩, .string ⟨e.post.toArray⟩, .slice bo e.base.length bc, .slice no e.nodes.length nc, .slice lo e.leaves.length lc] 26)) := ⟨_, rfl⟩
  have hbf : Below w.heap.size w w0 := by rw [hw0]; exact ((Below.refl _ w).alloc (Nat.le_refl _) _)
  obtain ⟨pe, hpe⟩ : ∃ p, p = w.heap.size := ⟨_, rfl⟩
  have hbe : BoxL w0 pe [.int .i64 e.feats, .int .i64 e.tgts, .string ⟨e.agg.toArray⟩, .string ⟨e.post.toArray⟩, .slice bo e.base.length bc, .slice no e.nodes.length nc, .slice lo e.leaves.length lc] := by rw [hw0, hpe]; exact BoxL.of7 (by go_simp) (by go_simp) (by go_simp) (by go_simp) (by go_simp) (by go_simp) (by go_simp) (by go_simp) (by go_simp) (by go_simp) (by go_simp) (by go_simp) (by go_simp) (by go_simp)
  have HP : Hid (w.heap.size ≤ pe) := Lib.hid (by omega)
  have HW := Lib.hid hw0; clear hw0
  go_enter Tryz.func7, Tryz.ntmps7
  go_upto_region 1 with fail
  rw [← HW.out, ← hpe]
  clear hpe HW
  have hE : EnsIs w0 (ensV e bo bc no nc lo lc) e bo bc no nc lo lc := EnsIs.below ⟨rfl, h1, h2, h4, h5, h3, h6, h7, h8, h9⟩ hbf
  have ee0 := hbe.cell 0 _ rfl
  have ee1 := hbe.cell 1 _ rfl
  have ee2 := hbe.cell 2 _ rfl
  have ee3 := hbe.cell 3 _ rfl
  have ee4 := hbe.cell 4 _ rfl
  have ee5 := hbe.cell 5 _ rfl
  have ee6 := hbe.cell 6 _ rfl
  have hcall := size_any _ e _ _ _ _ _ _ w0 hE _ Hb1
  cases b1 with
  | false =>
    have hc3 : c = 1 := by rw [← hcc]; first | rfl | simp
    subst hc3
    go_wp2_with (go_at_call 27; refine hcall.mono ?_; rintro e9 v1 ⟨rfl, hb⟩)
    replace hbf := hbf.trans (hb.mono hbf.size)
    exact bodyPost_ret (v := .tuple #[.string ⟨(wordE 1).toArray⟩, .bool (decide ((1 : Nat) = 0))]) (by simp [results, Tryz.results7, go_sem, wordE]) rfl ⟨rfl, hbf⟩
  | true =>
    go_upto_region 3 with (go_at_call 27; refine hcall.mono ?_; rintro e9 v1 ⟨rfl, hb⟩)
    replace hbf := hbf.trans (hb.mono hbf.size)
    replace hE := hE.below hb
    replace hbe := hbe.kept hb
    clear hb hcall ee0 ee1 ee2 ee3 ee4 ee5 ee6
    have ee0 := hbe.cell 0 _ rfl
    have ee1 := hbe.cell 1 _ rfl
    have ee2 := hbe.cell 2 _ rfl
    have ee3 := hbe.cell 3 _ rfl
    have ee4 := hbe.cell 4 _ rfl
    have ee5 := hbe.cell 5 _ rfl
    have ee6 := hbe.cell 6 _ rfl
    rcases named_cases e with ⟨q1, q2⟩ | ⟨q1, q3, q2⟩ | ⟨q1, q3, q2⟩
    · have hcall := named_any _ e _ _ _ _ _ _ v1 hE _ (Lib.hid q2)
      have hc3 : c = 2 := by rw [← hcc]; simp [q1]
      subst hc3
      clear q1 q2
      unfold wordE at hcall
      go_wp2_with (go_at_call 28; refine hcall.mono ?_; rintro e9 v2 ⟨rfl, hb⟩)
      replace hbf := hbf.trans (hb.mono hbf.size)
      exact bodyPost_ret (v := .tuple #[.string ⟨(wordE 2).toArray⟩, .bool (decide ((2 : Nat) = 0))]) (by simp [results, Tryz.results7, go_sem, wordE]) rfl ⟨rfl, hbf⟩
    · have hcall := named_any _ e _ _ _ _ _ _ v1 hE _ (Lib.hid q2)
      have hc3 : c = 3 := by rw [← hcc]; simp [q1, q3]
      subst hc3
      clear q1 q2 q3
      unfold wordE at hcall
      go_wp2_with (go_at_call 28; refine hcall.mono ?_; rintro e9 v3 ⟨rfl, hb⟩)
      replace hbf := hbf.trans (hb.mono hbf.size)
      exact bodyPost_ret (v := .tuple #[.string ⟨(wordE 3).toArray⟩, .bool (decide ((3 : Nat) = 0))]) (by simp [results, Tryz.results7, go_sem, wordE]) rfl ⟨rfl, hbf⟩
    · have hcall := named_any _ e _ _ _ _ _ _ v1 hE _ (Lib.hid q2)
      rw [if_neg (show ¬ (e.agg ∉ aggW) from fun h => h q1), if_neg (show ¬ (e.post ∉ postW) from fun h => h q3)] at hcc
      clear q1 q2 q3
      go_upto_region 6 with (go_at_call 28; refine hcall.mono ?_; rintro e9 v4 ⟨rfl, hb⟩)
      replace hbf := hbf.trans (hb.mono hbf.size)
      replace hE := hE.below hb
      replace hbe := hbe.kept hb
      clear hb hcall ee0 ee1 ee2 ee3 ee4 ee5 ee6
      have ee0 := hbe.cell 0 _ rfl
      have ee1 := hbe.cell 1 _ rfl
      have ee2 := hbe.cell 2 _ rfl
      have ee3 := hbe.cell 3 _ rfl
      have ee4 := hbe.cell 4 _ rfl
      have ee5 := hbe.cell 5 _ rfl
      have ee6 := hbe.cell 6 _ rfl
      have hcall := base_any _ e _ _ _ _ _ _ v4 hE _ Hb4
      cases b4 with
      | false =>
        have hc3 : c = 4 := by rw [← hcc]; first | rfl | simp
        subst hc3
        go_wp2_with (go_at_call 29; refine hcall.mono ?_; rintro e9 v5 ⟨rfl, hb⟩)
        replace hbf := hbf.trans (hb.mono hbf.size)
        exact bodyPost_ret (v := .tuple #[.string ⟨(wordE 4).toArray⟩, .bool (decide ((4 : Nat) = 0))]) (by simp [results, Tryz.results7, go_sem, wordE]) rfl ⟨rfl, hbf⟩
      | true =>
        go_upto_region 8 with (go_at_call 29; refine hcall.mono ?_; rintro e9 v5 ⟨rfl, hb⟩)
        replace hbf := hbf.trans (hb.mono hbf.size)
        replace hE := hE.below hb
        replace hbe := hbe.kept hb
        clear hb hcall ee0 ee1 ee2 ee3 ee4 ee5 ee6
        have ee0 := hbe.cell 0 _ rfl
        have ee1 := hbe.cell 1 _ rfl
        have ee2 := hbe.cell 2 _ rfl
        have ee3 := hbe.cell 3 _ rfl
        have ee4 := hbe.cell 4 _ rfl
        have ee5 := hbe.cell 5 _ rfl
        have ee6 := hbe.cell 6 _ rfl
        have hcall := numbers_any _ e _ _ _ _ _ _ v5 hE _ Hb5
        cases b5 with
        | false =>
          have hc3 : c = 5 := by rw [← hcc]; first | rfl | simp
          subst hc3
          go_wp2_with (go_at_call 30; refine hcall.mono ?_; rintro e9 v6 ⟨rfl, hb⟩)
          replace hbf := hbf.trans (hb.mono hbf.size)
          exact bodyPost_ret (v := .tuple #[.string ⟨(wordE 5).toArray⟩, .bool (decide ((5 : Nat) = 0))]) (by simp [results, Tryz.results7, go_sem, wordE]) rfl ⟨rfl, hbf⟩
        | true =>
          go_upto_region 10 with (go_at_call 30; refine hcall.mono ?_; rintro e9 v6 ⟨rfl, hb⟩)
          replace hbf := hbf.trans (hb.mono hbf.size)
          replace hE := hE.below hb
          replace hbe := hbe.kept hb
          clear hb hcall ee0 ee1 ee2 ee3 ee4 ee5 ee6
          have ee0 := hbe.cell 0 _ rfl
          have ee1 := hbe.cell 1 _ rfl
          have ee2 := hbe.cell 2 _ rfl
          have ee3 := hbe.cell 3 _ rfl
          have ee4 := hbe.cell 4 _ rfl
          have ee5 := hbe.cell 5 _ rfl
          have ee6 := hbe.cell 6 _ rfl
          have hcall := every_any _ e _ _ _ _ _ _ true _ 32 #[] enter_check1 v6 hE _ (fun W x hx hb => check1_any x W _ rfl) Hb6
          cases b6 with
          | false =>
            have hc3 : c = 6 := by rw [← hcc]; first | rfl | simp
            subst hc3
            go_wp2_with (go_at_call 31; refine hcall.mono ?_; rintro e9 v7 ⟨rfl, hb⟩)
            replace hbf := hbf.trans (hb.mono hbf.size)
            exact bodyPost_ret (v := .tuple #[.string ⟨(wordE 6).toArray⟩, .bool (decide ((6 : Nat) = 0))]) (by simp [results, Tryz.results7, go_sem, wordE]) rfl ⟨rfl, hbf⟩
          | true =>
            go_upto_region 12 with (go_at_call 31; refine hcall.mono ?_; rintro e9 v7 ⟨rfl, hb⟩)
            replace hbf := hbf.trans (hb.mono hbf.size)
            replace hE := hE.below hb
            replace hbe := hbe.kept hb
            clear hb hcall ee0 ee1 ee2 ee3 ee4 ee5 ee6
            have ee0 := hbe.cell 0 _ rfl
            have ee1 := hbe.cell 1 _ rfl
            have ee2 := hbe.cell 2 _ rfl
            have ee3 := hbe.cell 3 _ rfl
            have ee4 := hbe.cell 4 _ rfl
            have ee5 := hbe.cell 5 _ rfl
            have ee6 := hbe.cell 6 _ rfl
            have hcall := every_any _ e _ _ _ _ _ _ false _ 33 #[.pointer (some ⟨pe, 0, none⟩)] enter_check2 v7 hE _ (fun W x hx hb => check2_any x e.feats pe W ((hbe.kept hb).cell 0 _ rfl)) Hb7
            cases b7 with
            | false =>
              have hc3 : c = 7 := by rw [← hcc]; first | rfl | simp
              subst hc3
              go_wp2_with (go_at_call 31; refine hcall.mono ?_; rintro e9 v8 ⟨rfl, hb⟩)
              replace hbf := hbf.trans (hb.mono hbf.size)
              exact bodyPost_ret (v := .tuple #[.string ⟨(wordE 7).toArray⟩, .bool (decide ((7 : Nat) = 0))]) (by simp [results, Tryz.results7, go_sem, wordE]) rfl ⟨rfl, hbf⟩
            | true =>
              go_upto_region 14 with (go_at_call 31; refine hcall.mono ?_; rintro e9 v8 ⟨rfl, hb⟩)
              replace hbf := hbf.trans (hb.mono hbf.size)
              replace hE := hE.below hb
              replace hbe := hbe.kept hb
              clear hb hcall ee0 ee1 ee2 ee3 ee4 ee5 ee6
              have ee0 := hbe.cell 0 _ rfl
              have ee1 := hbe.cell 1 _ rfl
              have ee2 := hbe.cell 2 _ rfl
              have ee3 := hbe.cell 3 _ rfl
              have ee4 := hbe.cell 4 _ rfl
              have ee5 := hbe.cell 5 _ rfl
              have ee6 := hbe.cell 6 _ rfl
              have hcall := every_any _ e _ _ _ _ _ _ false _ 34 #[] enter_check3 v8 hE _ (fun W x hx hb => check3_any x W _ (hE.nv x hx).v rfl) Hb8
              cases b8 with
              | false =>
                have hc3 : c = 8 := by rw [← hcc]; simp
                subst hc3
                go_wp2_with (go_at_call 31; refine hcall.mono ?_; rintro e9 v9 ⟨rfl, hb⟩)
                replace hbf := hbf.trans (hb.mono hbf.size)
                exact bodyPost_ret (v := .tuple #[.string ⟨(wordE 8).toArray⟩, .bool (decide ((8 : Nat) = 0))]) (by simp [results, Tryz.results7, go_sem, wordE]) rfl ⟨rfl, hbf⟩
              | true =>
                have hcall2 := fun W (hW : Below v8.heap.size v8 W) => every_any _ e _ _ _ _ _ _ true _ 36 #[] enter_check4 W (hE.below hW) _ (fun W x hx hb => check4_any x W _ (hE.nv x hx).v rfl) Hb9
                cases b9 with
                | false =>
                  have hc3 : c = 8 := by rw [← hcc]; simp
                  subst hc3
                  go_wp2_with (first | (go_at_call 31; refine hcall.mono ?_; rintro e9 v9 ⟨rfl, hb⟩; replace hcall := hcall2 _ hb; replace hbe := hbe.kept hb; clear ee0 ee1 ee2 ee3 ee4 ee5 ee6; have ee0 := hbe.cell 0 _ rfl; have ee1 := hbe.cell 1 _ rfl; have ee2 := hbe.cell 2 _ rfl; have ee3 := hbe.cell 3 _ rfl; have ee4 := hbe.cell 4 _ rfl; have ee5 := hbe.cell 5 _ rfl; have ee6 := hbe.cell 6 _ rfl) | (go_at_call 31; refine (hcall2 _ hb).mono ?_; rintro e9 v10 ⟨rfl, hb2⟩))
                  replace hbf := hbf.trans ((hb.trans (hb2.mono hb.size)).mono hbf.size)
                  exact bodyPost_ret (v := .tuple #[.string ⟨(wordE 8).toArray⟩, .bool (decide ((8 : Nat) = 0))]) (by simp [results, Tryz.results7, go_sem, wordE]) rfl ⟨rfl, hbf⟩
                | true =>
                  go_upto_region 16 with (first | (go_at_call 31; refine hcall.mono ?_; rintro e9 v9 ⟨rfl, hb⟩; replace hcall := hcall2 _ hb; replace hbe := hbe.kept hb; clear ee0 ee1 ee2 ee3 ee4 ee5 ee6; have ee0 := hbe.cell 0 _ rfl; have ee1 := hbe.cell 1 _ rfl; have ee2 := hbe.cell 2 _ rfl; have ee3 := hbe.cell 3 _ rfl; have ee4 := hbe.cell 4 _ rfl; have ee5 := hbe.cell 5 _ rfl; have ee6 := hbe.cell 6 _ rfl) | (go_at_call 31; refine (hcall2 _ hb).mono ?_; rintro e9 v10 ⟨rfl, hb2⟩))
                  have hb3 := hb.trans (hb2.mono hb.size)
                  replace hbf := hbf.trans (hb3.mono hbf.size)
                  replace hE := hE.below hb3
                  replace hbe := hbe.kept hb2
                  clear hb hb2 hb3 hcall hcall2 ee0 ee1 ee2 ee3 ee4 ee5 ee6
                  have ee0 := hbe.cell 0 _ rfl
                  have ee1 := hbe.cell 1 _ rfl
                  have ee2 := hbe.cell 2 _ rfl
                  have ee3 := hbe.cell 3 _ rfl
                  have ee4 := hbe.cell 4 _ rfl
                  have ee5 := hbe.cell 5 _ rfl
                  have ee6 := hbe.cell 6 _ rfl
                  have hcall := kid_any _ e _ _ _ _ _ _ v10 hE _ Hk0
                  cases k0 with
                  | false =>
                    have hc3 : c = 9 := by rw [← hcc]; first | rfl | simp
                    subst hc3
                    go_wp2_with (go_at_call 37; refine hcall.mono ?_; rintro e9 v11 ⟨rfl, hb⟩)
                    replace hbf := hbf.trans (hb.mono hbf.size)
                    exact bodyPost_ret (v := .tuple #[.string ⟨(wordE 9).toArray⟩, .bool (decide ((9 : Nat) = 0))]) (by simp [results, Tryz.results7, go_sem, wordE]) rfl ⟨rfl, hbf⟩
                  | true =>
                    go_upto_region 18 with (go_at_call 37; refine hcall.mono ?_; rintro e9 v11 ⟨rfl, hb⟩)
                    replace hbf := hbf.trans (hb.mono hbf.size)
                    replace hE := hE.below hb
                    replace hbe := hbe.kept hb
                    clear hb hcall ee0 ee1 ee2 ee3 ee4 ee5 ee6
                    have ee0 := hbe.cell 0 _ rfl
                    have ee1 := hbe.cell 1 _ rfl
                    have ee2 := hbe.cell 2 _ rfl
                    have ee3 := hbe.cell 3 _ rfl
                    have ee4 := hbe.cell 4 _ rfl
                    have ee5 := hbe.cell 5 _ rfl
                    have ee6 := hbe.cell 6 _ rfl
                    have hcall := forest_any _ e _ _ _ _ _ _ v11 hE hlim _ Hk1
                    cases k1 with
                    | false =>
                      have hc3 : c = 10 := by rw [← hcc]; first | rfl | simp
                      subst hc3
                      go_wp2_with (go_at_call 38; refine hcall.mono ?_; rintro e9 v12 ⟨rfl, hb⟩)
                      replace hbf := hbf.trans (hb.mono hbf.size)
                      exact bodyPost_ret (v := .tuple #[.string ⟨(wordE 10).toArray⟩, .bool (decide ((10 : Nat) = 0))]) (by simp [results, Tryz.results7, go_sem, wordE]) rfl ⟨rfl, hbf⟩
                    | true =>
                      go_upto_region 20 with (go_at_call 38; refine hcall.mono ?_; rintro e9 v12 ⟨rfl, hb⟩)
                      replace hbf := hbf.trans (hb.mono hbf.size)
                      replace hE := hE.below hb
                      replace hbe := hbe.kept hb
                      clear hb hcall ee0 ee1 ee2 ee3 ee4 ee5 ee6
                      have ee0 := hbe.cell 0 _ rfl
                      have ee1 := hbe.cell 1 _ rfl
                      have ee2 := hbe.cell 2 _ rfl
                      have ee3 := hbe.cell 3 _ rfl
                      have ee4 := hbe.cell 4 _ rfl
                      have ee5 := hbe.cell 5 _ rfl
                      have ee6 := hbe.cell 6 _ rfl
                      have hcall := leaf_any _ e _ _ _ _ _ _ v12 hE _ Hk2
                      cases k2 with
                      | false =>
                        have hc3 : c = 11 := by rw [← hcc]; first | rfl | simp
                        subst hc3
                        go_wp2_with (go_at_call 39; refine hcall.mono ?_; rintro e9 v13 ⟨rfl, hb⟩)
                        replace hbf := hbf.trans (hb.mono hbf.size)
                        exact bodyPost_ret (v := .tuple #[.string ⟨(wordE 11).toArray⟩, .bool (decide ((11 : Nat) = 0))]) (by simp [results, Tryz.results7, go_sem, wordE]) rfl ⟨rfl, hbf⟩
                      | true =>
                        go_upto_region 22 with (go_at_call 39; refine hcall.mono ?_; rintro e9 v13 ⟨rfl, hb⟩)
                        replace hbf := hbf.trans (hb.mono hbf.size)
                        replace hE := hE.below hb
                        replace hbe := hbe.kept hb
                        clear hb hcall ee0 ee1 ee2 ee3 ee4 ee5 ee6
                        have ee0 := hbe.cell 0 _ rfl
                        have ee1 := hbe.cell 1 _ rfl
                        have ee2 := hbe.cell 2 _ rfl
                        have ee3 := hbe.cell 3 _ rfl
                        have ee4 := hbe.cell 4 _ rfl
                        have ee5 := hbe.cell 5 _ rfl
                        have ee6 := hbe.cell 6 _ rfl
                        have hcall := cont_el (fun l => !finP l.wt) 41 #[] enter_check5 lo lc e.leaves v13 _ (fun W x hx hb => check5_any x W _ (hE.lv x hx).v rfl) hE.leaves h6 Hk3
                        cases k3 with
                        | true =>
                          have hc3 : c = 12 := by rw [← hcc]; first | rfl | simp
                          subst hc3
                          go_wp2_with (go_at_call 40; refine hcall.mono ?_; rintro e9 v14 ⟨rfl, hb⟩)
                          replace hbf := hbf.trans (hb.mono hbf.size)
                          exact bodyPost_ret (v := .tuple #[.string ⟨(wordE 12).toArray⟩, .bool (decide ((12 : Nat) = 0))]) (by simp [results, Tryz.results7, go_sem, wordE]) rfl ⟨rfl, hbf⟩
                        | false =>
                          have hc3 : c = 0 := by rw [← hcc]; first | rfl | simp
                          subst hc3
                          go_wp2_with (go_at_call 40; refine hcall.mono ?_; rintro e9 v14 ⟨rfl, hb⟩)
                          replace hbf := hbf.trans (hb.mono hbf.size)
                          exact bodyPost_ret (v := .tuple #[.string ⟨(wordE 0).toArray⟩, .bool (decide ((0 : Nat) = 0))]) (by simp [results, Tryz.results7, go_sem, wordE]) rfl ⟨rfl, hbf⟩
end Go.Proofs.YtieffhkfefimeaaGreat
