/-
  onnx: kids.
-/
import Derived.Test.YtieffhkfefimeaaGreatOnxB
namespace Go.Proofs.YtieffhkfefimeaaGreat
open Go.RowKit
set_option linter.unusedVariables false
set_option linter.unusedSimpArgs false

/-- An ensemble's value of its parts. -/
abbrev ensV (e : EE) (bo : Option Addr) (bc : Nat) (no : Option Addr) (nc : Nat) (lo : Option Addr) (lc : Nat) : Value := .agg #[.int .i64 e.feats, .int .i64 e.tgts, .string ⟨e.agg.toArray⟩, .string ⟨e.post.toArray⟩, .slice bo e.base.length bc, .slice no e.nodes.length nc, .slice lo e.leaves.length lc]
def natI (l : List Nat) : List Int := l.map fun (k : Nat) => (k : Int)
theorem ints_pair {w w' : World} {p : Nat} {x y : Int} (t : TypeId) (hp : p = w.heap.size) (hw : w' = w.alloc (.cells #[.int .i64 x, .int .i64 y] t)) : ∀ i z, i < 2 → [x, y][i]? = some z → w'.cell? ⟨p, i, none⟩ = some (.int .i64 z) := by
  intro i z hi hz
  subst hp hw
  match i, hi, hz with
  | 0, _, hz => simp at hz; subst hz; go_simp
  | 1, _, hz => simp at hz; subst hz; go_simp
theorem kids_step {ns : List EN} {t x : Int} {l : List Nat} : natI (l ++ (findE ns t x).toList) = natI l ++ (match findE ns t x with | none => [] | some k => [(k : Int)]) := by
  unfold natI
  rw [List.map_append]
  cases findE ns t x <;> simp
theorem natI_ivals_len (l : List Nat) : (ivals .i64 (natI l)).length = l.length := by simp [ivals, natI]
theorem kidsE_of {ns : List EN} {y : EN} (h : y.mode ≠ 7) : kidsE ns y = ([y.tru, y.fls].take 2).flatMap (fun x => (findE ns y.tree x).toList) := by
  simp [kidsE, h]
theorem kids_len {ns : List EN} {t : Int} (l : List Int) : (l.flatMap (fun x => (findE ns t x).toList)).length ≤ l.length := by
  induction l with
  | nil => simp
  | cons x r ih =>
    simp only [List.flatMap_cons, List.length_append, List.length_cons]
    have : (findE ns t x).toList.length ≤ 1 := by cases findE ns t x <;> simp
    omega
set_option maxRecDepth 100000 in
set_option maxHeartbeats 1000000 in
/-- kids. -/
theorem kids_any (v : Value) (e : EE) (bo : Option Addr) (bc : Nat) (no : Option Addr) (nc : Nat) (lo : Option Addr) (lc : Nat) (k : Nat) (w : World) (h : EnsIs w v e bo bc no nc lo lc) (hk : k < e.nodes.length) (y : EN) (hy : e.nodes[k] = y) (ks : List Nat) (hks : Hid (kidsE e.nodes y = ks)) :
    Calls Tryz.prog 88 #[v, .int .i64 (k : Int)] w fun e_1 w' => ∃ r, e_1 = .returned r ∧ Owns w.heap.size 3 w' r (ivals .i64 (natI ks)) ∧ Below w.heap.size w w' := by
  obtain ⟨rfl, h1, h2, h4, h5, h3, h6, h7, h8, h9⟩ := h
  obtain ⟨w0, hw0⟩ : ∃ w0, w0 = (w.alloc (.cells #[.int .i64 e.feats, .int .i64 e.tgts, .string ⟨e.agg.toArray⟩, .string ⟨e.post.toArray⟩, .slice bo e.base.length bc, .slice no e.nodes.length nc, .slice lo e.leaves.length lc] 26)) := ⟨_, rfl⟩
  have hbf : Below w.heap.size w w0 := by rw [hw0]; exact ((Below.refl _ w).alloc (Nat.le_refl _) _)
  obtain ⟨pe, hpe⟩ : ∃ p, p = w.heap.size := ⟨_, rfl⟩
  have hbe : BoxL w0 pe [.int .i64 e.feats, .int .i64 e.tgts, .string ⟨e.agg.toArray⟩, .string ⟨e.post.toArray⟩, .slice bo e.base.length bc, .slice no e.nodes.length nc, .slice lo e.leaves.length lc] := by rw [hw0, hpe]; exact BoxL.of7 (by go_simp) (by go_simp) (by go_simp) (by go_simp) (by go_simp) (by go_simp) (by go_simp) (by go_simp) (by go_simp) (by go_simp) (by go_simp) (by go_simp) (by go_simp) (by go_simp)
  have HP : Hid (w.heap.size ≤ pe) := Lib.hid (by omega)
  have HW := Lib.hid hw0; clear hw0
  go_enter Tryz.func88, Tryz.ntmps88
  go_upto_region 1 with fail
  rw [← HW.out, ← hpe]
  clear hpe HW
  have hE : EnsIs w0 (ensV e bo bc no nc lo lc) e bo bc no nc lo lc := EnsIs.below ⟨rfl, h1, h2, h4, h5, h3, h6, h7, h8, h9⟩ hbf
  have ee5 := hbe.cell 5 _ rfl
  obtain ⟨b, off, rfl⟩ := h2.addr hk
  obtain ⟨c0, c1, c2, c3, c4, c5, c6, c7⟩ := RowC.c8 h2 hbf hk y hy
  have hkz : (k : Int) < (e.nodes.length : Int) := by omega
  have hkz0 : (0 : Int) ≤ (k : Int) := by omega
  clear hy
  obtain ⟨w2, hwE⟩ : ∃ W, W = w0.alloc (.cells #[.int .i64 y.tree, .int .i64 y.node, .int .i64 y.feat, .int .i64 y.mode, .int .u64 (y.val : Int), .int .i64 y.tru, .int .i64 y.fls, .bool y.trk] 33) := ⟨_, rfl⟩
  have hb2 : Below w0.heap.size w0 w2 := by rw [hwE]; exact (Below.refl _ w0).alloc (Nat.le_refl _) _
  obtain ⟨px, hpE⟩ : ∃ p, p = w0.heap.size := ⟨_, rfl⟩
  have hbx : BoxL w2 px [.int .i64 y.tree, .int .i64 y.node, .int .i64 y.feat, .int .i64 y.mode, .int .u64 (y.val : Int), .int .i64 y.tru, .int .i64 y.fls, .bool y.trk] := by rw [hwE, hpE]; exact BoxL.new w0 _ _
  have HW := Lib.hid hwE; clear hwE
  go_upto_region 2 with fail
  rw [← HW.out, ← hpE]
  clear HW hpE
  clear ee5 c0 c1 c2 c3 c4 c5 c6 c7 hkz hkz0
  have hbf2 := hbf.trans (hb2.mono hbf.size)
  replace hE := hE.below hb2
  replace hbe := hbe.kept hb2
  have x3 := hbx.cell 3 _ rfl
  by_cases hm : y.mode = 7
  · rw [hm] at x3
    have hr : ks = [] := by rw [← hks.out]; unfold kidsE; rw [if_pos hm]
    subst hr; clear hm hks
    go_wp2_with fail
    go_ret
    exact ⟨_, rfl, Owns.nil _ _ _, hbf2⟩
  · have hm7 : (y.mode == 7) = false := by simp [hm]
    have hks2 := Lib.hid ((kidsE_of hm).symm.trans hks.out); clear hks
    have x5 := hbx.cell 5 _ rfl
    have x6 := hbx.cell 6 _ rfl
    clear hm
    obtain ⟨w3, hwE⟩ : ∃ W, W = w2.alloc (.cells #[.int .i64 y.tru, .int .i64 y.fls] 3) := ⟨_, rfl⟩
    have hb3 : Below w2.heap.size w2 w3 := by rw [hwE]; exact (Below.refl _ w2).alloc (Nat.le_refl _) _
    obtain ⟨pl, hpE⟩ : ∃ p, p = w2.heap.size := ⟨_, rfl⟩
    have hpl : pl < w3.heap.size := by rw [hwE, hpE]; simp
    have hcl := ints_pair _ hpE hwE
    have HW := Lib.hid hwE; clear hwE
    go_wp2_with fail
    rw [← HW.out, ← hpE]
    clear HW hpE x3 x5 x6 hm7
    replace hbf2 := hbf2.trans (hb3.mono hbf2.size)
    replace hE := hE.below hb3
    replace hbe := hbe.kept hb3
    replace hbx := hbx.kept hb3
    obtain ⟨L, hL⟩ : ∃ L, L = [y.tru, y.fls] := ⟨_, rfl⟩
    have hL2 : L.length = 2 := by rw [hL]; rfl
    rw [← hL] at hcl hks2
    clear hL
    go_loopg [6, 25] 2 (fun gg ov iv wr => ∃ i : Nat, i + gg = 2 ∧ iv = .int .i64 (i : Int) ∧ Owns w3.heap.size 3 wr ov (ivals .i64 (natI ((L.take i).flatMap (fun x => (findE e.nodes y.tree x).toList)))) ∧ Below w3.heap.size w3 wr)
    case atStart => exact ⟨0, by omega, rfl, by simpa [ivals, natI] using Owns.nil _ _ _, Below.refl _ _⟩
    case round =>
      obtain ⟨i, hi, rfl, hO, hbr⟩ := hrel
      replace hbe := hbe.kept hbr
      replace hbx := hbx.kept hbr
      replace hE := hE.below hbr
      have hlen := natI_ivals_len ((L.take i).flatMap (fun x => (findE e.nodes y.tree x).toList))
      have hlen2 := kids_len (ns := e.nodes) (t := y.tree) (L.take i)
      rw [List.length_take] at hlen2
      by_cases hil : i < 2
      · have hz : (i : Int) < 2 := by omega
        have hz0 : (0 : Int) ≤ (i : Int) := by omega
        obtain ⟨z, hzz⟩ : ∃ z, L[i]? = some z := ⟨_, List.getElem?_eq_getElem (by omega)⟩
        have cz := (hbr.cell (p := ⟨pl, i, none⟩) hpl).trans (hcl i z hil hzz)
        have HT : Hid ((L.take (i + 1)).flatMap (fun x => (findE e.nodes y.tree x).toList) = (L.take i).flatMap (fun x => (findE e.nodes y.tree x).toList) ++ (findE e.nodes y.tree z).toList) := Lib.hid (by rw [List.take_add_one, hzz, List.flatMap_append]; simp)
        clear hcl hzz hks2
        have x0 := hbx.cell 0 _ rfl
        have ee0 := hbe.cell 0 _ rfl
        have ee1 := hbe.cell 1 _ rfl
        have ee2 := hbe.cell 2 _ rfl
        have ee3 := hbe.cell 3 _ rfl
        have ee4 := hbe.cell 4 _ rfl
        have ee5 := hbe.cell 5 _ rfl
        have ee6 := hbe.cell 6 _ rfl
        obtain ⟨q, hq⟩ : ∃ q, findE e.nodes y.tree z = q := ⟨_, rfl⟩
        have hfind := fun g i9 => find_any _ e _ _ _ _ _ _ y.tree z wr hE g i9
        rw [hq] at hfind HT
        clear hq
        cases q with
        | none =>
          have hcall := hfind 0 false (Lib.hid rfl) (Lib.hid rfl)
          clear hfind
          go_wp2_with (go_at_call 17; refine hcall.mono ?_; rintro e w6 ⟨rfl, hb6⟩)
          go_roundg (gk - 1)
          case measure => omega
          case rel => exact ⟨i + 1, by omega, by first | rfl | go_num, by rw [HT.out]; simpa [natI, ivals] using Owns.kept hO hb6, hbr.trans (hb6.mono hbr.size)⟩
        | some k9 =>
          have hcall := hfind k9 true (Lib.hid rfl) (Lib.hid rfl)
          clear hfind
          have hlz : (ivals .i64 (natI ((L.take i).flatMap (fun x => (findE e.nodes y.tree x).toList)))).length ≤ 2 := by omega
          go_wp2_with (first | (go_at_call 17; refine hcall.mono ?_; rintro e w6 ⟨rfl, hb6⟩; replace hO := Owns.kept hO hb6; have hbr6 := hbr.trans (hb6.mono hbr.size)) | (at_builtin; refine append1 E_ints hO rfl rfl rfl rfl rfl (by omega) (by unfold maxLen; omega) hbr6.size ?_; intro v6 w7 ho6 hb7 hg6))
          go_roundg (gk - 1)
          case measure => omega
          case rel => exact ⟨i + 1, by omega, by first | rfl | go_num, by rw [HT.out]; simpa [natI, ivals] using ho6, hbr6.trans hb7⟩
      · have hz : ¬ (i : Int) < 2 := by omega
        have hi2 : i = 2 := by omega
        subst hi2
        rw [hks2.out] at hO
        clear hks2 hlen hlen2 hcl
        go_wp2_with fail
        go_ret
        exact ⟨_, rfl, hO.mono hbf2.size, hbf2.trans (hbr.mono hbf2.size)⟩
end Go.Proofs.YtieffhkfefimeaaGreat
