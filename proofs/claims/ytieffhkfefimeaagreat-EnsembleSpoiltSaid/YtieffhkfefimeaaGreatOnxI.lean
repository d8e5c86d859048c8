/-
  onnx: single.
-/
import Derived.Test.YtieffhkfefimeaaGreatOnxH
namespace Go.Proofs.YtieffhkfefimeaaGreat
open Go.RowKit
set_option linter.unusedVariables false
set_option linter.unusedSimpArgs false

def rootP (ns : List EN) (up : List Int) (t : Int) (k : Nat) : Bool := decide (ns[k]!.tree = t) && decide (up[k]?.getD 0 = -1)
def cntR (ns : List EN) (up : List Int) (t : Int) (i : Nat) : Nat := ((List.range i).filter (rootP ns up t)).length
theorem cntR_all (ns : List EN) (up : List Int) (t : Int) : rootsE ns up t = cntR ns up t ns.length := rfl
theorem cntR_succ (ns : List EN) (up : List Int) (t : Int) (i : Nat) : cntR ns up t (i + 1) = cntR ns up t i + (if rootP ns up t i = true then 1 else 0) := by
  unfold cntR
  rw [List.range_succ, List.filter_append, List.length_append]
  by_cases h : rootP ns up t i = true <;> simp [h]
theorem cntR_le (ns : List EN) (up : List Int) (t : Int) (i : Nat) : cntR ns up t i ≤ i := by
  unfold cntR
  have := List.length_filter_le (rootP ns up t) (List.range i)
  simpa using this
theorem IntsI.at' {k : IntKind} {w : World} {ao : Option Addr} {n cap : Nat} {ns : List Int} (h : IntsI k w (.slice ao n cap) ns) : n = ns.length ∧ ∀ i (hi : i < ns.length), ∃ b off, ao = some ⟨b, off, none⟩ ∧ b < w.heap.size ∧ w.cell? ⟨b, off + i, none⟩ = some (.int k (ns[i]?.getD 0)) := by
  obtain ⟨ao', cap', e, h1, h2, h3⟩ := h
  cases e
  refine ⟨rfl, fun i hi => ?_⟩
  rcases h3 with h | ⟨b, off, e, hb, hc⟩
  · rw [h] at hi; simp at hi
  · exact ⟨b, off, e, hb, hc i hi⟩
set_option maxRecDepth 100000 in
set_option maxHeartbeats 2000000 in
theorem single_e (v : Value) (e : EE) (bo : Option Addr) (bc : Nat) (no : Option Addr) (nc : Nat) (lo : Option Addr) (lc : Nat) (ao : Option Addr) (cap : Nat) (up : List Int) (w : World) (h : EnsIs w v e bo bc no nc lo lc) (hlim : e.nodes.length ≤ 100000) (hu : IntsI .i64 w (.slice ao up.length cap) up) (hul : up.length = e.nodes.length) (r : Bool) (hr : Hid (singleE e.nodes up = r)) :
    Calls Tryz.prog 89 #[v, .slice ao up.length cap] w fun e w' => e = .returned (.bool r) ∧ Below w.heap.size w w' := by
  obtain ⟨rfl, h1, h2, h4, h5, h3, h6, h7, h8, h9⟩ := h
  obtain ⟨w0, hw0⟩ : ∃ w0, w0 = (w.alloc (.cells #[.int .i64 e.feats, .int .i64 e.tgts, .string ⟨e.agg.toArray⟩, .string ⟨e.post.toArray⟩, .slice bo e.base.length bc, .slice no e.nodes.length nc, .slice lo e.leaves.length lc] 26)) := ⟨_, rfl⟩
  have hbf : Below w.heap.size w w0 := by rw [hw0]; exact ((Below.refl _ w).alloc (Nat.le_refl _) _)
  obtain ⟨pe, hpe⟩ : ∃ p, p = w.heap.size := ⟨_, rfl⟩
  have hbe : BoxL w0 pe [.int .i64 e.feats, .int .i64 e.tgts, .string ⟨e.agg.toArray⟩, .string ⟨e.post.toArray⟩, .slice bo e.base.length bc, .slice no e.nodes.length nc, .slice lo e.leaves.length lc] := by rw [hw0, hpe]; exact BoxL.of7 (by go_simp) (by go_simp) (by go_simp) (by go_simp) (by go_simp) (by go_simp) (by go_simp) (by go_simp) (by go_simp) (by go_simp) (by go_simp) (by go_simp) (by go_simp) (by go_simp)
  have HP : Hid (w.heap.size ≤ pe) := Lib.hid (by omega)
  have HW := Lib.hid hw0; clear hw0
  go_enter Tryz.func89, Tryz.ntmps89
  go_upto_region 1 with fail
  rw [← HW.out, ← hpe]
  clear hpe HW
  have hE : EnsIs w0 (ensV e bo bc no nc lo lc) e bo bc no nc lo lc := EnsIs.below ⟨rfl, h1, h2, h4, h5, h3, h6, h7, h8, h9⟩ hbf
  have ee0 := hbe.cell 0 _ rfl
  have ee1 := hbe.cell 1 _ rfl
  have ee2 := hbe.cell 2 _ rfl
  have ee3 := hbe.cell 3 _ rfl
  have ee4 := hbe.cell 4 _ rfl
  have ee5 := hbe.cell 5 _ rfl
  have ee6 := hbe.cell 6 _ rfl
  have hlt := hbe.lt
  replace hu := hu.below hbf
  have hT := trees_any _ e _ _ _ _ _ _ w0 hE hlim
  obtain ⟨ts, hts⟩ : ∃ ts, treesE e.nodes = ts := ⟨_, rfl⟩
  have HTS := Lib.hid hts
  rw [hts] at hT
  clear hts
  go_wp2_with (go_at_call 11; refine hT.mono ?_; rintro e9 w1 ⟨r9, rfl, hO, hb1⟩; have hI9 := (ints_of_owns hO).1; obtain ⟨tao, tcp, rfl, htc1, htc2, _⟩ := OwnsK.slice (K := 1) hO; rw [ivals_length] at *)
  clear hT ee0 ee1 ee2 ee3 ee4 ee5 ee6
  replace hbe := hbe.kept hb1
  replace hE := hE.below hb1
  replace hu := hu.below hb1
  replace hbf := hbf.trans (hb1.mono hbf.size)
  clear hlt hb1
  unfold maxLen at htc2
  have htl := Nat.le_trans htc1 htc2
  go_loopg [12] ts.length (fun gg iv wr => ∃ (j : Nat), j + gg = ts.length ∧ iv = .int .i64 (j : Int) ∧ Hid (∀ m (hm : m < ts.length), m < j → rootsE e.nodes up ts[m] = 1) ∧ Below w1.heap.size w1 wr)
  case atStart => exact ⟨0, by omega, rfl, Lib.hid (fun m hm hm2 => absurd hm2 (Nat.not_lt_zero _)), Below.refl _ _⟩
  case round =>
    obtain ⟨j, hj, rfl, hA, hbr⟩ := hrel
    by_cases hjl : j < ts.length
    · have hz : (j : Int) < (ts.length : Int) := by omega
      have hz0 : (0 : Int) ≤ (j : Int) := by omega
      obtain ⟨tb, toff, rfl, htb, htc⟩ := hI9.at'.2 j hjl
      obtain ⟨t, ht⟩ : ∃ t, ts[j] = t := ⟨_, rfl⟩
      rw [List.getElem?_eq_getElem hjl, Option.getD_some, ht] at htc
      have ct := (hbr.cell (p := ⟨tb, toff + j, none⟩) htb).trans htc
      have Ht := Lib.hid ht
      clear ht htc
      replace hbe := hbe.kept hbr
      have ee5 := hbe.cell 5 _ rfl
      have hlt := hbe.lt
      have hno := hE.nodes.below (B := 0) hbr
      replace hu := hu.below hbr
      have hbfr := hbf.trans (hbr.mono hbf.size)
      obtain ⟨ww, hww⟩ : ∃ x, x = wr := ⟨_, rfl⟩
      subst hww
      obtain ⟨go1, hgo⟩ : ∃ go, go = gk := ⟨_, rfl⟩
      subst hgo
      go_wp2_with fail
      clear ee5 ct
      go_loopg [7, 19] e.nodes.length (fun gg nv iv wr => ∃ (i : Nat) (n : Nat), i + gg = e.nodes.length ∧ nv = .int .i64 (n : Int) ∧ iv = .int .i64 (i : Int) ∧ n ≤ i ∧ Hid (n = cntR e.nodes up t i) ∧ Below ww.heap.size ww wr)
      case atStart => exact ⟨0, 0, by omega, rfl, rfl, Nat.le_refl _, Lib.hid rfl, Below.refl _ _⟩
      case round =>
        obtain ⟨i, n, hi, rfl, rfl, hni, hN, hbq⟩ := hrel
        by_cases hil : i < e.nodes.length
        · have hzi : (i : Int) < (e.nodes.length : Int) := by omega
          have hzi0 : (0 : Int) ≤ (i : Int) := by omega
          have hzn0 : (0 : Int) ≤ (n : Int) := by omega
          obtain ⟨b, off, rfl⟩ := h2.addr hil
          obtain ⟨y, hy⟩ : ∃ y, e.nodes[i] = y := ⟨_, rfl⟩
          obtain ⟨c0, -, -, -, -, -, -, -⟩ := RowC.c8 hno hbq hil y hy
          obtain ⟨ub, uoff, rfl, hub, hucc⟩ := hu.at'.2 i (by omega)
          have cu := (hbq.cell (p := ⟨ub, uoff + i, none⟩) hub).trans hucc
          have HR : Hid (rootP e.nodes up t i = (decide (y.tree = t) && decide (up[i]?.getD 0 = -1))) := Lib.hid (by unfold rootP; rw [getElem!_pos e.nodes i hil, hy])
          clear hy hucc
          generalize up[i]?.getD 0 = uv at cu HR
          have ee5 := (hbe.kept hbq).cell 5 _ rfl
          have hiu : (i : Int) < (up.length : Int) := by omega
          by_cases q : y.tree = t
          · rw [q] at c0
            by_cases q2 : uv = -1
            · subst q2
              have HN2 : Hid (n + 1 = cntR e.nodes up t (i + 1)) := Lib.hid (by rw [cntR_succ, HR.out, hN.out]; simp [q])
              clear HR hN q
              go_wp2_with fail
              go_roundg (gk - 1)
              case measure => omega
              case rel => exact ⟨i + 1, n + 1, by omega, by first | rfl | go_num, by first | rfl | go_num, by omega, HN2, hbq⟩
            · have q3 : (uv == -1) = false := by simp [q2]
              have HN2 : Hid (n = cntR e.nodes up t (i + 1)) := Lib.hid (by rw [cntR_succ, HR.out, hN.out]; simp [q2])
              clear HR hN q q2
              go_wp2_with fail
              go_roundg (gk - 1)
              case measure => omega
              case rel => exact ⟨i + 1, n, by omega, by first | rfl | go_num, by first | rfl | go_num, by omega, HN2, hbq⟩
          · have q3 : (y.tree == t) = false := by simp [q]
            have HN2 : Hid (n = cntR e.nodes up t (i + 1)) := Lib.hid (by rw [cntR_succ, HR.out, hN.out]; simp [q])
            clear HR hN q
            go_wp2_with fail
            go_roundg (gk - 1)
            case measure => omega
            case rel => exact ⟨i + 1, n, by omega, by first | rfl | go_num, by first | rfl | go_num, by omega, HN2, hbq⟩
        · have hzi : ¬ (i : Int) < (e.nodes.length : Int) := by omega
          have hie : i = e.nodes.length := by omega
          have HN2 : Hid (rootsE e.nodes up t = n) := Lib.hid (by rw [cntR_all, ← hie]; exact hN.out.symm)
          clear hN
          by_cases q : n = 1
          · have HA2 : Hid (∀ m (hm : m < ts.length), m < j + 1 → rootsE e.nodes up ts[m] = 1) := Lib.hid (fun m hm hm2 => by
              by_cases e9 : m = j
              · subst e9; rw [Ht.out, HN2.out, q]
              · exact hA.out m hm (by omega))
            subst q
            clear hA HN2 hie
            go_wp2_with fail
            go_roundg (go1 - 1)
            case measure => omega
            case rel => exact ⟨j + 1, by omega, by first | rfl | go_num, HA2, hbr.trans (hbq.mono hbr.size)⟩
          · have q3 : ((n : Int) != 1) = true := by simp; omega
            have hr2 : r = false := by
              rw [← hr.out]; unfold singleE; rw [HTS.out]
              exact List.all_eq_false.2 ⟨ts[j], List.getElem_mem hjl, by rw [Ht.out, HN2.out]; simp [q]⟩
            subst hr2
            clear hr HN2 hA q
            go_wp2_with fail
            go_ret
            exact ⟨rfl, hbfr.trans (hbq.mono hbfr.size)⟩
    · have hz : ¬ (j : Int) < (ts.length : Int) := by omega
      have hr2 : r = true := by
        rw [← hr.out]; unfold singleE; rw [HTS.out]
        refine List.all_eq_true.2 fun t ht => ?_
        obtain ⟨m, hm, rfl⟩ := List.mem_iff_getElem.1 ht
        rw [hA.out m hm (by omega)]; rfl
      subst hr2
      clear hr hA
      go_wp2_with fail
      go_ret
      exact ⟨rfl, hbf.trans (hbr.mono hbf.size)⟩
end Go.Proofs.YtieffhkfefimeaaGreat
