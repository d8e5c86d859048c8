/-
  Pk25: EnsS (what is needed of them).
-/
import Derived.Test.YtcpfanpcdkoiaaaGreatPk24
set_option maxRecDepth 100000
set_option linter.unusedVariables false
set_option linter.unusedSimpArgs false

namespace Go.Proofs.YtcpfanpcdkoiaaaGreat
open Go.RowKit Go.Shelf


theorem neq_enR (x y : EN) (w : World) : (binOp BinOp.neq 131 (.agg #[.int .i64 x.tree, .int .i64 x.node, .int .i64 x.feat, .int .i64 x.mode, .int .u64 (x.val : Int), .int .i64 x.tru, .int .i64 x.fls, .bool x.trk]) (.agg #[.int .i64 y.tree, .int .i64 y.node, .int .i64 y.feat, .int .i64 y.mode, .int .u64 (y.val : Int), .int .i64 y.tru, .int .i64 y.fls, .bool y.trk])).run Tryz.prog w = .ok (.bool (!decide (x = y))) w := neq_en.1 x y w
theorem neq_elR (x y : EL) (w : World) : (binOp BinOp.neq 137 (.agg #[.int .i64 x.tree, .int .i64 x.node, .int .i64 x.tgt, .int .u64 (x.wt : Int)]) (.agg #[.int .i64 y.tree, .int .i64 y.node, .int .i64 y.tgt, .int .u64 (y.wt : Int)])).run Tryz.prog w = .ok (.bool (!decide (x = y))) w := neq_el.1 x y w
theorem take_grow {α : Type} {xs ys : List α} {i : Nat} (hx : i < xs.length) (hy : i < ys.length) (h : xs.take i = ys.take i) (he : xs[i] = ys[i]) : xs.take (i + 1) = ys.take (i + 1) := by
 rw [List.take_succ_eq_append_getElem hx, List.take_succ_eq_append_getElem hy, h, he]
theorem take_end {α : Type} {xs ys : List α} {i : Nat} (hx : ¬ i < xs.length) (hl : xs.length = ys.length) (h : xs.take i = ys.take i) : xs = ys := by
 rwa [List.take_of_length_le (by omega), List.take_of_length_le (by omega)] at h
theorem rt_false {r : Bool} (P : Prop) [Decidable P] (h : decide P = r) (hn : ¬ P) : r = false := by rw [← h]; exact decide_eq_false hn
set_option maxHeartbeats 4000000 in
attribute [local go_sem] neq_enR neq_elR in
theorem rsame_any (v : Value) (e : EE) (bo : Option Addr) (bc : Nat) (no : Option Addr) (nc : Nat) (lo : Option Addr) (lc : Nat) (v2 : Value) (f : EE) (bo2 : Option Addr) (bc2 : Nat) (no2 : Option Addr) (nc2 : Nat) (lo2 : Option Addr) (lc2 : Nat) (w : World) (h : EnsIs w v e bo bc no nc lo lc) (hh : EnsIs w v2 f bo2 bc2 no2 nc2 lo2 lc2) (r : Bool) (hr : Hid (decide (e = f) = r)) :
  Calls Tryz.prog 31 #[v, v2] w fun e_1 w' => e_1 = .returned (.bool r) ∧ Below w.heap.size w w' := by
 obtain ⟨rfl, h1, h2, h4, h5, h3, h6, h7, h8, h9⟩ := h
 obtain ⟨rfl, k1, k2, k4, k5, k3, k6, k7, k8, k9⟩ := hh
 unfold maxLen at h5 h3 h6 k5 k3 k6
 obtain ⟨w0, hw0⟩ : ∃ w0, w0 = (w.alloc (.cells #[.int .i64 e.feats, .int .i64 e.tgts, .string ⟨e.agg.toArray⟩, .string ⟨e.post.toArray⟩, .slice bo e.base.length bc, .slice no e.nodes.length nc, .slice lo e.leaves.length lc] 75)).alloc (.cells #[.int .i64 f.feats, .int .i64 f.tgts, .string ⟨f.agg.toArray⟩, .string ⟨f.post.toArray⟩, .slice bo2 f.base.length bc2, .slice no2 f.nodes.length nc2, .slice lo2 f.leaves.length lc2] 75) := ⟨_, rfl⟩
 have hbf : Below w.heap.size w w0 := by rw [hw0]; exact ((Below.refl _ w).alloc (Nat.le_refl _) _).alloc (by simp <;> omega) _
 obtain ⟨pe, hpe⟩ : ∃ p, p = w.heap.size := ⟨_, rfl⟩
 obtain ⟨pf, hpf⟩ : ∃ p, p = w.heap.size + 1 := ⟨_, rfl⟩
 have hbe : BoxL w0 pe [.int .i64 e.feats, .int .i64 e.tgts, .string ⟨e.agg.toArray⟩, .string ⟨e.post.toArray⟩, .slice bo e.base.length bc, .slice no e.nodes.length nc, .slice lo e.leaves.length lc] := by rw [hw0, hpe]; exact BoxL.of7 (by go_simp) (by go_simp) (by go_simp) (by go_simp) (by go_simp) (by go_simp) (by go_simp) (by go_simp) (by go_simp) (by go_simp) (by go_simp) (by go_simp) (by go_simp) (by go_simp)
 have hbg : BoxL w0 pf [.int .i64 f.feats, .int .i64 f.tgts, .string ⟨f.agg.toArray⟩, .string ⟨f.post.toArray⟩, .slice bo2 f.base.length bc2, .slice no2 f.nodes.length nc2, .slice lo2 f.leaves.length lc2] := by rw [hw0, hpf]; exact BoxL.of7 (by go_simp) (by go_simp) (by go_simp) (by go_simp) (by go_simp) (by go_simp) (by go_simp) (by go_simp) (by go_simp) (by go_simp) (by go_simp) (by go_simp) (by go_simp) (by go_simp)
 have HW := Lib.hid hw0; clear hw0
 go_enter Tryz.func31, Tryz.ntmps31
 go_upto_region 1 with fail
 rw [← HW.out, ← hpf, ← hpe]
 clear hpe hpf HW
 have HR := Lib.hid hr.out
 clear hr
 obtain ⟨ea0, ea1, ea2, ea3, ea4, ea5, ea6⟩ := hbe.c7
 obtain ⟨eb0, eb1, eb2, eb3, eb4, eb5, eb6⟩ := hbg.c7
 by_cases q0 : e.feats = f.feats
 case neg =>
  have hrf := rt_false _ HR.out (fun h => q0 (by rw [h]))
  subst hrf
  clear HR
  have z0 : (e.feats != f.feats) = true := by simp only [bne_iff_ne, ne_eq]; omega
  go_wp2_with fail
  go_ret
  exact ⟨rfl, hbf⟩
 have z0 : (e.feats != f.feats) = false := by rw [bne_eq_false_iff_eq]; omega
 have Q0 := Lib.hid q0
 clear q0
 by_cases q1 : e.tgts = f.tgts
 case neg =>
  have hrf := rt_false _ HR.out (fun h => q1 (by rw [h]))
  subst hrf
  clear HR
  have z1 : (e.tgts != f.tgts) = true := by simp only [bne_iff_ne, ne_eq]; omega
  go_wp2_with fail
  go_ret
  exact ⟨rfl, hbf⟩
 have z1 : (e.tgts != f.tgts) = false := by rw [bne_eq_false_iff_eq]; omega
 have Q1 := Lib.hid q1
 clear q1
 by_cases q2 : e.agg = f.agg
 case neg =>
  have hrf := rt_false _ HR.out (fun h => q2 (by rw [h]))
  subst hrf
  clear HR
  go_wp2_with fail
  go_ret
  exact ⟨rfl, hbf⟩
 have Q2 := Lib.hid q2
 rw [← q2] at eb2
 have z2 : (decide (e.agg = e.agg)) = true := by simp
 clear q2
 by_cases q3 : e.post = f.post
 case neg =>
  have hrf := rt_false _ HR.out (fun h => q3 (by rw [h]))
  subst hrf
  clear HR
  go_wp2_with fail
  go_ret
  exact ⟨rfl, hbf⟩
 have Q3 := Lib.hid q3
 rw [← q3] at eb3
 have z3 : (decide (e.post = e.post)) = true := by simp
 clear q3
 by_cases q4 : e.base.length = f.base.length
 case neg =>
  have hrf := rt_false _ HR.out (fun h => q4 (by rw [h]))
  subst hrf
  clear HR
  have z4 : (((e.base.length : Nat) : Int) != ((f.base.length : Nat) : Int)) = true := by simp only [bne_iff_ne, ne_eq]; omega
  go_wp2_with fail
  go_ret
  exact ⟨rfl, hbf⟩
 have z4 : (((e.base.length : Nat) : Int) != ((f.base.length : Nat) : Int)) = false := by rw [bne_eq_false_iff_eq]; omega
 have Q4 := Lib.hid q4
 clear q4
 by_cases q5 : e.nodes.length = f.nodes.length
 case neg =>
  have hrf := rt_false _ HR.out (fun h => q5 (by rw [h]))
  subst hrf
  clear HR
  have z5 : (((e.nodes.length : Nat) : Int) != ((f.nodes.length : Nat) : Int)) = true := by simp only [bne_iff_ne, ne_eq]; omega
  go_wp2_with fail
  go_ret
  exact ⟨rfl, hbf⟩
 have z5 : (((e.nodes.length : Nat) : Int) != ((f.nodes.length : Nat) : Int)) = false := by rw [bne_eq_false_iff_eq]; omega
 have Q5 := Lib.hid q5
 clear q5
 by_cases q6 : e.leaves.length = f.leaves.length
 case neg =>
  have hrf := rt_false _ HR.out (fun h => q6 (by rw [h]))
  subst hrf
  clear HR
  have z6 : (((e.leaves.length : Nat) : Int) != ((f.leaves.length : Nat) : Int)) = true := by simp only [bne_iff_ne, ne_eq]; omega
  go_wp2_with fail
  go_ret
  exact ⟨rfl, hbf⟩
 have z6 : (((e.leaves.length : Nat) : Int) != ((f.leaves.length : Nat) : Int)) = false := by rw [bne_eq_false_iff_eq]; omega
 have Q6 := Lib.hid q6
 clear q6
 have hbr0 : Below w0.heap.size w0 w0 := Below.refl _ _
 go_wp2_with fail
 clear z0 z1 z2 z3 z4 z5 z6
 clear ea0 eb0 ea1 eb1 ea2 eb2 ea3 eb3 ea4 eb4 ea5 eb5 ea6 eb6
 go_loopg [5] e.base.length (fun gg iv wr => ∃ (i : Nat), i + gg = e.base.length ∧ iv = .int .i64 (i : Int) ∧ Hid (e.base.take i = f.base.take i) ∧ Below w0.heap.size w0 wr)
 case atStart => exact ⟨0, by omega, rfl, Lib.hid rfl, hbr0⟩
 clear hbr0
 case round =>
  obtain ⟨i, hi, rfl, HT, hbr⟩ := hrel
  have hbe1 := hbe.kept hbr
  have hbg1 := hbg.kept hbr
  have ea := hbe1.cell 4 _ rfl
  have eb := hbg1.cell 4 _ rfl
  have hbw := hbf.trans (hbr.mono hbf.size)
  by_cases hil : i < e.base.length
  case pos =>
   have hz : (i : Int) < (e.base.length : Int) := by omega
   have hz0 : (0 : Int) ≤ (i : Int) := by omega
   have hil2 : i < f.base.length := by have := Q4.out; omega
   have hz2 : (i : Int) < (f.base.length : Int) := by omega
   rcases h1 with h | ⟨b1, o1, rfl, hb1, c1⟩
   ·rw [h] at hil; exact absurd hil (Nat.not_lt_zero _)
   rcases k1 with h | ⟨b2, o2, rfl, hb2, c2⟩
   ·rw [h] at hil2; exact absurd hil2 (Nat.not_lt_zero _)
   have e1 := (hbw.cell (p := ⟨b1, o1 + i, none⟩) hb1).trans (c1 i hil)
   have e2 := (hbw.cell (p := ⟨b2, o2 + i, none⟩) hb2).trans (c2 i hil2)
   obtain ⟨x, hx⟩ : ∃ x, e.base[i] = x := ⟨_, rfl⟩
   obtain ⟨y, hy⟩ : ∃ x, f.base[i] = x := ⟨_, rfl⟩
   rw [List.getElem?_eq_getElem hil, Option.getD_some, hx] at e1
   rw [List.getElem?_eq_getElem hil2, Option.getD_some, hy] at e2
   by_cases hxy : x = y
   case pos =>
    have HT2 := Lib.hid (take_grow hil hil2 HT.out (by rw [hx, hy, hxy]))
    subst hxy
    have hn : (((x : Nat) : Int) != ((x : Nat) : Int)) = false := by simp
    clear hx hy HT
    go_wp2_with fail
    go_quiet (fail)
    go_wp2_with fail
    go_roundg (gk - 1)
    case measure => omega
    case rel => exact ⟨i + 1, by omega, by first | rfl | go_num, HT2, ⟨hbr.os, hbr.tape, hbr.output, hbr.size, hbr.block⟩⟩
   case neg =>
    have hrf := rt_false _ HR.out (fun h => hxy (by rw [← hx, ← hy]; subst h; rfl))
    subst hrf
    have hn : (((x : Nat) : Int) != ((y : Nat) : Int)) = true := by simp only [bne_iff_ne, ne_eq]; omega
    clear hx hy HT HR hxy
    go_wp2_with fail
    go_quiet (fail)
    go_wp2_with fail
    go_ret
    exact ⟨rfl, ⟨hbw.os, hbw.tape, hbw.output, hbw.size, hbw.block⟩⟩
  case neg =>
   have hz : ¬ (i : Int) < (e.base.length : Int) := by omega
   have R4 := Lib.hid (take_end hil Q4.out HT.out)
   clear HT hil hi hbe1 hbg1
   go_wp2_with fail
   clear ea eb hz hbw
   obtain ⟨wz, hwz⟩ : ∃ X, X = wr := ⟨_, rfl⟩
   subst hwz
   have hbr1 := hbr
   clear hbr
   go_loopg [6] e.nodes.length (fun gg iv wr => ∃ (i : Nat), i + gg = e.nodes.length ∧ iv = .int .i64 (i : Int) ∧ Hid (e.nodes.take i = f.nodes.take i) ∧ Below w0.heap.size w0 wr)
   case atStart => exact ⟨0, by omega, rfl, Lib.hid rfl, hbr1⟩
   clear hbr1
   case round =>
    obtain ⟨i, hi, rfl, HT, hbr⟩ := hrel
    have hbe1 := hbe.kept hbr
    have hbg1 := hbg.kept hbr
    have ea := hbe1.cell 5 _ rfl
    have eb := hbg1.cell 5 _ rfl
    have hbw := hbf.trans (hbr.mono hbf.size)
    by_cases hil : i < e.nodes.length
    case pos =>
     have hz : (i : Int) < (e.nodes.length : Int) := by omega
     have hz0 : (0 : Int) ≤ (i : Int) := by omega
     have hil2 : i < f.nodes.length := by have := Q5.out; omega
     have hz2 : (i : Int) < (f.nodes.length : Int) := by omega
     obtain ⟨b1, o1, rfl⟩ := h2.addr hil
     obtain ⟨b2, o2, rfl⟩ := k2.addr hil2
     obtain ⟨x, hx⟩ : ∃ x, e.nodes[i] = x := ⟨_, rfl⟩
     obtain ⟨y, hy⟩ : ∃ x, f.nodes[i] = x := ⟨_, rfl⟩
     obtain ⟨c0, c1, c2, c3, c4, c5, c6, c7⟩ := RowC.c8 h2 hbw hil x hx
     obtain ⟨d0, d1, d2, d3, d4, d5, d6, d7⟩ := RowC.c8 k2 hbw hil2 y hy
     by_cases hxy : x = y
     case pos =>
      have HT2 := Lib.hid (take_grow hil hil2 HT.out (by rw [hx, hy, hxy]))
      subst hxy
      have hn : (!decide (x = x)) = false := by simp
      clear hx hy HT
      go_wp2_with fail
      go_quiet (fail)
      go_wp2_with fail
      go_roundg (gk - 1)
      case measure => omega
      case rel => exact ⟨i + 1, by omega, by first | rfl | go_num, HT2, ⟨hbr.os, hbr.tape, hbr.output, hbr.size, hbr.block⟩⟩
     case neg =>
      have hrf := rt_false _ HR.out (fun h => hxy (by rw [← hx, ← hy]; subst h; rfl))
      subst hrf
      clear hx hy HT HR
      by_cases g0 : x.tree = y.tree
      case neg =>
       clear hxy
       go_wp2_with fail
       go_quiet (fail)
       go_wp2_with fail
       go_ret
       exact ⟨rfl, ⟨hbw.os, hbw.tape, hbw.output, hbw.size, hbw.block⟩⟩
      case pos =>
      rw [← g0] at d0
      have G0 := Lib.hid g0
      clear g0
      by_cases g1 : x.node = y.node
      case neg =>
       clear hxy
       go_wp2_with fail
       go_quiet (fail)
       go_wp2_with fail
       go_ret
       exact ⟨rfl, ⟨hbw.os, hbw.tape, hbw.output, hbw.size, hbw.block⟩⟩
      case pos =>
      rw [← g1] at d1
      have G1 := Lib.hid g1
      clear g1
      by_cases g2 : x.feat = y.feat
      case neg =>
       clear hxy
       go_wp2_with fail
       go_quiet (fail)
       go_wp2_with fail
       go_ret
       exact ⟨rfl, ⟨hbw.os, hbw.tape, hbw.output, hbw.size, hbw.block⟩⟩
      case pos =>
      rw [← g2] at d2
      have G2 := Lib.hid g2
      clear g2
      by_cases g3 : x.mode = y.mode
      case neg =>
       clear hxy
       go_wp2_with fail
       go_quiet (fail)
       go_wp2_with fail
       go_ret
       exact ⟨rfl, ⟨hbw.os, hbw.tape, hbw.output, hbw.size, hbw.block⟩⟩
      case pos =>
      rw [← g3] at d3
      have G3 := Lib.hid g3
      clear g3
      by_cases g4 : ((x.val : Nat) : Int) = ((y.val : Nat) : Int)
      case neg =>
       clear hxy
       go_wp2_with fail
       go_quiet (fail)
       go_wp2_with fail
       go_ret
       exact ⟨rfl, ⟨hbw.os, hbw.tape, hbw.output, hbw.size, hbw.block⟩⟩
      case pos =>
      rw [← g4] at d4
      have G4 := Lib.hid g4
      clear g4
      by_cases g5 : x.tru = y.tru
      case neg =>
       clear hxy
       go_wp2_with fail
       go_quiet (fail)
       go_wp2_with fail
       go_ret
       exact ⟨rfl, ⟨hbw.os, hbw.tape, hbw.output, hbw.size, hbw.block⟩⟩
      case pos =>
      rw [← g5] at d5
      have G5 := Lib.hid g5
      clear g5
      by_cases g6 : x.fls = y.fls
      case neg =>
       clear hxy
       go_wp2_with fail
       go_quiet (fail)
       go_wp2_with fail
       go_ret
       exact ⟨rfl, ⟨hbw.os, hbw.tape, hbw.output, hbw.size, hbw.block⟩⟩
      case pos =>
      rw [← g6] at d6
      have G6 := Lib.hid g6
      clear g6
      have hlast : ¬ x.trk = y.trk := fun g7 => hxy (by have g0 := G0.out; have g1 := G1.out; have g2 := G2.out; have g3 := G3.out; have g4 := G4.out; have g5 := G5.out; have g6 := G6.out; clear G0 G1 G2 G3 G4 G5 G6; cases x; cases y; simp only at g0 g1 g2 g3 g4 g5 g6 g7; have g4n := Int.ofNat.inj g4; subst g0 g1 g2 g3 g4n g5 g6 g7; rfl)
      clear hxy
      cases hb1 : x.trk <;> cases hb2 : y.trk
      case true.true => exact absurd (hb1.trans hb2.symm) hlast
      case false.false => exact absurd (hb1.trans hb2.symm) hlast
      all_goals
       clear hlast
       rw [hb1] at c7
       rw [hb2] at d7
       clear hb1 hb2
       go_wp2_with fail
       go_quiet (fail)
       go_wp2_with fail
       go_ret
       exact ⟨rfl, ⟨hbw.os, hbw.tape, hbw.output, hbw.size, hbw.block⟩⟩
    case neg =>
     have hz : ¬ (i : Int) < (e.nodes.length : Int) := by omega
     have R5 := Lib.hid (take_end hil Q5.out HT.out)
     clear HT hil hi hbe1 hbg1
     go_wp2_with fail
     clear ea eb hz hbw
     obtain ⟨wz, hwz⟩ : ∃ X, X = wr := ⟨_, rfl⟩
     subst hwz
     have hbr2 := hbr
     clear hbr
     go_loopg [7] e.leaves.length (fun gg iv wr => ∃ (i : Nat), i + gg = e.leaves.length ∧ iv = .int .i64 (i : Int) ∧ Hid (e.leaves.take i = f.leaves.take i) ∧ Below w0.heap.size w0 wr)
     case atStart => exact ⟨0, by omega, rfl, Lib.hid rfl, hbr2⟩
     clear hbr2
     case round =>
      obtain ⟨i, hi, rfl, HT, hbr⟩ := hrel
      have hbe1 := hbe.kept hbr
      have hbg1 := hbg.kept hbr
      have ea := hbe1.cell 6 _ rfl
      have eb := hbg1.cell 6 _ rfl
      have hbw := hbf.trans (hbr.mono hbf.size)
      by_cases hil : i < e.leaves.length
      case pos =>
       have hz : (i : Int) < (e.leaves.length : Int) := by omega
       have hz0 : (0 : Int) ≤ (i : Int) := by omega
       have hil2 : i < f.leaves.length := by have := Q6.out; omega
       have hz2 : (i : Int) < (f.leaves.length : Int) := by omega
       obtain ⟨b1, o1, rfl⟩ := h4.addr hil
       obtain ⟨b2, o2, rfl⟩ := k4.addr hil2
       obtain ⟨x, hx⟩ : ∃ x, e.leaves[i] = x := ⟨_, rfl⟩
       obtain ⟨y, hy⟩ : ∃ x, f.leaves[i] = x := ⟨_, rfl⟩
       obtain ⟨c0, c1, c2, c3⟩ := RowC.c4 h4 hbw hil x hx
       obtain ⟨d0, d1, d2, d3⟩ := RowC.c4 k4 hbw hil2 y hy
       by_cases hxy : x = y
       case pos =>
        have HT2 := Lib.hid (take_grow hil hil2 HT.out (by rw [hx, hy, hxy]))
        subst hxy
        have hn : (!decide (x = x)) = false := by simp
        clear hx hy HT
        go_wp2_with fail
        go_quiet (fail)
        go_wp2_with fail
        go_roundg (gk - 1)
        case measure => omega
        case rel => exact ⟨i + 1, by omega, by first | rfl | go_num, HT2, ⟨hbr.os, hbr.tape, hbr.output, hbr.size, hbr.block⟩⟩
       case neg =>
        have hrf := rt_false _ HR.out (fun h => hxy (by rw [← hx, ← hy]; subst h; rfl))
        subst hrf
        clear hx hy HT HR
        by_cases g0 : x.tree = y.tree
        case neg =>
         clear hxy
         go_wp2_with fail
         go_quiet (fail)
         go_wp2_with fail
         go_ret
         exact ⟨rfl, ⟨hbw.os, hbw.tape, hbw.output, hbw.size, hbw.block⟩⟩
        case pos =>
        rw [← g0] at d0
        have G0 := Lib.hid g0
        clear g0
        by_cases g1 : x.node = y.node
        case neg =>
         clear hxy
         go_wp2_with fail
         go_quiet (fail)
         go_wp2_with fail
         go_ret
         exact ⟨rfl, ⟨hbw.os, hbw.tape, hbw.output, hbw.size, hbw.block⟩⟩
        case pos =>
        rw [← g1] at d1
        have G1 := Lib.hid g1
        clear g1
        by_cases g2 : x.tgt = y.tgt
        case neg =>
         clear hxy
         go_wp2_with fail
         go_quiet (fail)
         go_wp2_with fail
         go_ret
         exact ⟨rfl, ⟨hbw.os, hbw.tape, hbw.output, hbw.size, hbw.block⟩⟩
        case pos =>
        rw [← g2] at d2
        have G2 := Lib.hid g2
        clear g2
        have hlast : ¬ ((x.wt : Nat) : Int) = ((y.wt : Nat) : Int) := fun g3 => hxy (by have g0 := G0.out; have g1 := G1.out; have g2 := G2.out; clear G0 G1 G2; cases x; cases y; simp only at g0 g1 g2 g3; have g3n := Int.ofNat.inj g3; subst g0 g1 g2 g3n; rfl)
        clear hxy
        go_wp2_with fail
        go_quiet (fail)
        go_wp2_with fail
        go_ret
        exact ⟨rfl, ⟨hbw.os, hbw.tape, hbw.output, hbw.size, hbw.block⟩⟩
      case neg =>
       have hz : ¬ (i : Int) < (e.leaves.length : Int) := by omega
       have R6 := Lib.hid (take_end hil Q6.out HT.out)
       clear HT hil hi hbe1 hbg1
       have hrt : r = true := by rw [← HR.out]; exact decide_eq_true (by
        have a0 := Q0.out
        have a1 := Q1.out
        have a2 := Q2.out
        have a3 := Q3.out
        have a4 := R4.out
        have a5 := R5.out
        have a6 := R6.out
        cases e
        cases f
        simp only at a0 a1 a2 a3 a4 a5 a6
        subst a0 a1 a2 a3 a4 a5 a6
        rfl)
       subst hrt
       clear HR
       go_wp2_with fail
       go_ret
       exact ⟨rfl, hbw⟩
theorem take_of_pre {α : Type} {a b : List α} (h : a <+: b) : b.take a.length = a := by
 obtain ⟨t, rfl⟩ := h
 simp
theorem Owns.sl {base : Nat} {e : TypeId} {w : World} {v : Value} {xs : List Value} (h : Owns base e w v xs) : ∃ ao cap, v = .slice ao xs.length cap := by
 rcases h.shape with ⟨rfl, rfl⟩ | ⟨g, cap, rfl, _⟩
 ·exact ⟨none, 0, rfl⟩
 ·exact ⟨_, cap, rfl⟩
def cutW (stop : Int) (ws : List Nat) : List Nat := if 0 < stop then ws.take stop.toNat else ws
theorem IterU.up {α : Type} {P : Program} {gf : Nat} {lb : Array Value} {Enc : World → Value → α → Prop} {xs : List α} {U : Nat → Prop} {Kp : World → World → Prop} {w w' : World} (h : IterU P gf lb Enc xs U Kp w) (hb : Below w.heap.size w w') :
  IterU P gf lb Enc xs U Kp w' := fun l J Jx S0 W1 hW hS => h l J Jx S0 W1 (hb.trans (hW.mono hb.size)) hS
theorem patV_snoc (ws : List Nat) (x : Nat) : patV (ws ++ [x]) = patV ws ++ [.int .u64 (x : Int)] := by unfold patV; rw [List.map_append]; rfl
set_option maxHeartbeats 4000000 in
attribute [local go_sem] Oper.semAt_some field_nat in
theorem told22_any (gf : Nat) (lb : Array Value) (ws : List Nat) (stop : Int) (w : World) (hit0 : IterU Tryz.prog gf lb (fun _ v (x : Nat) => v = .int .u64 (x : Int)) ws (fun k => w.heap.size ≤ k) (fun _ _ => True) w) (eg : ∀ args w, (callFunc gf args).run Tryz.prog w = .ok (.enter gf args) w) (hl : ws.length ≤ 1000000) :
  Calls Tryz.prog 40 #[.func (.func gf) #[] lb, .int .i64 stop] w fun e w' => ∃ v, e = .returned v ∧ Owns w.heap.size 41 w' v (patV (cutW stop ws)) ∧ Below w.heap.size w w' := by
 refine (callsIn_wide (n := 0)).1 ?_
 refine callsIn_of_wp_marks Tryz.func40 rfl (by trivial) ?_ rfl
 simp only [Tryz.ntmps40, List.size_toArray, List.length_cons, List.length_nil, Nat.reduceAdd, Nat.reduceSub, Array.replicate_succ, Array.replicate_zero, List.push_toArray, List.append_toArray, List.nil_append, List.cons_append]
 gi_wp2_with fail
 obtain ⟨w0, hw0⟩ : ∃ w0, w0 = (w.alloc (.cells #[.int .i64 stop] 3)).alloc (.cells #[.slice none 0 0] 58) := ⟨_, rfl⟩
 have hbel : Below w.heap.size w w0 := by
  rw [hw0]; exact ((Below.refl _ w).alloc (Nat.le_refl _) _).alloc (by simp <;> omega) _
 have hsz0 : w0.heap.size = w.heap.size + 2 := by rw [hw0]; simp
 have hb3 : Box w0 w.heap.size (.int .i64 stop) := by
  rw [hw0]; exact ⟨by go_simp, by go_simp, by simp <;> omega⟩
 have hb5 : Box w0 (w.heap.size + 1) (.slice none 0 0) := by
  rw [hw0]; exact ⟨by go_simp, by go_simp, by simp <;> omega⟩
 rw [← hw0]
 clear hw0
 refine wp_rangeU (gf := gf) (lb := lb) rfl eg (hit0.up hbel) (fun _ _ _ _ _ => trivial) (fun _ _ _ => trivial) rfl (fun k hk => by omega)
  (fun pre S W => ∃ v, (S = fun k => k = w.heap.size + 1 ∨ v.ownBlock = some k) ∧ Box W w.heap.size (.int .i64 stop) ∧ Box W (w.heap.size + 1) v ∧ Owns (w.heap.size + 2) 41 W v (patV pre) ∧ Below w.heap.size w W ∧ (0 < stop → (pre.length : Int) < stop))
  (fun c pre S W => c = .exit 0 ∧ 0 < stop ∧ (pre.length : Int) = stop ∧ ∃ v, Box W (w.heap.size + 1) v ∧ Owns (w.heap.size + 2) 41 W v (patV pre) ∧ Below w.heap.size w W)
  ?_ ?_ (fun k => k = w.heap.size + 1) (fun k hk => ⟨by omega, by omega⟩) ?_
  (fun x a' W => a' = { tmps := #[.func (.func gf) #[] lb, .int .i64 stop, undef, .pointer (some ⟨w.heap.size, 0, none⟩), .slice none 0 0, .pointer (some ⟨w.heap.size + 1, 0, none⟩), .int .u64 (x : Int), .func (.func gf) #[] lb, .int .u64 (x : Int), undef, undef, undef, undef, undef, undef, undef, undef, undef], defers := [] })
  ?_ ?assign ?body ?done ?stop
 case assign =>
  rintro l pre x v S W K hi rfl hpre hK
  gi_wp2
  exact hK _ _ (Below.refl _ _) hi rfl
 case body =>
  rintro l pre x a' S W ⟨v, rfl, hB3, hB5, hO, hB, hlt⟩ rfl hpre hS
  have hpl : pre.length + 1 ≤ 1000000 := by
   have := hpre.length_le
   rw [List.length_append, List.length_singleton] at this
   omega
  have HPV := Lib.hid (patV_len pre)
  obtain ⟨ao, cap, rfl⟩ := hO.sl
  have e3 := hB3.cell
  have e5 := hB5.cell
  have f5 := hB5.free
  have hst : ((((pre.length + 1 : Nat)) : Int) == stop) = true ∨ ((((pre.length + 1 : Nat)) : Int) == stop) = false := by cases ((((pre.length + 1 : Nat)) : Int) == stop) <;> simp
  have HST := Lib.hid hst
  clear hst
  gi_wp2_with (gi_at_builtin; refine append1In E_u64 hO rfl rfl rfl rfl rfl (by rw [HPV.out]; omega) (by rw [HPV.out]; unfold maxLen; omega) (by have := hB5.lt; omega) ?_; intro v' w1 hO1 hb1 hg1 ho1 hp1; clear hp1; have hB31 := hB3.below hb1 (by omega); have hB51 := hB5.below hb1 (by omega); have e31 := hB31.cell; have e51 := hB51.cell; have f51 := hB51.free; obtain ⟨g, cap', rfl⟩ := owns_snoc hO1)
  all_goals
   have hft := grown_foot hg1 hB5.lt ho1 (.slice (some ⟨g, 0, none⟩) ((patV pre).length + 1) cap')
   have hgl := hO1.at_cells g rfl
   have hne : g ≠ w.heap.size + 1 := by omega
   have hgs := grownBy_set (grownBy_refl w1 (some (w.heap.size + 1))) 0 (.slice (some ⟨g, 0, none⟩) ((patV pre).length + 1) cap')
   have hfin : Below w.heap.size w (w1.setCell ⟨w.heap.size + 1, 0, none⟩ (.slice (some ⟨g, 0, none⟩) ((patV pre).length + 1) cap')) :=
    (hB.trans (hb1.mono (by omega))).setCell (p := ⟨w.heap.size + 1, 0, none⟩) (by simp) _
   have hO2 : Owns (w.heap.size + 2) 41 (w1.setCell ⟨w.heap.size + 1, 0, none⟩ (.slice (some ⟨g, 0, none⟩) ((patV pre).length + 1) cap')) (.slice (some ⟨g, 0, none⟩) ((patV pre).length + 1) cap') (patV (pre ++ [x])) := by
    rw [patV_snoc]
    exact hO1.of_block (fun k hk => by simp [Value.ownBlock] at hk; subst hk; exact hgs.block _ hgl.2.1 (by simpa using hne))
  ·rename_i hst
   have h9 := eq_of_beq hst
   rw [HPV.out] at h9
   exact ⟨_, ⟨rfl, by omega, by simp; omega, _, hB51.set _, hO2, hfin⟩, hft⟩
  ·rename_i hst
   rw [HPV.out] at hst
   have h2 : ¬ ((pre.length : Int) + 1 = stop) := by
    intro e; rw [beq_eq_false_iff_ne] at hst; exact hst e
   refine ⟨_, ⟨_, rfl, hB31.setOther (by omega) _ _, hB51.set _, hO2, hfin, fun h0 => ?_⟩, hft, fun k hk => ?_, trivial⟩
   ·have h1 := hlt h0
    simp; omega
   ·rcases hk with rfl | hk
    ·simpa using hB51.lt
    ·simp [Value.ownBlock] at hk
     subst hk
     simpa using hgl.2.1
 case done =>
  rintro D S W hD ⟨v, rfl, hB3, hB5, hO, hB, hlt⟩ hK
  have e5 := hB5.cell
  gi_wp2
  refine ⟨by simp, .inl ⟨_, _, rfl, run_takeDeferred hK, ?_⟩⟩
  have hx := ext_deferred hK
  have hfin : Owns w.heap.size 41 (W.putObj D (.deferred none)) v (patV ws) := (hO.ext hx).mono (by omega)
  have hbf := below_ext hB hx (by omega) hB.size
  refine ⟨_, results_tmp rfl _ _ _, ⟨_, rfl, ?_, hbf⟩⟩
  unfold cutW
  split
  ·rename_i h0
   rw [List.take_of_length_le (by have := hlt h0; omega)]
   exact hfin
  ·exact hfin
 case stop =>
  rintro D c pre S W hD hp ⟨rfl, h0, h1, v, hB5, hO, hB⟩ hK
  have e5 := hB5.cell
  gi_wp2
  refine ⟨by simp, .inl ⟨_, _, rfl, run_takeDeferred hK, ?_⟩⟩
  have hx := ext_deferred hK
  have hfin : Owns w.heap.size 41 (W.putObj D (.deferred none)) v (patV pre) := (hO.ext hx).mono (by omega)
  have hbf := below_ext hB hx (by omega) hB.size
  refine ⟨_, results_tmp rfl _ _ _, ⟨_, rfl, ?_, hbf⟩⟩
  unfold cutW
  rw [if_pos h0, show stop.toNat = pre.length by omega, take_of_pre hp]
  exact hfin
 ·rintro pre S W W' ⟨v, rfl, hB3, hB5, hO, hB, hlt⟩ hx
  exact ⟨v, rfl, hB3.ext hx, hB5.ext hx, hO.ext hx, below_ext hB hx (by omega) hB.size, hlt⟩
 ·rintro c pre S W W' ⟨rfl, h0, h1, v, hB5, hO, hB⟩ hx
  exact ⟨rfl, h0, h1, v, hB5.ext hx, hO.ext hx, below_ext hB hx (by omega) hB.size⟩
 ·exact ⟨.slice none 0 0, by funext k; simp [Value.ownBlock], hb3, hb5, Owns.nil _ _ _, hbel, fun h => by simpa using h⟩
 ·rintro x a' W W' rfl hx
  rfl
end Go.Proofs.YtcpfanpcdkoiaaaGreat
