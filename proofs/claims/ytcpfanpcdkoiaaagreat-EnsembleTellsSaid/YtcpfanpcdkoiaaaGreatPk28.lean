/-
  Pk28: SeqU LawSp BookA BookB BookC (what is needed of them).
-/
import Derived.Test.YtcpfanpcdkoiaaaGreatPk07
import Derived.Test.YtcpfanpcdkoiaaaGreatPk09
import Derived.Test.YtcpfanpcdkoiaaaGreatPk10
import Derived.Test.YtcpfanpcdkoiaaaGreatPk15
import Derived.Test.YtcpfanpcdkoiaaaGreatPk20
import Derived.Test.YtcpfanpcdkoiaaaGreatPk21
import Derived.Maps.AppendAt
import Derived.Deep.Upon
set_option maxRecDepth 100000
set_option linter.unusedVariables false
set_option linter.unusedSimpArgs false

namespace Go.Proofs.YtcpfanpcdkoiaaaGreat
open Go.RowKit


theorem OwnsK.toRow {α : Type} {K base : Nat} {e : TypeId} {w : World} {ao : Option Addr} {n cap : Nat} {enc : α → List Value} {xs : List α} (hk : ∀ x, (enc x).length = K) (h : OwnsK K base e w (.slice ao n cap) n (xs.flatMap enc)) (hn : n = xs.length) : RowC K enc w ao xs := by
 rcases h.shape with ⟨h0, h1⟩ | ⟨g, cap', e0, h2, h3, h4, h5, h6, h7⟩
 ·exact .inl (List.eq_nil_of_length_eq_zero (by omega))
 ·cases e0
  refine .inr ⟨g, 0, rfl, h3, fun i x hi j c hj => ?_⟩
  have h8 := flat_get hk xs i x j c hi hj
  rw [Nat.zero_add, h6 _ (by
   have h9 := (List.getElem?_eq_some_iff.1 h8).1
   have h10 := h.len
   omega), h8]
theorem OwnsK.stored {K base : Nat} {e : TypeId} {w : World} {g n cap : Nat} {xs : List Value} (h : OwnsK K base e w (.slice (some ⟨g, 0, none⟩) n cap) n xs) (j : Nat) (u : Value) : OwnsK K base e (w.setCell ⟨g, j, none⟩ u) (.slice (some ⟨g, 0, none⟩) n cap) n (xs.set j u) :=
 (World.ownsRow.stored h j u).1
def CN (w : World) (g i : Nat) (y : EN) : Prop := ∀ j c, (enC y)[j]? = some c → w.cell? ⟨g, i * 8 + j, none⟩ = some c
theorem CN.c8 {w : World} {g i : Nat} {y : EN} (h : CN w g i y) :
  w.cell? ⟨g, i * 8, none⟩ = some (.int .i64 y.tree) ∧ w.cell? ⟨g, i * 8 + 1, none⟩ = some (.int .i64 y.node) ∧ w.cell? ⟨g, i * 8 + 2, none⟩ = some (.int .i64 y.feat) ∧ w.cell? ⟨g, i * 8 + 3, none⟩ = some (.int .i64 y.mode) ∧ w.cell? ⟨g, i * 8 + 4, none⟩ = some (.int .u64 (y.val : Int)) ∧ w.cell? ⟨g, i * 8 + 5, none⟩ = some (.int .i64 y.tru) ∧ w.cell? ⟨g, i * 8 + 6, none⟩ = some (.int .i64 y.fls) ∧ w.cell? ⟨g, i * 8 + 7, none⟩ = some (.bool y.trk) :=
 ⟨h 0 _ rfl, h 1 _ rfl, h 2 _ rfl, h 3 _ rfl, h 4 _ rfl, h 5 _ rfl, h 6 _ rfl, h 7 _ rfl⟩
theorem OwnsK.node {base : Nat} {e : TypeId} {w : World} {g n cap : Nat} {xs : List EN} {i : Nat} {y : EN} (h : OwnsK 8 base e w (.slice (some ⟨g, 0, none⟩) n cap) n (xs.flatMap enC)) (hn : n = xs.length) (hi : xs[i]? = some y) : CN w g i y := by
 intro j c hj
 rcases OwnsK.toRow enC_len h hn with h9 | ⟨b, off, e9, h2, h3⟩
 ·rw [h9] at hi; simp at hi
 ·cases e9
  have := h3 i y hi j c hj
  rwa [Nat.zero_add] at this
theorem OwnsK.setOther {K base : Nat} {e : TypeId} {w : World} {v : Value} {n : Nat} {xs : List Value} (h : OwnsK K base e w v n xs) (p i : Nat) (u : Value) (hne : ∀ k, v.ownBlock = some k → p ≠ k) : OwnsK K base e (w.setCell ⟨p, i, none⟩ u) v n xs :=
 h.block fun k hk => (grownBy_set (grownBy_refl w (some p)) i u).block k (h.lt k hk).2 (by simp; exact fun e' => hne k hk e'.symm)
def ensB (e : EE) : Bool := decide (e.nodes.length ≤ 60) && (decide (e.leaves.length ≤ 60) && (decide (e.base.length ≤ 30) && decide (wrap64 ((e.agg.length : Int) + (e.post.length : Int)) ≤ 100)))
theorem ensB_out {e : EE} (h : ensB e = true) : e.nodes.length ≤ 60 ∧ e.leaves.length ≤ 60 ∧ e.base.length ≤ 30 := by
 unfold ensB at h
 simp only [Bool.and_eq_true, decide_eq_true_eq] at h
 exact ⟨h.1, h.2.1, h.2.2.1⟩
set_option maxHeartbeats 1000000 in
theorem ens_any (v : Value) (e : EE) (bo : Option Addr) (bc : Nat) (no : Option Addr) (nc : Nat) (lo : Option Addr) (lc : Nat) (w : World) (h : EnsIs w v e bo bc no nc lo lc) (r : Bool) (hr : ensB e = r) :
  Calls Tryz.prog 26 #[v] w fun e' w' => e' = .returned (.bool r) ∧ Below w.heap.size w w' := by
 obtain ⟨rfl, h1, h2, h4, h5, h3, h6, h7, h8, h9⟩ := h
 unfold ensB at hr
 obtain ⟨w0, hw0, hbf, pe, hpe, hbe⟩ := boxE w e bo bc no nc lo lc
 have HP : Hid (w.heap.size ≤ pe) := Lib.hid (by omega)
 have HW := Lib.hid hw0; clear hw0
 go_enter Tryz.func26, Tryz.ntmps26
 go_upto_region 1 with fail
 rw [← HW.out, ← hpe]
 clear hpe HW
 obtain ⟨ee0, ee1, ee2, ee3, ee4, ee5, ee6⟩ := hbe.c7
 by_cases q0 : e.nodes.length ≤ 60
 case neg =>
  have z : ¬ (e.nodes.length : Int) ≤ 60 := by omega
  have hr2 : r = false := by rw [← hr]; simp only [q0, decide_true, decide_false, Bool.true_and, Bool.false_and]
  subst hr2
  clear hr
  go_wp2_with fail
  go_ret
  exact ⟨rfl, hbf⟩
 have z0 : (e.nodes.length : Int) ≤ 60 := by omega
 by_cases q1 : e.leaves.length ≤ 60
 case neg =>
  have z : ¬ (e.leaves.length : Int) ≤ 60 := by omega
  have hr2 : r = false := by rw [← hr]; simp only [q0, q1, decide_true, decide_false, Bool.true_and, Bool.false_and]
  subst hr2
  clear hr
  go_wp2_with fail
  go_ret
  exact ⟨rfl, hbf⟩
 have z1 : (e.leaves.length : Int) ≤ 60 := by omega
 by_cases q2 : e.base.length ≤ 30
 case neg =>
  have z : ¬ (e.base.length : Int) ≤ 30 := by omega
  have hr2 : r = false := by rw [← hr]; simp only [q0, q1, q2, decide_true, decide_false, Bool.true_and, Bool.false_and]
  subst hr2
  clear hr
  go_wp2_with fail
  go_ret
  exact ⟨rfl, hbf⟩
 have z2 : (e.base.length : Int) ≤ 30 := by omega
 have hr2 : decide (wrap64 ((e.agg.length : Int) + (e.post.length : Int)) ≤ 100) = r := by rw [← hr]; simp only [q0, q1, q2, decide_true, Bool.true_and]
 clear hr
 subst hr2
 go_wp2_with fail
 go_ret
 exact ⟨rfl, hbf⟩
end Go.Proofs.YtcpfanpcdkoiaaaGreat

namespace Go.Proofs.YtcpfanpcdkoiaaaGreat
open Go.RowKit Go.Shelf


theorem stillTexts_no (p : Nat) (w : World) (h : w.cell? ⟨p, 0, none⟩ = some (.slice none 0 0)) :
  Calls Tryz.prog 57 #[.pointer (some ⟨p, 0, none⟩)] w fun e w' => e = .returned (.bool true) ∧ Below w.heap.size w w' := by
 have hl := World.block_lt_of_cell? w ⟨p, 0, none⟩ h
 go_enter Tryz.func57, Tryz.ntmps57
 go_wp2_with fail
 go_loopg [3] 0 (fun gg iv wr => iv = .int .i64 0 ∧ Below w.heap.size w wr)
 case atStart => exact ⟨rfl, Below.refl _ _⟩
 case round =>
  obtain ⟨rfl, hbr⟩ := hrel
  have ec := (hbr.cell (p := ⟨p, 0, none⟩) hl).trans h
  go_wp2_with fail
  go_ret
  exact ⟨rfl, hbr⟩
theorem putTexts_no (p : Nat) (w : World) (h : w.cell? ⟨p, 0, none⟩ = some (.slice none 0 0)) :
  Calls Tryz.prog 64 #[.pointer (some ⟨p, 0, none⟩)] w fun e w' => e = .returned (.tuple #[]) ∧ Below w.heap.size w w' := by
 have hl := World.block_lt_of_cell? w ⟨p, 0, none⟩ h
 go_enter Tryz.func64, Tryz.ntmps64
 go_wp2_with fail
 go_loopg [2] 0 (fun gg iv wr => iv = .int .i64 0 ∧ Below w.heap.size w wr)
 case atStart => exact ⟨rfl, Below.refl _ _⟩
 case round =>
  obtain ⟨rfl, hbr⟩ := hrel
  have ec := (hbr.cell (p := ⟨p, 0, none⟩) hl).trans h
  go_wp2_with fail
  go_end0
  exact ⟨rfl, hbr⟩
theorem growTexts_no (p : Nat) (w : World) (h : w.cell? ⟨p, 0, none⟩ = some (.slice none 0 0)) :
  Calls Tryz.prog 69 #[.pointer (some ⟨p, 0, none⟩)] w fun e w' => e = .returned (.slice none 0 0) ∧ Below w.heap.size w w' := by
 have hl := World.block_lt_of_cell? w ⟨p, 0, none⟩ h
 go_enter Tryz.func69, Tryz.ntmps69
 go_wp2_with fail
 go_loopg [3, 4] 0 (fun gg ov iv wr => ov = .slice none 0 0 ∧ iv = .int .i64 0 ∧ Below w.heap.size w wr)
 case atStart => exact ⟨rfl, rfl, Below.refl _ _⟩
 case round =>
  obtain ⟨rfl, rfl, hbr⟩ := hrel
  have ec := (hbr.cell (p := ⟨p, 0, none⟩) hl).trans h
  go_wp2_with fail
  go_ret
  exact ⟨rfl, hbr⟩
theorem markedTexts_no (w : World) :
  Calls Tryz.prog 75 #[.slice none 0 0] w fun e w' => e = .returned (.bool true) ∧ Below w.heap.size w w' := by
 go_enter Tryz.func75, Tryz.ntmps75
 go_wp2_with fail
 go_loopg [3] 0 (fun gg iv wr => iv = .int .i64 0 ∧ Below w.heap.size w wr)
 case atStart => exact ⟨rfl, Below.refl _ _⟩
 case round =>
  obtain ⟨rfl, hbr⟩ := hrel
  go_wp2_with fail
  go_ret
  exact ⟨rfl, hbr⟩
theorem stillPats_no (p : Nat) (w : World) (h : w.cell? ⟨p, 4, none⟩ = some (.slice none 0 0)) :
  Calls Tryz.prog 59 #[.pointer (some ⟨p, 0, none⟩)] w fun e w' => e = .returned (.bool true) ∧ Below w.heap.size w w' := by
 have hl := World.block_lt_of_cell? w ⟨p, 4, none⟩ h
 go_enter Tryz.func59, Tryz.ntmps59
 go_wp2_with fail
 go_loopg [3] 0 (fun gg iv wr => iv = .int .i64 0 ∧ Below w.heap.size w wr)
 case atStart => exact ⟨rfl, Below.refl _ _⟩
 case round =>
  obtain ⟨rfl, hbr⟩ := hrel
  have ec := (hbr.cell (p := ⟨p, 4, none⟩) hl).trans h
  go_wp2_with fail
  go_ret
  exact ⟨rfl, hbr⟩
theorem putPats_no (p : Nat) (w : World) (h : w.cell? ⟨p, 4, none⟩ = some (.slice none 0 0)) :
  Calls Tryz.prog 66 #[.pointer (some ⟨p, 0, none⟩)] w fun e w' => e = .returned (.tuple #[]) ∧ Below w.heap.size w w' := by
 have hl := World.block_lt_of_cell? w ⟨p, 4, none⟩ h
 go_enter Tryz.func66, Tryz.ntmps66
 go_wp2_with fail
 go_loopg [2] 0 (fun gg iv wr => iv = .int .i64 0 ∧ Below w.heap.size w wr)
 case atStart => exact ⟨rfl, Below.refl _ _⟩
 case round =>
  obtain ⟨rfl, hbr⟩ := hrel
  have ec := (hbr.cell (p := ⟨p, 4, none⟩) hl).trans h
  go_wp2_with fail
  go_end0
  exact ⟨rfl, hbr⟩
theorem growPats_no (p : Nat) (w : World) (h : w.cell? ⟨p, 4, none⟩ = some (.slice none 0 0)) :
  Calls Tryz.prog 71 #[.pointer (some ⟨p, 0, none⟩)] w fun e w' => e = .returned (.slice none 0 0) ∧ Below w.heap.size w w' := by
 have hl := World.block_lt_of_cell? w ⟨p, 4, none⟩ h
 go_enter Tryz.func71, Tryz.ntmps71
 go_wp2_with fail
 go_loopg [3, 4] 0 (fun gg ov iv wr => ov = .slice none 0 0 ∧ iv = .int .i64 0 ∧ Below w.heap.size w wr)
 case atStart => exact ⟨rfl, rfl, Below.refl _ _⟩
 case round =>
  obtain ⟨rfl, rfl, hbr⟩ := hrel
  have ec := (hbr.cell (p := ⟨p, 4, none⟩) hl).trans h
  go_wp2_with fail
  go_ret
  exact ⟨rfl, hbr⟩
theorem markedPats_no (w : World) :
  Calls Tryz.prog 77 #[.slice none 0 0] w fun e w' => e = .returned (.bool true) ∧ Below w.heap.size w w' := by
 go_enter Tryz.func77, Tryz.ntmps77
 go_wp2_with fail
 go_loopg [3] 0 (fun gg iv wr => iv = .int .i64 0 ∧ Below w.heap.size w wr)
 case atStart => exact ⟨rfl, Below.refl _ _⟩
 case round =>
  obtain ⟨rfl, hbr⟩ := hrel
  go_wp2_with fail
  go_ret
  exact ⟨rfl, hbr⟩
theorem stillDiags_no (p : Nat) (w : World) (h : w.cell? ⟨p, 6, none⟩ = some (.slice none 0 0)) :
  Calls Tryz.prog 60 #[.pointer (some ⟨p, 0, none⟩)] w fun e w' => e = .returned (.bool true) ∧ Below w.heap.size w w' := by
 have hl := World.block_lt_of_cell? w ⟨p, 6, none⟩ h
 go_enter Tryz.func60, Tryz.ntmps60
 go_wp2_with fail
 go_loopg [3] 0 (fun gg iv wr => iv = .int .i64 0 ∧ Below w.heap.size w wr)
 case atStart => exact ⟨rfl, Below.refl _ _⟩
 case round =>
  obtain ⟨rfl, hbr⟩ := hrel
  have ec := (hbr.cell (p := ⟨p, 6, none⟩) hl).trans h
  go_wp2_with fail
  go_ret
  exact ⟨rfl, hbr⟩
theorem putDiags_no (p : Nat) (w : World) (h : w.cell? ⟨p, 6, none⟩ = some (.slice none 0 0)) :
  Calls Tryz.prog 67 #[.pointer (some ⟨p, 0, none⟩)] w fun e w' => e = .returned (.tuple #[]) ∧ Below w.heap.size w w' := by
 have hl := World.block_lt_of_cell? w ⟨p, 6, none⟩ h
 go_enter Tryz.func67, Tryz.ntmps67
 go_wp2_with fail
 go_loopg [2] 0 (fun gg iv wr => iv = .int .i64 0 ∧ Below w.heap.size w wr)
 case atStart => exact ⟨rfl, Below.refl _ _⟩
 case round =>
  obtain ⟨rfl, hbr⟩ := hrel
  have ec := (hbr.cell (p := ⟨p, 6, none⟩) hl).trans h
  go_wp2_with fail
  go_end0
  exact ⟨rfl, hbr⟩
theorem growDiags_no (p : Nat) (w : World) (h : w.cell? ⟨p, 6, none⟩ = some (.slice none 0 0)) :
  Calls Tryz.prog 72 #[.pointer (some ⟨p, 0, none⟩)] w fun e w' => e = .returned (.slice none 0 0) ∧ Below w.heap.size w w' := by
 have hl := World.block_lt_of_cell? w ⟨p, 6, none⟩ h
 go_enter Tryz.func72, Tryz.ntmps72
 go_wp2_with fail
 go_loopg [3, 4] 0 (fun gg ov iv wr => ov = .slice none 0 0 ∧ iv = .int .i64 0 ∧ Below w.heap.size w wr)
 case atStart => exact ⟨rfl, rfl, Below.refl _ _⟩
 case round =>
  obtain ⟨rfl, rfl, hbr⟩ := hrel
  have ec := (hbr.cell (p := ⟨p, 6, none⟩) hl).trans h
  go_wp2_with fail
  go_ret
  exact ⟨rfl, hbr⟩
theorem markedDiags_no (w : World) :
  Calls Tryz.prog 78 #[.slice none 0 0] w fun e w' => e = .returned (.bool true) ∧ Below w.heap.size w w' := by
 go_enter Tryz.func78, Tryz.ntmps78
 go_wp2_with fail
 go_loopg [3] 0 (fun gg iv wr => iv = .int .i64 0 ∧ Below w.heap.size w wr)
 case atStart => exact ⟨rfl, Below.refl _ _⟩
 case round =>
  obtain ⟨rfl, hbr⟩ := hrel
  go_wp2_with fail
  go_ret
  exact ⟨rfl, hbr⟩
theorem stillValues_no (p : Nat) (w : World) (h : w.cell? ⟨p, 8, none⟩ = some (.slice none 0 0)) :
  Calls Tryz.prog 61 #[.pointer (some ⟨p, 0, none⟩)] w fun e w' => e = .returned (.bool true) ∧ Below w.heap.size w w' := by
 have hl := World.block_lt_of_cell? w ⟨p, 8, none⟩ h
 go_enter Tryz.func61, Tryz.ntmps61
 go_wp2_with fail
 go_loopg [3] 0 (fun gg iv wr => iv = .int .i64 0 ∧ Below w.heap.size w wr)
 case atStart => exact ⟨rfl, Below.refl _ _⟩
 case round =>
  obtain ⟨rfl, hbr⟩ := hrel
  have ec := (hbr.cell (p := ⟨p, 8, none⟩) hl).trans h
  go_wp2_with fail
  go_ret
  exact ⟨rfl, hbr⟩
theorem putValues_no (p : Nat) (w : World) (h : w.cell? ⟨p, 8, none⟩ = some (.slice none 0 0)) :
  Calls Tryz.prog 68 #[.pointer (some ⟨p, 0, none⟩)] w fun e w' => e = .returned (.tuple #[]) ∧ Below w.heap.size w w' := by
 have hl := World.block_lt_of_cell? w ⟨p, 8, none⟩ h
 go_enter Tryz.func68, Tryz.ntmps68
 go_wp2_with fail
 go_loopg [2] 0 (fun gg iv wr => iv = .int .i64 0 ∧ Below w.heap.size w wr)
 case atStart => exact ⟨rfl, Below.refl _ _⟩
 case round =>
  obtain ⟨rfl, hbr⟩ := hrel
  have ec := (hbr.cell (p := ⟨p, 8, none⟩) hl).trans h
  go_wp2_with fail
  go_end0
  exact ⟨rfl, hbr⟩
theorem growValues_no (p : Nat) (w : World) (h : w.cell? ⟨p, 8, none⟩ = some (.slice none 0 0)) :
  Calls Tryz.prog 73 #[.pointer (some ⟨p, 0, none⟩)] w fun e w' => e = .returned (.slice none 0 0) ∧ Below w.heap.size w w' := by
 have hl := World.block_lt_of_cell? w ⟨p, 8, none⟩ h
 go_enter Tryz.func73, Tryz.ntmps73
 go_wp2_with fail
 go_loopg [3, 4] 0 (fun gg ov iv wr => ov = .slice none 0 0 ∧ iv = .int .i64 0 ∧ Below w.heap.size w wr)
 case atStart => exact ⟨rfl, rfl, Below.refl _ _⟩
 case round =>
  obtain ⟨rfl, rfl, hbr⟩ := hrel
  have ec := (hbr.cell (p := ⟨p, 8, none⟩) hl).trans h
  go_wp2_with fail
  go_ret
  exact ⟨rfl, hbr⟩
theorem markedValues_no (w : World) :
  Calls Tryz.prog 79 #[.slice none 0 0] w fun e w' => e = .returned (.bool true) ∧ Below w.heap.size w w' := by
 go_enter Tryz.func79, Tryz.ntmps79
 go_wp2_with fail
 go_loopg [3] 0 (fun gg iv wr => iv = .int .i64 0 ∧ Below w.heap.size w wr)
 case atStart => exact ⟨rfl, Below.refl _ _⟩
 case round =>
  obtain ⟨rfl, hbr⟩ := hrel
  go_wp2_with fail
  go_ret
  exact ⟨rfl, hbr⟩
theorem stillSteps_no (p : Nat) (w : World) (h : w.cell? ⟨p, 10, none⟩ = some (.slice none 0 0)) :
  Calls Tryz.prog 62 #[.pointer (some ⟨p, 0, none⟩)] w fun e w' => e = .returned (.bool true) ∧ Below w.heap.size w w' := by
 have hl := World.block_lt_of_cell? w ⟨p, 10, none⟩ h
 go_enter Tryz.func62, Tryz.ntmps62
 go_wp2_with fail
 go_loopg [3] 0 (fun gg iv wr => iv = .int .i64 0 ∧ Below w.heap.size w wr)
 case atStart => exact ⟨rfl, Below.refl _ _⟩
 case round =>
  obtain ⟨rfl, hbr⟩ := hrel
  have ec := (hbr.cell (p := ⟨p, 10, none⟩) hl).trans h
  go_wp2_with fail
  go_ret
  exact ⟨rfl, hbr⟩
theorem putSteps_no (p : Nat) (w : World) (h : w.cell? ⟨p, 10, none⟩ = some (.slice none 0 0)) :
  Calls Tryz.prog 63 #[.pointer (some ⟨p, 0, none⟩)] w fun e w' => e = .returned (.tuple #[]) ∧ Below w.heap.size w w' := by
 have hl := World.block_lt_of_cell? w ⟨p, 10, none⟩ h
 go_enter Tryz.func63, Tryz.ntmps63
 go_wp2_with fail
 go_loopg [2] 0 (fun gg iv wr => iv = .int .i64 0 ∧ Below w.heap.size w wr)
 case atStart => exact ⟨rfl, Below.refl _ _⟩
 case round =>
  obtain ⟨rfl, hbr⟩ := hrel
  have ec := (hbr.cell (p := ⟨p, 10, none⟩) hl).trans h
  go_wp2_with fail
  go_end0
  exact ⟨rfl, hbr⟩
theorem growSteps_no (p : Nat) (w : World) (h : w.cell? ⟨p, 10, none⟩ = some (.slice none 0 0)) :
  Calls Tryz.prog 74 #[.pointer (some ⟨p, 0, none⟩)] w fun e w' => e = .returned (.slice none 0 0) ∧ Below w.heap.size w w' := by
 have hl := World.block_lt_of_cell? w ⟨p, 10, none⟩ h
 go_enter Tryz.func74, Tryz.ntmps74
 go_wp2_with fail
 go_loopg [3, 4] 0 (fun gg ov iv wr => ov = .slice none 0 0 ∧ iv = .int .i64 0 ∧ Below w.heap.size w wr)
 case atStart => exact ⟨rfl, rfl, Below.refl _ _⟩
 case round =>
  obtain ⟨rfl, rfl, hbr⟩ := hrel
  have ec := (hbr.cell (p := ⟨p, 10, none⟩) hl).trans h
  go_wp2_with fail
  go_ret
  exact ⟨rfl, hbr⟩
theorem markedSteps_no (w : World) :
  Calls Tryz.prog 80 #[.slice none 0 0] w fun e w' => e = .returned (.bool true) ∧ Below w.heap.size w w' := by
 go_enter Tryz.func80, Tryz.ntmps80
 go_wp2_with fail
 go_loopg [3] 0 (fun gg iv wr => iv = .int .i64 0 ∧ Below w.heap.size w wr)
 case atStart => exact ⟨rfl, Below.refl _ _⟩
 case round =>
  obtain ⟨rfl, hbr⟩ := hrel
  go_wp2_with fail
  go_ret
  exact ⟨rfl, hbr⟩
def markI (i from' n : Nat) : List Int := (List.range n).map fun k => -1000000 * (i : Int) - ((from' + k : Nat) : Int) - 7
theorem markI_len (i f n : Nat) : (markI i f n).length = n := by unfold markI; simp
theorem markI_succ (i f n : Nat) : markI i f (n + 1) = markI i f n ++ [-1000000 * (i : Int) - ((f + n : Nat) : Int) - 7] := by
 unfold markI; rw [List.range_succ, List.map_append]; rfl
theorem markI_add (i f m n : Nat) : markI i f (m + n) = markI i f m ++ markI i (f + m) n := by
 induction n with
 | zero => simp [markI]
 | succ n ih => rw [← Nat.add_assoc, markI_succ, ih, markI_succ, List.append_assoc, Nat.add_assoc]
theorem markInts_any (i f n : Nat) (w : World) (hi : i ≤ 1000) (hf : f ≤ 10000000) (hn : n ≤ 10000000) :
  Calls Tryz.prog 121 #[.int .i64 (i : Int), .int .i64 (f : Int), .int .i64 (n : Int)] w fun e w' => ∃ r, e = .returned r ∧ Owns w.heap.size 3 w' r (ivals .i64 (markI i f n)) ∧ Below w.heap.size w w' := by
 go_enter Tryz.func121, Tryz.ntmps121
 go_wp2_with fail
 go_loopg [7, 8] n (fun gg ov kv wr => ∃ k : Nat, k + gg = n ∧ kv = .int .i64 ((f : Int) + (k : Int)) ∧ Owns w.heap.size 3 wr ov (ivals .i64 (markI i f k)) ∧ Below w.heap.size w wr)
 case atStart => exact ⟨0, by omega, by simp, by simpa [ivals, markI] using Owns.nil _ _ _, Below.refl _ _⟩
 case round =>
  obtain ⟨k, hk, rfl, hO, hbr⟩ := hrel
  have hlen : (ivals .i64 (markI i f k)).length = k := by rw [ivals_length, markI_len]
  have w1 : IntKind.i64.wrap ((f : Int) + (n : Int)) = (f : Int) + (n : Int) := IntWalk.i64_in _ (by omega)
  by_cases hkn : k < n
  ·have hz : (f : Int) + (k : Int) < (f : Int) + (n : Int) := by omega
   have w2 : IntKind.i64.wrap (-1000000 * (i : Int)) = -1000000 * (i : Int) := IntWalk.i64_in _ (by omega)
   have w3 : IntKind.i64.wrap (-1000000 * (i : Int) - ((f : Int) + (k : Int))) = -1000000 * (i : Int) - ((f : Int) + (k : Int)) := IntWalk.i64_in _ (by omega)
   have w4 : IntKind.i64.wrap (-1000000 * (i : Int) - ((f : Int) + (k : Int)) - 7) = -1000000 * (i : Int) - ((f : Int) + (k : Int)) - 7 := IntWalk.i64_in _ (by omega)
   have w5 : IntKind.i64.wrap ((f : Int) + (k : Int) + 1) = (f : Int) + (k : Int) + 1 := IntWalk.i64_in _ (by omega)
   have HM := Lib.hid (markI_succ i f k)
   go_wp2_with (at_builtin; refine append1 E_ints hO rfl rfl rfl rfl rfl (by rw [hlen]; omega) (by rw [hlen]; unfold maxLen; omega) hbr.size ?_; intro v6 w6 ho6 hb6 hg6)
   go_roundg (gk - 1)
   case measure => omega
   case rel => exact ⟨k + 1, by omega, by first | (congr 1; omega) | go_num, by rw [HM.out]; simpa [ivals, Int.natCast_add] using ho6, hbr.trans hb6⟩
  ·have hz : ¬ (f : Int) + (k : Int) < (f : Int) + (n : Int) := by omega
   obtain rfl : k = n := by omega
   go_wp2_with fail
   go_ret
   exact ⟨_, rfl, hO, hbr⟩
end Go.Proofs.YtcpfanpcdkoiaaaGreat

namespace Go.Proofs.YtcpfanpcdkoiaaaGreat
open Go.RowKit Go.Shelf


theorem run_appX {P : Program} {t e : TypeId} {z : Value} {bytes : Nat} (E : Elem P t e z bytes) (ty : TypeId) {w : World} {base : Nat} {v : Value} {xs : List Value} (hown : Owns base e w v xs)
  (ad : Addr) (c : Nat) (us : List Value) (hu : ∀ j u', us[j]? = some u' → w.cell? (ad.add j) = some u') (h1 : ∀ u ∈ us, u.oneCell' = true) (hl : (xs.length + us.length) * bytes ≤ 140737488355328) (hm : xs.length + us.length ≤ maxLen) (hbase : base ≤ w.heap.size) :
  ∃ v' w', (Builtin.append_ #[t, t] ty #[v, .slice (some ad) us.length c]).run P w = .ok v' w' ∧ Owns base e w' v' (xs ++ us) ∧ w.grownBy w' v.ownBlock ∧ (v'.ownBlock = v.ownBlock ∨ v'.ownBlock = some w.heap.size) ∧
   (∀ g, v.ownBlock = some g → ∀ j, j < xs.length → w'.cell? ⟨g, j, none⟩ = w.cell? ⟨g, j, none⟩) := by
 obtain ⟨i, hi, hz, h4, h5⟩ := E.info
 obtain ⟨v', w', hrun, r1, r2, _, r5⟩ := run_append_own_at (P := P) w base t ty e i z 1 bytes E.und hi hz h4 h5 E.one (by decide) v xs.length xs hown ad us.length c us (by simp) hu h1 hm hl hbase
 refine ⟨v', w', hrun, by unfold Owns; simpa using r1, r2, r5, ?_⟩
 intro g hg j hj
 rcases hown.shape with ⟨rfl, _⟩ | ⟨g', cap', rfl, k1, k2, k3, k4, k5, _⟩
 ·simp [Value.ownBlock] at hg
 have hgg : g' = g := by simpa [Value.ownBlock] using hg
 subst hgg
 obtain ⟨_, ⟨h0, _⟩ | ⟨g9, cap9, cur, e9, q1, q2, q3, q4, q5, q6⟩⟩ := hown
 ·cases h0
 injection e9 with e9 e10 e11
 injection e9 with e9
 injection e9 with e9
 subst e9 e11
 by_cases hroom : xs.length + us.length ≤ cap'
 ·have hr := run_append_room (P := P) w t ty e i E.und hi g' xs.length cap' cur q2 ad us.length c us (by rw [h4]; omega) hu h1 hroom (by rw [h4]; simp at q5; omega)
  rw [hr] at hrun
  injection hrun with e1 e2
  subst e1
  rcases OwnsK.shape (K := 1) r1 with ⟨h0, _⟩ | ⟨g2, cap2, e0, m1, m2, m3, m4, m5, _⟩
  ·cases h0
  injection e0 with e0 _ _
  injection e0 with e0
  injection e0 with e0
  subst e0
  rw [m5 j (by omega), k5 j hj, List.getElem?_append_left hj]
 ·have hr := run_append_grow (P := P) w t ty e i z E.und hi hz ⟨g', 0, none⟩ xs.length cap' xs (by rw [h4]; omega) (fun j u hj => by rw [Addr.add_lit, Nat.zero_add, k5 j (List.getElem?_eq_some_iff.1 hj).1]; exact hj) ad us.length c us (by rw [h4]; omega) hu (by omega) (by simp only [maxLen] at hm; omega) (growslice_fits (by omega) (by rw [h5]; exact hl))
  rw [hr] at hrun
  injection hrun with e1 e2
  subst e2
  exact World.cell?_of_block (w := w) (a := ⟨g', j, none⟩) (Below.heap_alloc _ _ _ k2)
end Go.Proofs.YtcpfanpcdkoiaaaGreat

namespace Go.Proofs.YtcpfanpcdkoiaaaGreat
open Go.RowKit Go.Shelf


def VView (w : World) (v : Value) (xs : List Value) : Prop := ∃ ao cap, v = .slice ao xs.length cap ∧ xs.length ≤ cap ∧ cap ≤ maxLen ∧ ∀ i x, xs[i]? = some x → ∃ b, ao = some ⟨b, 0, none⟩ ∧ b < w.heap.size ∧ w.cell? ⟨b, i, none⟩ = some x
theorem VView.below {w W : World} {v : Value} {xs : List Value} (h : VView w v xs) (hb : Below w.heap.size w W) : VView W v xs := by
 obtain ⟨ao, cap, h1, h2, h3, h4⟩ := h
 refine ⟨ao, cap, h1, h2, h3, fun i x hx => ?_⟩
 obtain ⟨b, e1, e2, e3⟩ := h4 i x hx
 exact ⟨b, e1, Nat.lt_of_lt_of_le e2 hb.size, (hb.cell (p := ⟨b, i, none⟩) e2).trans e3⟩
theorem VView.of {B : Nat} {e : TypeId} {w : World} {v : Value} {xs : List Value} (h : Owns B e w v xs) : VView w v xs := by
 rcases h.shape with ⟨rfl, rfl⟩ | ⟨g, cap, rfl, k1, k2, k3, k4, k5, _⟩
 ·exact ⟨none, 0, rfl, Nat.le_refl _, Nat.zero_le _, fun i x hx => by simp at hx⟩
 ·exact ⟨_, _, rfl, k3, k4, fun i x hx => ⟨g, rfl, k2, (k5 i (List.getElem?_eq_some_iff.1 hx).1).trans hx⟩⟩
theorem ivals_getZ {xs : List Int} {j : Nat} {u : Value} (h : (ivals .i64 xs)[j]? = some u) : j < xs.length ∧ u = .int .i64 (xs[j]?.getD 0) := by
 unfold ivals at h
 rw [List.getElem?_map] at h
 cases hq : xs[j]? with
 | none => rw [hq] at h; cases h
 | some x =>
  rw [hq] at h
  exact ⟨(List.getElem?_eq_some_iff.1 hq).1, (Option.some.inj h).symm⟩
theorem ivals_oneZ (xs : List Int) : ∀ u ∈ ivals .i64 xs, u.oneCell' = true := by
 intro u hu
 obtain ⟨_, _, rfl⟩ := List.mem_map.1 hu
 rfl
theorem copyInts_any (v : Value) (ns : List Int) (w : World) (h : IntsN .i64 w v ns) (hl : ns.length ≤ 1000000) :
  Calls Tryz.prog 55 #[v] w fun e w' => ∃ r, e = .returned r ∧ Owns w.heap.size 3 w' r (ivals .i64 ns) ∧ Below w.heap.size w w' := by
 obtain ⟨⟨ao, cap, rfl, h1, h2, h3⟩, h4⟩ := h
 go_enter Tryz.func55, Tryz.ntmps55
 cases ao with
 | none =>
  have hc := h4 _ _ rfl
  subst hc
  have h0 : ns.length = 0 := by omega
  have hn : ns = [] := List.eq_nil_of_length_eq_zero h0
  subst hn
  go_wp2_with fail
  go_ret
  exact ⟨_, rfl, by simpa [ivals] using Owns.nil _ _ _, Below.refl _ _⟩
 | some ad =>
  have hcell : ∀ j u, (ivals .i64 ns)[j]? = some u → w.cell? (ad.add j) = some u := by
   intro j u hj
   obtain ⟨hj1, rfl⟩ := ivals_getZ hj
   rcases h3 with rfl | ⟨b, off, e1, e2, e3⟩
   ·simp at hj1
   ·obtain rfl := Option.some.inj e1
    rw [Addr.add_lit]
    exact e3 j hj1
  have hll := ivals_length .i64 ns
  go_wp2_with (at_builtin; refine appendN E_ints (ys := ivals .i64 ns) (Owns.nil w.heap.size 3 w) rfl rfl rfl (by rw [hll]; rfl) hcell (ivals_oneZ _) (by rw [hll]; simp; omega) (by rw [hll]; unfold maxLen; simp; omega) (Nat.le_refl _) ?_; intro v6 w6 ho6 hb6 hg6)
  go_ret
  exact ⟨_, rfl, by simpa using ho6, hb6⟩
set_option maxHeartbeats 2000000 in
theorem stillInts_any (p : Nat) (bi bw : Value) (vs us : List Value) (ls : List (List Int)) (w : World) (h2 : w.cell? ⟨p, 2, none⟩ = some bi) (h3 : w.cell? ⟨p, 3, none⟩ = some bw) (hv : VView w bi vs) (hu : VView w bw us) (hlv : vs.length = ls.length) (hlu : us.length = ls.length)
  (hr : ∀ (i : Nat) (v : Value) (ns : List Int), vs[i]? = some v → ls[i]? = some ns → IntsI .i64 w v ns) (hs : ∀ (i : Nat) (v : Value) (ns : List Int), us[i]? = some v → ls[i]? = some ns → IntsI .i64 w v ns) :
  Calls Tryz.prog 58 #[.pointer (some ⟨p, 0, none⟩)] w fun e w' => e = .returned (.bool true) ∧ Below w.heap.size w w' := by
 obtain ⟨ao, ca9, rfl, ha1, ha2, ha3⟩ := hv
 obtain ⟨bo, cb9, rfl, hb1, hb2, hb3⟩ := hu
 have HLV := Lib.hid hlv
 have HLU := Lib.hid hlu
 clear hlv hlu
 have hl2 := World.block_lt_of_cell? w ⟨p, 2, none⟩ h2
 unfold maxLen at ha2 hb2
 have hvm : vs.length ≤ 9223372036854775807 := by omega
 go_enter Tryz.func58, Tryz.ntmps58
 go_wp2_with fail
 go_loopg [3] vs.length (fun gg iv wr => ∃ i : Nat, i + gg = vs.length ∧ iv = .int .i64 (i : Int) ∧ Below w.heap.size w wr)
 case atStart => exact ⟨0, by omega, rfl, Below.refl _ _⟩
 case round =>
  obtain ⟨i, hi, rfl, hbr⟩ := hrel
  have e2 := (hbr.cell (p := ⟨p, 2, none⟩) hl2).trans h2
  by_cases hil : i < vs.length
  ·have hz : (i : Int) < (vs.length : Int) := by omega
   have hz0 : (0 : Int) ≤ (i : Int) := by omega
   have hzu : (i : Int) < (us.length : Int) := by rw [HLU.out, ← HLV.out]; exact hz
   have e3 := (hbr.cell (p := ⟨p, 3, none⟩) hl2).trans h3
   have hiu : i < us.length := by rw [HLU.out, ← HLV.out]; exact hil
   have hils : i < ls.length := by rw [← HLV.out]; exact hil
   obtain ⟨va, hva⟩ : ∃ v, vs[i]? = some v := ⟨_, List.getElem?_eq_getElem hil⟩
   obtain ⟨vb, hvb⟩ : ∃ v, us[i]? = some v := ⟨_, List.getElem?_eq_getElem hiu⟩
   obtain ⟨ns, hns⟩ : ∃ v, ls[i]? = some v := ⟨_, List.getElem?_eq_getElem hils⟩
   have hia := (hr i va ns hva hns).below hbr
   have hib := (hs i vb ns hvb hns).below hbr
   obtain ⟨ga, rfl, la, ca⟩ := ha3 i va hva
   obtain ⟨gb, rfl, lb, cb⟩ := hb3 i vb hvb
   clear hva hvb hns hiu hils
   replace ca := (hbr.cell (p := ⟨ga, i, none⟩) la).trans ca
   replace cb := (hbr.cell (p := ⟨gb, i, none⟩) lb).trans cb
   replace la := Nat.lt_of_lt_of_le la hbr.size
   replace lb := Nat.lt_of_lt_of_le lb hbr.size
   have l2 := Nat.lt_of_lt_of_le hl2 hbr.size
   go_upto_region 4 with fail
   refine wp_region_seq (S := fun w' => w'.cell? ⟨p, 2, none⟩ = some (.slice (some ⟨ga, 0, none⟩) vs.length ca9) ∧ w'.cell? ⟨p, 3, none⟩ = some (.slice (some ⟨gb, 0, none⟩) us.length cb9) ∧ w'.cell? ⟨ga, i, none⟩ = some va ∧ w'.cell? ⟨gb, i, none⟩ = some vb) [(true, 0), (true, 1), (true, 2), (true, 3), (true, 4), (true, 5), (true, 6), (true, 7), (true, 8), (true, 9), (true, 10), (true, 11), (true, 12), (true, 13), (false, 14), (true, 15)] (by kernel_rfl) (by kernel_rfl) (by kernel_rfl) (by kernel_rfl) (by kernel_rfl) (fun d _ _ _ _ h => by cases d <;> exact h) ⟨(by first | exact e2 | simpa using e2), (by first | exact e3 | simpa using e3), (by first | exact ca | simpa using ca), (by first | exact cb | simpa using cb)⟩ (fun _ => ?_)
   simp only [pickOps, List.append_eq, List.cons_append, List.nil_append, List.getElem?_toArray, List.getElem?_cons_succ, List.getElem?_cons_zero]
   have hb : Below wr.heap.size wr wr.drew := (Below.refl _ _).drew
   generalize wr.drew = wd at hb ⊢
   replace e2 := (hb.cell (p := ⟨p, 2, none⟩) l2).trans e2
   replace e3 := (hb.cell (p := ⟨p, 3, none⟩) l2).trans e3
   replace ca := (hb.cell (p := ⟨ga, i, none⟩) la).trans ca
   replace cb := (hb.cell (p := ⟨gb, i, none⟩) lb).trans cb
   replace l2 := Nat.lt_of_lt_of_le l2 hb.size
   replace la := Nat.lt_of_lt_of_le la hb.size
   replace lb := Nat.lt_of_lt_of_le lb hb.size
   replace hia := hia.below hb
   replace hib := hib.below hb
   replace hbr := hbr.trans (hb.mono hbr.size)
   clear hb
   repeat (first | (refine seq_take (v := ?_) (by rfl) ?_ ?_; rotate_left; (· intro w hSw; (try dsimp only at hSw); obtain ⟨e2, e3, ca, cb⟩ := hSw; go_simp; all_goals with_reducible rfl); (try simp only [Act.put, List.setIfInBounds_toArray, List.set_cons_zero, List.set_cons_succ])) | (refine seq_leave (by rfl) ?_; (try simp only [Act.put, List.setIfInBounds_toArray, List.set_cons_zero, List.set_cons_succ])))
   refine seq_step (by rfl) (fun K hK => ?_)
   go_simp
   go_at_call 23
   (with_reducible refine (same_ints va vb ns _ hia hib).mono ?_)
   rintro e9 w3 ⟨rfl, hb⟩
   replace e2 := (hb.cell (p := ⟨p, 2, none⟩) l2).trans e2
   replace e3 := (hb.cell (p := ⟨p, 3, none⟩) l2).trans e3
   replace ca := (hb.cell (p := ⟨ga, i, none⟩) la).trans ca
   replace cb := (hb.cell (p := ⟨gb, i, none⟩) lb).trans cb
   replace l2 := Nat.lt_of_lt_of_le l2 hb.size
   replace la := Nat.lt_of_lt_of_le la hb.size
   replace lb := Nat.lt_of_lt_of_le lb hb.size
   replace hia := hia.below hb
   replace hib := hib.below hb
   replace hbr := hbr.trans (hb.mono hbr.size)
   clear hb
   first | refine hK.out _ _ ⟨(by first | exact e2 | simpa using e2), (by first | exact e3 | simpa using e3), (by first | exact ca | simpa using ca), (by first | exact cb | simpa using cb)⟩ (fun _ => ?_) | (go_wp2_with fail; refine hK.out _ _ ⟨(by first | exact e2 | simpa using e2), (by first | exact e3 | simpa using e3), (by first | exact ca | simpa using ca), (by first | exact cb | simpa using cb)⟩ (fun _ => ?_))
   clear hK K
   (try simp only [Act.put, List.setIfInBounds_toArray, List.set_cons_zero, List.set_cons_succ])
   repeat (first | (refine seq_take (v := ?_) (by rfl) ?_ ?_; rotate_left; (· intro w hSw; (try dsimp only at hSw); obtain ⟨e2, e3, ca, cb⟩ := hSw; go_simp; all_goals with_reducible rfl); (try simp only [Act.put, List.setIfInBounds_toArray, List.set_cons_zero, List.set_cons_succ])) | (refine seq_leave (by rfl) ?_; (try simp only [Act.put, List.setIfInBounds_toArray, List.set_cons_zero, List.set_cons_succ])))
   refine seq_end ?_
   clear e2 e3 ca cb
   go_wp2_with fail
   go_roundg (gk - 1)
   case measure => omega
   case rel => exact ⟨i + 1, by omega, by go_num, hbr⟩
  ·have hz : ¬ (i : Int) < (vs.length : Int) := by omega
   go_wp2_with fail
   go_ret
   exact ⟨rfl, hbr⟩
set_option maxHeartbeats 2000000 in
theorem markedInts_any (gv : Value) (vs : List Value) (ls : List Nat) (w : World) (hv : VView w gv vs) (hlv : vs.length = ls.length) (hm : vs.length ≤ 1000)
  (hr : ∀ (i : Nat) (v : Value) (n : Nat), vs[i]? = some v → ls[i]? = some n → IntsI .i64 w v (markI i 0 n) ∧ n ≤ 10000000) :
  Calls Tryz.prog 76 #[gv] w fun e w' => e = .returned (.bool true) ∧ Below w.heap.size w w' := by
 obtain ⟨ao, ca9, rfl, ha1, ha2, ha3⟩ := hv
 have HLV := Lib.hid hlv
 clear hlv
 go_enter Tryz.func76, Tryz.ntmps76
 go_wp2_with fail
 go_loopg [3] vs.length (fun gg iv wr => ∃ i : Nat, i + gg = vs.length ∧ iv = .int .i64 (i : Int) ∧ Below w.heap.size w wr)
 case atStart => exact ⟨0, by omega, rfl, Below.refl _ _⟩
 case round =>
  obtain ⟨i, hi, rfl, hbr⟩ := hrel
  by_cases hil : i < vs.length
  ·have hz : (i : Int) < (vs.length : Int) := by omega
   have hz0 : (0 : Int) ≤ (i : Int) := by omega
   have hils : i < ls.length := by rw [← HLV.out]; exact hil
   obtain ⟨va, hva⟩ : ∃ v, vs[i]? = some v := ⟨_, List.getElem?_eq_getElem hil⟩
   obtain ⟨n, hns⟩ : ∃ v, ls[i]? = some v := ⟨_, List.getElem?_eq_getElem hils⟩
   obtain ⟨hia, hn⟩ := hr i va n hva hns
   replace hia := hia.below hbr
   obtain ⟨ga, rfl, la, ca⟩ := ha3 i va hva
   obtain ⟨vo, vc, rfl, hv1, hv2, hv3⟩ := hia
   have hia : IntsI .i64 wr (.slice vo (markI i 0 n).length vc) (markI i 0 n) := ⟨_, _, rfl, hv1, hv2, hv3⟩
   rw [markI_len] at hia hva ca
   have hM := fun W => markInts_any i 0 n W (by omega) (by omega) hn
   have e0 : ((0 : Nat) : Int) = 0 := rfl
   rw [e0] at hM
   clear e0
   clear hva hns hils hv1 hv2 hv3
   replace ca := (hbr.cell (p := ⟨ga, i, none⟩) la).trans ca
   replace la := Nat.lt_of_lt_of_le la hbr.size
   go_upto_region 4 with fail
   refine wp_region_seq (S := fun w' => w'.cell? ⟨ga, i, none⟩ = some (.slice vo n vc)) [(true, 0), (true, 1), (true, 2), (true, 3), (true, 4), (true, 5), (true, 6), (true, 7), (true, 8), (true, 9), (false, 10), (false, 11), (true, 12)] (by kernel_rfl) (by kernel_rfl) (by kernel_rfl) (by kernel_rfl) (by kernel_rfl) (fun d _ _ _ _ h => by cases d <;> exact h) (by first | exact ca | simpa using ca) (fun _ => ?_)
   simp only [pickOps, List.append_eq, List.cons_append, List.nil_append, List.getElem?_toArray, List.getElem?_cons_succ, List.getElem?_cons_zero]
   have hb : Below wr.heap.size wr wr.drew := (Below.refl _ _).drew
   generalize wr.drew = wd at hb ⊢
   replace ca := (hb.cell (p := ⟨ga, i, none⟩) la).trans ca
   replace la := Nat.lt_of_lt_of_le la hb.size
   replace hia := hia.below hb
   replace hbr := hbr.trans (hb.mono hbr.size)
   clear hb
   repeat (first | (refine seq_take (v := ?_) (by rfl) ?_ ?_; rotate_left; (· intro w hSw; (try dsimp only at hSw); have ca := hSw; go_simp; all_goals with_reducible rfl); (try simp only [Act.put, List.setIfInBounds_toArray, List.set_cons_zero, List.set_cons_succ])) | (refine seq_leave (by rfl) ?_; (try simp only [Act.put, List.setIfInBounds_toArray, List.set_cons_zero, List.set_cons_succ])))
   refine seq_step (by rfl) (fun K hK => ?_)
   go_simp
   go_at_call 121
   (with_reducible refine (hM _).mono ?_)
   rintro e9 w3 ⟨r9, rfl, hO9, hb⟩
   have hI9 := (ints_of_owns hO9).1
   clear hO9
   replace ca := (hb.cell (p := ⟨ga, i, none⟩) la).trans ca
   replace la := Nat.lt_of_lt_of_le la hb.size
   replace hia := hia.below hb
   replace hbr := hbr.trans (hb.mono hbr.size)
   clear hb
   first | refine hK.out _ _ (by first | exact ca | simpa using ca) (fun _ => ?_) | (go_wp2_with fail; refine hK.out _ _ (by first | exact ca | simpa using ca) (fun _ => ?_))
   clear hK K
   (try simp only [Act.put, List.setIfInBounds_toArray, List.set_cons_zero, List.set_cons_succ])
   repeat (first | (refine seq_take (v := ?_) (by rfl) ?_ ?_; rotate_left; (· intro w hSw; (try dsimp only at hSw); have ca := hSw; go_simp; all_goals with_reducible rfl); (try simp only [Act.put, List.setIfInBounds_toArray, List.set_cons_zero, List.set_cons_succ])) | (refine seq_leave (by rfl) ?_; (try simp only [Act.put, List.setIfInBounds_toArray, List.set_cons_zero, List.set_cons_succ])))
   refine seq_step (by rfl) (fun K hK => ?_)
   go_simp
   go_at_call 23
   (with_reducible refine (same_ints _ _ (markI i 0 n) _ hia hI9).mono ?_)
   rintro e9 w4 ⟨rfl, hb⟩
   clear hI9
   replace ca := (hb.cell (p := ⟨ga, i, none⟩) la).trans ca
   replace la := Nat.lt_of_lt_of_le la hb.size
   replace hia := hia.below hb
   replace hbr := hbr.trans (hb.mono hbr.size)
   clear hb
   first | refine hK.out _ _ (by first | exact ca | simpa using ca) (fun _ => ?_) | (go_wp2_with fail; refine hK.out _ _ (by first | exact ca | simpa using ca) (fun _ => ?_))
   clear hK K
   (try simp only [Act.put, List.setIfInBounds_toArray, List.set_cons_zero, List.set_cons_succ])
   repeat (first | (refine seq_take (v := ?_) (by rfl) ?_ ?_; rotate_left; (· intro w hSw; (try dsimp only at hSw); have ca := hSw; go_simp; all_goals with_reducible rfl); (try simp only [Act.put, List.setIfInBounds_toArray, List.set_cons_zero, List.set_cons_succ])) | (refine seq_leave (by rfl) ?_; (try simp only [Act.put, List.setIfInBounds_toArray, List.set_cons_zero, List.set_cons_succ])))
   refine seq_end ?_
   clear ca
   go_wp2_with fail
   go_roundg (gk - 1)
   case measure => omega
   case rel => exact ⟨i + 1, by omega, by go_num, hbr⟩
  ·have hz : ¬ (i : Int) < (vs.length : Int) := by omega
   go_wp2_with fail
   go_ret
   exact ⟨rfl, hbr⟩
end Go.Proofs.YtcpfanpcdkoiaaaGreat
