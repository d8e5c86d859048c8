/-
  Pi06: BookA HeapL HeapO BookB SeqA (what is needed of them).
-/
import Derived.Test.YtlmjkbdodecbmaaGreatDoorPi01
import Derived.Test.YtlmjkbdodecbmaaGreatDoorPi05
import Derived.Maps.AppendAt
import Derived.Deep.Upon
import Derived.Deep.RegionHeld3
import Derived.WalkKit

namespace Go.Proofs.YtlmjkbdodecbmaaGreatDoor
open Go.RowKit Go.Shelf
set_option linter.unusedVariables false
set_option linter.unusedSimpArgs false
set_option maxRecDepth 100000 in
theorem stillTexts_no (p : Nat) (w : World) (h : w.cell? ⟨p, 0, none⟩ = some (.slice none 0 0)) :
    Calls Tryz.prog 44 #[.pointer (some ⟨p, 0, none⟩)] w fun e w' => e = .returned (.bool true) ∧ Below w.heap.size w w' := by
  have hl := World.block_lt_of_cell? w ⟨p, 0, none⟩ h
  go_enter Tryz.func44, Tryz.ntmps44
  go_wp2_with fail
  go_loopg [3] 0 (fun gg iv wr => iv = .int .i64 0 ∧ Below w.heap.size w wr)
  case atStart => exact ⟨rfl, Below.refl _ _⟩
  case round =>
    obtain ⟨rfl, hbr⟩ := hrel
    have ec := (hbr.cell (p := ⟨p, 0, none⟩) hl).trans h
    go_wp2_with fail
    go_ret
    exact ⟨rfl, hbr⟩
set_option maxRecDepth 100000 in
theorem putTexts_no (p : Nat) (w : World) (h : w.cell? ⟨p, 0, none⟩ = some (.slice none 0 0)) :
    Calls Tryz.prog 51 #[.pointer (some ⟨p, 0, none⟩)] w fun e w' => e = .returned (.tuple #[]) ∧ Below w.heap.size w w' := by
  have hl := World.block_lt_of_cell? w ⟨p, 0, none⟩ h
  go_enter Tryz.func51, Tryz.ntmps51
  go_wp2_with fail
  go_loopg [2] 0 (fun gg iv wr => iv = .int .i64 0 ∧ Below w.heap.size w wr)
  case atStart => exact ⟨rfl, Below.refl _ _⟩
  case round =>
    obtain ⟨rfl, hbr⟩ := hrel
    have ec := (hbr.cell (p := ⟨p, 0, none⟩) hl).trans h
    go_wp2_with fail
    go_end0
    exact ⟨rfl, hbr⟩
set_option maxRecDepth 100000 in
theorem growTexts_no (p : Nat) (w : World) (h : w.cell? ⟨p, 0, none⟩ = some (.slice none 0 0)) :
    Calls Tryz.prog 56 #[.pointer (some ⟨p, 0, none⟩)] w fun e w' => e = .returned (.slice none 0 0) ∧ Below w.heap.size w w' := by
  have hl := World.block_lt_of_cell? w ⟨p, 0, none⟩ h
  go_enter Tryz.func56, Tryz.ntmps56
  go_wp2_with fail
  go_loopg [3, 4] 0 (fun gg ov iv wr => ov = .slice none 0 0 ∧ iv = .int .i64 0 ∧ Below w.heap.size w wr)
  case atStart => exact ⟨rfl, rfl, Below.refl _ _⟩
  case round =>
    obtain ⟨rfl, rfl, hbr⟩ := hrel
    have ec := (hbr.cell (p := ⟨p, 0, none⟩) hl).trans h
    go_wp2_with fail
    go_ret
    exact ⟨rfl, hbr⟩
set_option maxRecDepth 100000 in
theorem markedTexts_no (w : World) :
    Calls Tryz.prog 62 #[.slice none 0 0] w fun e w' => e = .returned (.bool true) ∧ Below w.heap.size w w' := by
  go_enter Tryz.func62, Tryz.ntmps62
  go_wp2_with fail
  go_loopg [3] 0 (fun gg iv wr => iv = .int .i64 0 ∧ Below w.heap.size w wr)
  case atStart => exact ⟨rfl, Below.refl _ _⟩
  case round =>
    obtain ⟨rfl, hbr⟩ := hrel
    go_wp2_with fail
    go_ret
    exact ⟨rfl, hbr⟩
set_option maxRecDepth 100000 in
theorem stillPats_no (p : Nat) (w : World) (h : w.cell? ⟨p, 4, none⟩ = some (.slice none 0 0)) :
    Calls Tryz.prog 46 #[.pointer (some ⟨p, 0, none⟩)] w fun e w' => e = .returned (.bool true) ∧ Below w.heap.size w w' := by
  have hl := World.block_lt_of_cell? w ⟨p, 4, none⟩ h
  go_enter Tryz.func46, Tryz.ntmps46
  go_wp2_with fail
  go_loopg [3] 0 (fun gg iv wr => iv = .int .i64 0 ∧ Below w.heap.size w wr)
  case atStart => exact ⟨rfl, Below.refl _ _⟩
  case round =>
    obtain ⟨rfl, hbr⟩ := hrel
    have ec := (hbr.cell (p := ⟨p, 4, none⟩) hl).trans h
    go_wp2_with fail
    go_ret
    exact ⟨rfl, hbr⟩
set_option maxRecDepth 100000 in
theorem putPats_no (p : Nat) (w : World) (h : w.cell? ⟨p, 4, none⟩ = some (.slice none 0 0)) :
    Calls Tryz.prog 53 #[.pointer (some ⟨p, 0, none⟩)] w fun e w' => e = .returned (.tuple #[]) ∧ Below w.heap.size w w' := by
  have hl := World.block_lt_of_cell? w ⟨p, 4, none⟩ h
  go_enter Tryz.func53, Tryz.ntmps53
  go_wp2_with fail
  go_loopg [2] 0 (fun gg iv wr => iv = .int .i64 0 ∧ Below w.heap.size w wr)
  case atStart => exact ⟨rfl, Below.refl _ _⟩
  case round =>
    obtain ⟨rfl, hbr⟩ := hrel
    have ec := (hbr.cell (p := ⟨p, 4, none⟩) hl).trans h
    go_wp2_with fail
    go_end0
    exact ⟨rfl, hbr⟩
set_option maxRecDepth 100000 in
theorem growPats_no (p : Nat) (w : World) (h : w.cell? ⟨p, 4, none⟩ = some (.slice none 0 0)) :
    Calls Tryz.prog 58 #[.pointer (some ⟨p, 0, none⟩)] w fun e w' => e = .returned (.slice none 0 0) ∧ Below w.heap.size w w' := by
  have hl := World.block_lt_of_cell? w ⟨p, 4, none⟩ h
  go_enter Tryz.func58, Tryz.ntmps58
  go_wp2_with fail
  go_loopg [3, 4] 0 (fun gg ov iv wr => ov = .slice none 0 0 ∧ iv = .int .i64 0 ∧ Below w.heap.size w wr)
  case atStart => exact ⟨rfl, rfl, Below.refl _ _⟩
  case round =>
    obtain ⟨rfl, rfl, hbr⟩ := hrel
    have ec := (hbr.cell (p := ⟨p, 4, none⟩) hl).trans h
    go_wp2_with fail
    go_ret
    exact ⟨rfl, hbr⟩
set_option maxRecDepth 100000 in
theorem markedPats_no (w : World) :
    Calls Tryz.prog 64 #[.slice none 0 0] w fun e w' => e = .returned (.bool true) ∧ Below w.heap.size w w' := by
  go_enter Tryz.func64, Tryz.ntmps64
  go_wp2_with fail
  go_loopg [3] 0 (fun gg iv wr => iv = .int .i64 0 ∧ Below w.heap.size w wr)
  case atStart => exact ⟨rfl, Below.refl _ _⟩
  case round =>
    obtain ⟨rfl, hbr⟩ := hrel
    go_wp2_with fail
    go_ret
    exact ⟨rfl, hbr⟩
set_option maxRecDepth 100000 in
theorem stillDiags_no (p : Nat) (w : World) (h : w.cell? ⟨p, 6, none⟩ = some (.slice none 0 0)) :
    Calls Tryz.prog 47 #[.pointer (some ⟨p, 0, none⟩)] w fun e w' => e = .returned (.bool true) ∧ Below w.heap.size w w' := by
  have hl := World.block_lt_of_cell? w ⟨p, 6, none⟩ h
  go_enter Tryz.func47, Tryz.ntmps47
  go_wp2_with fail
  go_loopg [3] 0 (fun gg iv wr => iv = .int .i64 0 ∧ Below w.heap.size w wr)
  case atStart => exact ⟨rfl, Below.refl _ _⟩
  case round =>
    obtain ⟨rfl, hbr⟩ := hrel
    have ec := (hbr.cell (p := ⟨p, 6, none⟩) hl).trans h
    go_wp2_with fail
    go_ret
    exact ⟨rfl, hbr⟩
set_option maxRecDepth 100000 in
theorem putDiags_no (p : Nat) (w : World) (h : w.cell? ⟨p, 6, none⟩ = some (.slice none 0 0)) :
    Calls Tryz.prog 54 #[.pointer (some ⟨p, 0, none⟩)] w fun e w' => e = .returned (.tuple #[]) ∧ Below w.heap.size w w' := by
  have hl := World.block_lt_of_cell? w ⟨p, 6, none⟩ h
  go_enter Tryz.func54, Tryz.ntmps54
  go_wp2_with fail
  go_loopg [2] 0 (fun gg iv wr => iv = .int .i64 0 ∧ Below w.heap.size w wr)
  case atStart => exact ⟨rfl, Below.refl _ _⟩
  case round =>
    obtain ⟨rfl, hbr⟩ := hrel
    have ec := (hbr.cell (p := ⟨p, 6, none⟩) hl).trans h
    go_wp2_with fail
    go_end0
    exact ⟨rfl, hbr⟩
set_option maxRecDepth 100000 in
theorem growDiags_no (p : Nat) (w : World) (h : w.cell? ⟨p, 6, none⟩ = some (.slice none 0 0)) :
    Calls Tryz.prog 59 #[.pointer (some ⟨p, 0, none⟩)] w fun e w' => e = .returned (.slice none 0 0) ∧ Below w.heap.size w w' := by
  have hl := World.block_lt_of_cell? w ⟨p, 6, none⟩ h
  go_enter Tryz.func59, Tryz.ntmps59
  go_wp2_with fail
  go_loopg [3, 4] 0 (fun gg ov iv wr => ov = .slice none 0 0 ∧ iv = .int .i64 0 ∧ Below w.heap.size w wr)
  case atStart => exact ⟨rfl, rfl, Below.refl _ _⟩
  case round =>
    obtain ⟨rfl, rfl, hbr⟩ := hrel
    have ec := (hbr.cell (p := ⟨p, 6, none⟩) hl).trans h
    go_wp2_with fail
    go_ret
    exact ⟨rfl, hbr⟩
set_option maxRecDepth 100000 in
theorem markedDiags_no (w : World) :
    Calls Tryz.prog 65 #[.slice none 0 0] w fun e w' => e = .returned (.bool true) ∧ Below w.heap.size w w' := by
  go_enter Tryz.func65, Tryz.ntmps65
  go_wp2_with fail
  go_loopg [3] 0 (fun gg iv wr => iv = .int .i64 0 ∧ Below w.heap.size w wr)
  case atStart => exact ⟨rfl, Below.refl _ _⟩
  case round =>
    obtain ⟨rfl, hbr⟩ := hrel
    go_wp2_with fail
    go_ret
    exact ⟨rfl, hbr⟩
set_option maxRecDepth 100000 in
theorem stillValues_no (p : Nat) (w : World) (h : w.cell? ⟨p, 8, none⟩ = some (.slice none 0 0)) :
    Calls Tryz.prog 48 #[.pointer (some ⟨p, 0, none⟩)] w fun e w' => e = .returned (.bool true) ∧ Below w.heap.size w w' := by
  have hl := World.block_lt_of_cell? w ⟨p, 8, none⟩ h
  go_enter Tryz.func48, Tryz.ntmps48
  go_wp2_with fail
  go_loopg [3] 0 (fun gg iv wr => iv = .int .i64 0 ∧ Below w.heap.size w wr)
  case atStart => exact ⟨rfl, Below.refl _ _⟩
  case round =>
    obtain ⟨rfl, hbr⟩ := hrel
    have ec := (hbr.cell (p := ⟨p, 8, none⟩) hl).trans h
    go_wp2_with fail
    go_ret
    exact ⟨rfl, hbr⟩
set_option maxRecDepth 100000 in
theorem putValues_no (p : Nat) (w : World) (h : w.cell? ⟨p, 8, none⟩ = some (.slice none 0 0)) :
    Calls Tryz.prog 55 #[.pointer (some ⟨p, 0, none⟩)] w fun e w' => e = .returned (.tuple #[]) ∧ Below w.heap.size w w' := by
  have hl := World.block_lt_of_cell? w ⟨p, 8, none⟩ h
  go_enter Tryz.func55, Tryz.ntmps55
  go_wp2_with fail
  go_loopg [2] 0 (fun gg iv wr => iv = .int .i64 0 ∧ Below w.heap.size w wr)
  case atStart => exact ⟨rfl, Below.refl _ _⟩
  case round =>
    obtain ⟨rfl, hbr⟩ := hrel
    have ec := (hbr.cell (p := ⟨p, 8, none⟩) hl).trans h
    go_wp2_with fail
    go_end0
    exact ⟨rfl, hbr⟩
set_option maxRecDepth 100000 in
theorem growValues_no (p : Nat) (w : World) (h : w.cell? ⟨p, 8, none⟩ = some (.slice none 0 0)) :
    Calls Tryz.prog 60 #[.pointer (some ⟨p, 0, none⟩)] w fun e w' => e = .returned (.slice none 0 0) ∧ Below w.heap.size w w' := by
  have hl := World.block_lt_of_cell? w ⟨p, 8, none⟩ h
  go_enter Tryz.func60, Tryz.ntmps60
  go_wp2_with fail
  go_loopg [3, 4] 0 (fun gg ov iv wr => ov = .slice none 0 0 ∧ iv = .int .i64 0 ∧ Below w.heap.size w wr)
  case atStart => exact ⟨rfl, rfl, Below.refl _ _⟩
  case round =>
    obtain ⟨rfl, rfl, hbr⟩ := hrel
    have ec := (hbr.cell (p := ⟨p, 8, none⟩) hl).trans h
    go_wp2_with fail
    go_ret
    exact ⟨rfl, hbr⟩
set_option maxRecDepth 100000 in
theorem markedValues_no (w : World) :
    Calls Tryz.prog 66 #[.slice none 0 0] w fun e w' => e = .returned (.bool true) ∧ Below w.heap.size w w' := by
  go_enter Tryz.func66, Tryz.ntmps66
  go_wp2_with fail
  go_loopg [3] 0 (fun gg iv wr => iv = .int .i64 0 ∧ Below w.heap.size w wr)
  case atStart => exact ⟨rfl, Below.refl _ _⟩
  case round =>
    obtain ⟨rfl, hbr⟩ := hrel
    go_wp2_with fail
    go_ret
    exact ⟨rfl, hbr⟩
set_option maxRecDepth 100000 in
theorem stillSteps_no (p : Nat) (w : World) (h : w.cell? ⟨p, 10, none⟩ = some (.slice none 0 0)) :
    Calls Tryz.prog 49 #[.pointer (some ⟨p, 0, none⟩)] w fun e w' => e = .returned (.bool true) ∧ Below w.heap.size w w' := by
  have hl := World.block_lt_of_cell? w ⟨p, 10, none⟩ h
  go_enter Tryz.func49, Tryz.ntmps49
  go_wp2_with fail
  go_loopg [3] 0 (fun gg iv wr => iv = .int .i64 0 ∧ Below w.heap.size w wr)
  case atStart => exact ⟨rfl, Below.refl _ _⟩
  case round =>
    obtain ⟨rfl, hbr⟩ := hrel
    have ec := (hbr.cell (p := ⟨p, 10, none⟩) hl).trans h
    go_wp2_with fail
    go_ret
    exact ⟨rfl, hbr⟩
set_option maxRecDepth 100000 in
theorem putSteps_no (p : Nat) (w : World) (h : w.cell? ⟨p, 10, none⟩ = some (.slice none 0 0)) :
    Calls Tryz.prog 50 #[.pointer (some ⟨p, 0, none⟩)] w fun e w' => e = .returned (.tuple #[]) ∧ Below w.heap.size w w' := by
  have hl := World.block_lt_of_cell? w ⟨p, 10, none⟩ h
  go_enter Tryz.func50, Tryz.ntmps50
  go_wp2_with fail
  go_loopg [2] 0 (fun gg iv wr => iv = .int .i64 0 ∧ Below w.heap.size w wr)
  case atStart => exact ⟨rfl, Below.refl _ _⟩
  case round =>
    obtain ⟨rfl, hbr⟩ := hrel
    have ec := (hbr.cell (p := ⟨p, 10, none⟩) hl).trans h
    go_wp2_with fail
    go_end0
    exact ⟨rfl, hbr⟩
set_option maxRecDepth 100000 in
theorem growSteps_no (p : Nat) (w : World) (h : w.cell? ⟨p, 10, none⟩ = some (.slice none 0 0)) :
    Calls Tryz.prog 61 #[.pointer (some ⟨p, 0, none⟩)] w fun e w' => e = .returned (.slice none 0 0) ∧ Below w.heap.size w w' := by
  have hl := World.block_lt_of_cell? w ⟨p, 10, none⟩ h
  go_enter Tryz.func61, Tryz.ntmps61
  go_wp2_with fail
  go_loopg [3, 4] 0 (fun gg ov iv wr => ov = .slice none 0 0 ∧ iv = .int .i64 0 ∧ Below w.heap.size w wr)
  case atStart => exact ⟨rfl, rfl, Below.refl _ _⟩
  case round =>
    obtain ⟨rfl, rfl, hbr⟩ := hrel
    have ec := (hbr.cell (p := ⟨p, 10, none⟩) hl).trans h
    go_wp2_with fail
    go_ret
    exact ⟨rfl, hbr⟩
set_option maxRecDepth 100000 in
theorem markedSteps_no (w : World) :
    Calls Tryz.prog 67 #[.slice none 0 0] w fun e w' => e = .returned (.bool true) ∧ Below w.heap.size w w' := by
  go_enter Tryz.func67, Tryz.ntmps67
  go_wp2_with fail
  go_loopg [3] 0 (fun gg iv wr => iv = .int .i64 0 ∧ Below w.heap.size w wr)
  case atStart => exact ⟨rfl, Below.refl _ _⟩
  case round =>
    obtain ⟨rfl, hbr⟩ := hrel
    go_wp2_with fail
    go_ret
    exact ⟨rfl, hbr⟩
/-- The marks of a list of ints. -/
def markI (i from' n : Nat) : List Int := (List.range n).map fun k => -1000000 * (i : Int) - ((from' + k : Nat) : Int) - 7
theorem markI_len (i f n : Nat) : (markI i f n).length = n := by unfold markI; simp
theorem markI_succ (i f n : Nat) : markI i f (n + 1) = markI i f n ++ [-1000000 * (i : Int) - ((f + n : Nat) : Int) - 7] := by
  unfold markI; rw [List.range_succ, List.map_append]; rfl
theorem markI_add (i f m n : Nat) : markI i f (m + n) = markI i f m ++ markI i (f + m) n := by
  induction n with
  | zero => simp [markI]
  | succ n ih => rw [← Nat.add_assoc, markI_succ, ih, markI_succ, List.append_assoc, Nat.add_assoc]
set_option maxRecDepth 100000 in
/-- markInts. -/
theorem markInts_any (i f n : Nat) (w : World) (hi : i ≤ 1000) (hf : f ≤ 10000000) (hn : n ≤ 10000000) :
    Calls Tryz.prog 91 #[.int .i64 (i : Int), .int .i64 (f : Int), .int .i64 (n : Int)] w fun e w' => ∃ r, e = .returned r ∧ Owns w.heap.size 3 w' r (ivals .i64 (markI i f n)) ∧ Below w.heap.size w w' := by
  go_enter Tryz.func91, Tryz.ntmps91
  go_wp2_with fail
  go_loopg [7, 8] n (fun gg ov kv wr => ∃ k : Nat, k + gg = n ∧ kv = .int .i64 ((f : Int) + (k : Int)) ∧ Owns w.heap.size 3 wr ov (ivals .i64 (markI i f k)) ∧ Below w.heap.size w wr)
  case atStart => exact ⟨0, by omega, by simp, by simpa [ivals, markI] using Owns.nil _ _ _, Below.refl _ _⟩
  case round =>
    obtain ⟨k, hk, rfl, hO, hbr⟩ := hrel
    have hlen : (ivals .i64 (markI i f k)).length = k := by rw [ivals_length, markI_len]
    have w1 : IntKind.i64.wrap ((f : Int) + (n : Int)) = (f : Int) + (n : Int) := IntWalk.i64_in _ (by omega)
    by_cases hkn : k < n
    · have hz : (f : Int) + (k : Int) < (f : Int) + (n : Int) := by omega
      have w2 : IntKind.i64.wrap (-1000000 * (i : Int)) = -1000000 * (i : Int) := IntWalk.i64_in _ (by omega)
      have w3 : IntKind.i64.wrap (-1000000 * (i : Int) - ((f : Int) + (k : Int))) = -1000000 * (i : Int) - ((f : Int) + (k : Int)) := IntWalk.i64_in _ (by omega)
      have w4 : IntKind.i64.wrap (-1000000 * (i : Int) - ((f : Int) + (k : Int)) - 7) = -1000000 * (i : Int) - ((f : Int) + (k : Int)) - 7 := IntWalk.i64_in _ (by omega)
      have w5 : IntKind.i64.wrap ((f : Int) + (k : Int) + 1) = (f : Int) + (k : Int) + 1 := IntWalk.i64_in _ (by omega)
      have HM := Lib.hid (markI_succ i f k)
      go_wp2_with (at_builtin; refine append1 E_ints hO rfl rfl rfl rfl rfl (by rw [hlen]; omega) (by rw [hlen]; unfold maxLen; omega) hbr.size ?_; intro v6 w6 ho6 hb6 hg6)
      go_roundg (gk - 1)
      case measure => omega
      case rel => exact ⟨k + 1, by omega, by first | (congr 1; omega) | go_num, by rw [HM.out]; simpa [ivals, Int.natCast_add] using ho6, hbr.trans hb6⟩
    · have hz : ¬ (f : Int) + (k : Int) < (f : Int) + (n : Int) := by omega
      obtain rfl : k = n := by omega
      go_wp2_with fail
      go_ret
      exact ⟨_, rfl, hO, hbr⟩
end Go.Proofs.YtlmjkbdodecbmaaGreatDoor

namespace Go.Proofs.YtlmjkbdodecbmaaGreatDoor
open Go.RowKit
set_option linter.unusedVariables false
set_option linter.unusedSimpArgs false
theorem run_appendK {P : Program} {t e : TypeId} {z : Value} {K bytes : Nat} (E : ElemK P t e z K bytes) (ty : TypeId) {w : World} {base n : Nat} {v : Value} {xs : List Value} (hown : OwnsK K base e w v n xs)
    (ad : Addr) (c : Nat) (us : List Value) (hul : us.length = K) (hu : ∀ j u', us[j]? = some u' → w.cell? (ad.add j) = some u') (h1 : ∀ u ∈ us, u.oneCell' = true) (hl : (n + 1) * bytes ≤ 140737488355328) (hm : n + 1 ≤ maxLen) (hbase : base ≤ w.heap.size) :
    ∃ v' w', (Builtin.append_ #[t, t] ty #[v, .slice (some ad) 1 c]).run P w = .ok v' w' ∧ OwnsK K base e w' v' (n + 1) (xs ++ us) ∧ w.grownBy w' v.ownBlock ∧
      (∀ g, v'.ownBlock = some g → v.ownBlock = some g ∨ w.heap.size ≤ g) ∧
      ∀ p : Value → Prop, RowAll p w v → (∀ u ∈ us, p u) → (∀ c ∈ z.cells, p c) → RowAll p w' v' := by
  obtain ⟨i, hi, hz, h4, h5⟩ := E.info
  have hxn := hown.1
  obtain ⟨v', w', hrun, r1, r2, r3⟩ := run_append_own (P := P) w base t ty e i z K bytes E.und hi hz h4 h5 E.many E.pos v n xs hown ad 1 c us (by omega) hu h1 hm hl hbase
  rcases hown.2 with ⟨rfl, hn0⟩ | ⟨g0, cap, cur, rfl, k1, k2, k3, k4, k5, k6⟩
  · subst hn0
    have hxs : xs = [] := List.eq_nil_of_length_eq_zero (by omega)
    subst hxs
    have hr := run_append_nil (P := P) w t ty e i z E.und hi hz ad 1 c us (by rw [h4]; omega) hu (by omega) (by omega) (by rw [h5]; simp at hl; omega)
    rw [hr] at hrun
    injection hrun with e1 e2
    refine ⟨v', w', by rw [hr, e1, e2], r1, r2, ?_, ?_⟩
    · intro g hg
      subst e1
      simp [Value.ownBlock] at hg
      exact .inr (by omega)
    · intro p _ hp hpz g hg j c' hc'
      subst e1
      subst e2
      simp [Value.ownBlock] at hg
      subst hg
      have hm' := cell_mem (heap_alloc_new w.drew _) hc'
      simp only [List.mem_toArray, Array.mem_append] at hm'
      rcases hm' with hm' | hm'
      · exact hp _ hm'
      · exact hpz _ (mem_zeroCells hm')
  · by_cases hroom : n + 1 ≤ cap
    · have hr := run_append_room (P := P) w t ty e i E.und hi g0 n cap cur k2 ad 1 c us (by rw [h4]; omega) hu h1 hroom (by rw [h4]; have h9 := Nat.mul_le_mul_right K hroom; rw [Nat.add_mul] at h9; omega)
      rw [hr] at hrun
      injection hrun with e1 e2
      refine ⟨v', w', by rw [hr, e1, e2], r1, r2, ?_, ?_⟩
      · intro g hg
        subst e1
        exact .inl hg
      · intro p ha hp hpz g hg j c' hc'
        subst e1
        subst e2
        simp [Value.ownBlock] at hg
        subst hg
        have hm' := cell_mem (setRow_heap w g0 cur _ e _ k2) hc'
        have old : ∀ c'' ∈ cur.toList, p c'' := by
          intro c'' hc''
          obtain ⟨j', hj', rfl⟩ := List.mem_iff_getElem.1 hc''
          refine ha g0 rfl j' _ ?_
          unfold World.cell?
          simp [k2]
        simp only [List.mem_toArray, List.mem_append] at hm'
        rcases hm' with (hm' | hm') | hm'
        · exact old _ (List.mem_of_mem_take hm')
        · exact hp _ hm'
        · exact old _ (List.mem_of_mem_drop hm')
    · have hr := run_append_grow (P := P) w t ty e i z E.und hi hz ⟨g0, 0, none⟩ n cap xs (by rw [h4]; omega) (World.ownsRow.cells hown (g := g0) rfl) ad 1 c us (by rw [h4]; omega) hu (by omega) (by simp only [maxLen] at hm; omega) (growslice_fits (by omega) (by rw [h5]; exact hl))
      rw [hr] at hrun
      injection hrun with e1 e2
      refine ⟨v', w', by rw [hr, e1, e2], r1, r2, ?_, ?_⟩
      · intro g hg
        subst e1
        simp [Value.ownBlock] at hg
        exact .inr (by omega)
      · intro p ha hp hpz g hg j c' hc'
        subst e1
        subst e2
        simp [Value.ownBlock] at hg
        subst hg
        have hm' := cell_mem (heap_alloc_new w.drew _) hc'
        have old : ∀ c'' ∈ cur.toList, p c'' := by
          intro c'' hc''
          obtain ⟨j', hj', rfl⟩ := List.mem_iff_getElem.1 hc''
          refine ha g0 rfl j' _ ?_
          unfold World.cell?
          simp [k2]
        simp only [List.mem_toArray, Array.mem_append, List.mem_append] at hm'
        rcases hm' with (hm' | hm') | hm'
        · exact old _ (by rw [← k6] at hm'; exact List.mem_of_mem_take hm')
        · exact hp _ hm'
        · exact hpz _ (mem_zeroCells hm')
/-- out = append(out, x): x a struct of K cells; what all cells of the row are abides. -/
theorem append1KAt {P : Program} {t e : TypeId} {z : Value} {K bytes : Nat} (E : ElemK P t e z K bytes) {w : World} {ops : Array Oper} {rest : List Oper} {o : Oper} {a : Act} {Q : Exit → Act → World → Prop} {s x : Operand} {us : Array Value} {base n : Nat} {v : Value} {xs : List Value} {p : Value → Prop}
    (hown : OwnsK K base e w v n xs) (hra : RowAll p w v) (hu : ∀ u ∈ us.toList, p u) (hz : ∀ c ∈ z.cells, p c) (hgd : o.guard = none) (ho : o.op = .call { callee := .builtin .append, args := #[s, x], argTypes := #[t, t] }) (hs : a.eval s = v)
    (hx : a.eval x = .slice (some ⟨w.heap.size, 0, none⟩) 1 1) (hus : us.size = K) (h1 : ∀ u ∈ us.toList, u.oneCell' = true) (hl : (n + 1) * bytes ≤ 140737488355328) (hm : n + 1 ≤ maxLen) (hbase : base ≤ w.heap.size)
    (h : ∀ v' w', OwnsK K base e w' v' (n + 1) (xs ++ us.toList) → Below base w w' → w.grownBy w' v.ownBlock → (∀ g, v'.ownBlock = some g → v.ownBlock = some g ∨ w.heap.size ≤ g) → RowAll p w' v' → wpList P ops Q rest (a.put o.dst v') w') : wpList P ops Q (o :: rest) a (w.alloc (.cells us e)) := by
  have hra' : RowAll p (w.alloc (.cells us e)) v := by
    intro g hg j c hc
    have hlt := World.ownsRow.lt hown g hg
    rw [World.cell?_alloc_past _ _ _ hlt.2] at hc
    exact hra g hg j c hc
  obtain ⟨v', w', hrun, r1, r2, r3, r4⟩ := run_appendK (P := P) E o.type (w := w.alloc (.cells us e)) (hown.alloc _) ⟨w.heap.size, 0, none⟩ 1 us.toList (by simp [hus]) (by
    intro j u' hj
    rw [Addr.add_lit, Nat.zero_add]
    unfold World.cell?
    rw [show (w.alloc (.cells us e)).heap[w.heap.size]? = some (.cells us e) from heap_alloc_new w _]
    simpa using hj) h1 hl hm (by simp; omega)
  refine wpList_plain hgd fun K' hK => ?_
  unfold Oper.wp
  simp [execOp, ho, resolve, invoke, builtin, hs, hx, hrun, Result.andThen]
  have hg : w.grownBy w' v.ownBlock := ⟨r2.os, r2.tape, r2.output, Nat.le_trans (by simp) r2.size, fun k hk hne => (r2.block k (by simp; omega) hne).trans (Below.heap_alloc _ _ _ hk)⟩
  refine hK _ _ (h v' w' r1 ⟨hg.os, hg.tape, hg.output, hg.size, fun k hk => hg.block k (by omega) (fun e' => ?_)⟩ hg ?_ (r4 p hra' hu hz))
  · have := World.ownsRow.lt hown k e'.symm
    omega
  · intro g hg'
    rcases r3 g hg' with h4 | h4
    · exact .inl h4
    · exact .inr (by simp at h4; omega)
end Go.Proofs.YtlmjkbdodecbmaaGreatDoor

namespace Go.Proofs.YtlmjkbdodecbmaaGreatDoor
open Go.RowKit
set_option linter.unusedVariables false
set_option linter.unusedSimpArgs false
theorem append1KIn {F : Fence} {m : Nat} {P : Program} {t e : TypeId} {z : Value} {K bytes : Nat} (E : ElemK P t e z K bytes) {w : World} {ops : Array Oper} {rest : List Oper} {o : Oper} {a : Act} {Q : Exit → Act → World → Prop} {s x : Operand} {us : Array Value} {base n : Nat} {v : Value} {xs : List Value}
    (hown : OwnsK K base e w v n xs) (hgd : o.guard = none) (ho : o.op = .call { callee := .builtin .append, args := #[s, x], argTypes := #[t, t] }) (hs : a.eval s = v)
    (hx : a.eval x = .slice (some ⟨w.heap.size, 0, none⟩) 1 1) (hus : us.size = K) (h1 : ∀ u ∈ us.toList, u.oneCell' = true) (hl : (n + 1) * bytes ≤ 140737488355328) (hm : n + 1 ≤ maxLen) (hbase : base ≤ w.heap.size)
    (h : ∀ v' w', OwnsK K base e w' v' (n + 1) (xs ++ us.toList) → Below base w w' → w.grownBy w' v.ownBlock → (∀ g, v'.ownBlock = some g → v.ownBlock = some g ∨ w.heap.size ≤ g) → wpListIn F m P ops Q rest (a.put o.dst v') w') :
    wpListIn F m P ops Q (o :: rest) a (w.alloc (.cells us e)) := by
  obtain ⟨v', w', hrun, r1, r2, r3, r4⟩ := run_appendK (P := P) E o.type (w := w.alloc (.cells us e)) (hown.alloc _) ⟨w.heap.size, 0, none⟩ 1 us.toList (by simp [hus]) (by
    intro j u' hj
    rw [Addr.add_lit, Nat.zero_add]
    unfold World.cell?
    rw [show (w.alloc (.cells us e)).heap[w.heap.size]? = some (.cells us e) from heap_alloc_new w _]
    simpa using hj) h1 hl hm (by simp; omega)
  refine wpListIn_plain hgd fun K' hK' => ?_
  unfold Oper.wpIn
  refine ⟨?_, ?_⟩
  · simp [Oper.about, ho, resolve, Target.leads, Sem.run_pure]
  · rw [Oper.semAt_plain F _ _ (by rw [ho]; intro c hc'; cases hc')]
    simp [execOp, ho, resolve, invoke, builtin, hs, hx, hrun, Result.andThen]
    have hg : w.grownBy w' v.ownBlock := ⟨r2.os, r2.tape, r2.output, Nat.le_trans (by simp) r2.size, fun k hk hne => (r2.block k (by simp; omega) hne).trans (Below.heap_alloc _ _ _ hk)⟩
    refine hK' _ _ (h v' w' r1 ⟨hg.os, hg.tape, hg.output, hg.size, fun k hk => hg.block k (by omega) (fun e' => ?_)⟩ hg ?_)
    · have := World.ownsRow.lt hown k e'.symm
      omega
    · intro g hg'
      rcases r3 g hg' with h2 | h2
      · exact .inl h2
      · exact .inr (by simp at h2; omega)
theorem append1KO {P : Program} {t e : TypeId} {z : Value} {K bytes : Nat} (E : ElemK P t e z K bytes) {w : World} {ops : Array Oper} {rest : List Oper} {o : Oper} {a : Act} {Q : Exit → Act → World → Prop} {s x : Operand} {us : Array Value} {base n : Nat} {v : Value} {xs : List Value}
    (hown : OwnsK K base e w v n xs) (hgd : o.guard = none) (ho : o.op = .call { callee := .builtin .append, args := #[s, x], argTypes := #[t, t] }) (hs : a.eval s = v)
    (hx : a.eval x = .slice (some ⟨w.heap.size, 0, none⟩) 1 1) (hus : us.size = K) (h1 : ∀ u ∈ us.toList, u.oneCell' = true) (hl : (n + 1) * bytes ≤ 140737488355328) (hm : n + 1 ≤ maxLen) (hbase : base ≤ w.heap.size)
    (h : ∀ v' w', OwnsK K base e w' v' (n + 1) (xs ++ us.toList) → Below base w w' → w.grownBy w' v.ownBlock → (∀ g, v'.ownBlock = some g → v.ownBlock = some g ∨ w.heap.size ≤ g) → wpList P ops Q rest (a.put o.dst v') w') :
    wpList P ops Q (o :: rest) a (w.alloc (.cells us e)) :=
  append1KAt (p := fun _ => True) E hown (fun _ _ _ _ _ => trivial) (fun _ _ => trivial) (fun _ _ => trivial) hgd ho hs hx hus h1 hl hm hbase (fun v' w' a b c d _ => h v' w' a b c d)
theorem OwnsK.block {K base : Nat} {e : TypeId} {w w' : World} {v : Value} {n : Nat} {xs : List Value} (h : OwnsK K base e w v n xs) (hb : ∀ g, v.ownBlock = some g → w'.heap[g]? = w.heap[g]?) : OwnsK K base e w' v n xs := by
  obtain ⟨h1, h2 | ⟨g, cap, cur, rfl, h3, h4, h5⟩⟩ := h
  · exact ⟨h1, .inl h2⟩
  · exact ⟨h1, .inr ⟨g, cap, cur, rfl, h3, (hb g rfl).trans h4, h5⟩⟩
theorem OwnsK.lt {K base : Nat} {e : TypeId} {w : World} {v : Value} {n : Nat} {xs : List Value} (h : OwnsK K base e w v n xs) : ∀ g, v.ownBlock = some g → base ≤ g ∧ g < w.heap.size := World.ownsRow.lt h
theorem OwnsK.keep {S : Nat → Prop} {K base : Nat} {e : TypeId} {w w' : World} {v : Value} {n : Nat} {xs : List Value} (h : OwnsK K base e w v n xs) (hk : Keep S w w') (hs : ∀ g, v.ownBlock = some g → ¬ S g) : OwnsK K base e w' v n xs :=
  h.block fun g hg => hk.same g (h.lt g hg).2 (hs g hg)
theorem OwnsK.at_cells {K base : Nat} {e : TypeId} {w : World} {v : Value} {n : Nat} {xs : List Value} (h : OwnsK K base e w v n xs) : ∀ g, v.ownBlock = some g → ∃ o : Obj, w.heap[g]? = some o ∧ o.isCells = true := by
  intro g hg
  obtain ⟨h1, ⟨rfl, _⟩ | ⟨g', cap, cur, rfl, h3, h4, h5⟩⟩ := h
  · simp [Value.ownBlock] at hg
  · simp [Value.ownBlock] at hg; subst hg; exact ⟨_, h4, rfl⟩
theorem OwnsK.ext {K B base : Nat} {e : TypeId} {w w' : World} {v : Value} {n : Nat} {xs : List Value} (h : OwnsK K base e w v n xs) (hx : Ext B w w') : OwnsK K base e w' v n xs :=
  h.block fun g hg => by
    obtain ⟨o, h1, h2⟩ := h.at_cells g hg
    rw [h1]; exact hx.cells g o h1 h2
theorem BoxL.ext {B : Nat} {w w' : World} {b : Nat} {xs : List Value} (h : BoxL w b xs) (hx : Ext B w w') (hne : 0 < xs.length) : BoxL w' b xs := by
  have h0 := h.cell 0 (xs[0]'hne) (List.getElem?_eq_getElem hne)
  have h1 : ∃ o : Obj, w.heap[b]? = some o ∧ o.isCells = true := by
    unfold World.cell? at h0
    split at h0
    · rename_i hb; exact ⟨_, hb, rfl⟩
    · cases h0
  obtain ⟨o, h2, h3⟩ := h1
  exact h.block (by rw [h2]; exact hx.cells b o h2 h3)
theorem OwnsK.slice {K base : Nat} {e : TypeId} {w : World} {v : Value} {n : Nat} {xs : List Value} (h : OwnsK K base e w v n xs) : ∃ ao cap, v = .slice ao n cap ∧ n ≤ cap ∧ cap ≤ maxLen ∧ (ao = none → cap = 0) := by
  rcases h.shape with ⟨rfl, rfl⟩ | ⟨g, cap, rfl, _, _, h4, h5, _, _⟩
  · exact ⟨_, _, rfl, Nat.le_refl _, Nat.zero_le _, fun _ => rfl⟩
  · exact ⟨_, _, rfl, h4, h5, fun h => by cases h⟩
end Go.Proofs.YtlmjkbdodecbmaaGreatDoor

namespace Go.Proofs.YtlmjkbdodecbmaaGreatDoor
open Go.RowKit Go.Shelf
set_option linter.unusedVariables false
set_option linter.unusedSimpArgs false
/-- More elements behind a slice of the call's own: where the new slice lies, and that the old view is as it was. -/
theorem run_appX {P : Program} {t e : TypeId} {z : Value} {bytes : Nat} (E : Elem P t e z bytes) (ty : TypeId) {w : World} {base : Nat} {v : Value} {xs : List Value} (hown : Owns base e w v xs)
    (ad : Addr) (c : Nat) (us : List Value) (hu : ∀ j u', us[j]? = some u' → w.cell? (ad.add j) = some u') (h1 : ∀ u ∈ us, u.oneCell' = true) (hl : (xs.length + us.length) * bytes ≤ 140737488355328) (hm : xs.length + us.length ≤ maxLen) (hbase : base ≤ w.heap.size) :
    ∃ v' w', (Builtin.append_ #[t, t] ty #[v, .slice (some ad) us.length c]).run P w = .ok v' w' ∧ Owns base e w' v' (xs ++ us) ∧ w.grownBy w' v.ownBlock ∧ (v'.ownBlock = v.ownBlock ∨ v'.ownBlock = some w.heap.size) ∧
      (∀ g, v.ownBlock = some g → ∀ j, j < xs.length → w'.cell? ⟨g, j, none⟩ = w.cell? ⟨g, j, none⟩) := by
  obtain ⟨i, hi, hz, h4, h5⟩ := E.info
  obtain ⟨v', w', hrun, r1, r2, _, r5⟩ := run_append_own_at (P := P) w base t ty e i z 1 bytes E.und hi hz h4 h5 E.one (by decide) v xs.length xs hown ad us.length c us (by simp) hu h1 hm hl hbase
  refine ⟨v', w', hrun, by unfold Owns; simpa using r1, r2, r5, ?_⟩
  intro g hg j hj
  rcases hown.shape with ⟨rfl, _⟩ | ⟨g', cap', rfl, k1, k2, k3, k4, k5, _⟩
  · simp [Value.ownBlock] at hg
  have hgg : g' = g := by simpa [Value.ownBlock] using hg
  subst hgg
  obtain ⟨_, ⟨h0, _⟩ | ⟨g9, cap9, cur, e9, q1, q2, q3, q4, q5, q6⟩⟩ := hown
  · cases h0
  injection e9 with e9 e10 e11
  injection e9 with e9
  injection e9 with e9
  subst e9 e11
  by_cases hroom : xs.length + us.length ≤ cap'
  · have hr := run_append_room (P := P) w t ty e i E.und hi g' xs.length cap' cur q2 ad us.length c us (by rw [h4]; omega) hu h1 hroom (by rw [h4]; simp at q5; omega)
    rw [hr] at hrun
    injection hrun with e1 e2
    subst e1
    rcases OwnsK.shape (K := 1) r1 with ⟨h0, _⟩ | ⟨g2, cap2, e0, m1, m2, m3, m4, m5, _⟩
    · cases h0
    injection e0 with e0 _ _
    injection e0 with e0
    injection e0 with e0
    subst e0
    rw [m5 j (by omega), k5 j hj, List.getElem?_append_left hj]
  · have hr := run_append_grow (P := P) w t ty e i z E.und hi hz ⟨g', 0, none⟩ xs.length cap' xs (by rw [h4]; omega) (fun j u hj => by rw [Addr.add_lit, Nat.zero_add, k5 j (List.getElem?_eq_some_iff.1 hj).1]; exact hj) ad us.length c us (by rw [h4]; omega) hu (by omega) (by simp only [maxLen] at hm; omega) (growslice_fits (by omega) (by rw [h5]; exact hl))
    rw [hr] at hrun
    injection hrun with e1 e2
    subst e2
    exact World.cell?_of_block (w := w) (a := ⟨g', j, none⟩) (Below.heap_alloc _ _ _ k2)
end Go.Proofs.YtlmjkbdodecbmaaGreatDoor

namespace Go.Proofs.YtlmjkbdodecbmaaGreatDoor
open Go.RowKit
set_option linter.unusedVariables false
section
variable {P : Program} {ops : Array Oper} {Q : Exit → Act → World → Prop} {S : World → Prop}
/-- The walk in one order. -/
def wpSeqH (P : Program) (ops : Array Oper) (Q : Exit → Act → World → Prop) (S : World → Prop) : List (Bool × Oper) → Act → World → Prop
  | [], a, w => Q .normal a w
  | (true, o) :: rest, a, w => ∃ v, YieldsIf P ops S o v a ∧ wpSeqH P ops Q S rest (a.put o.dst v) w
  | (false, o) :: rest, a, w => ∀ K : Act → World → Prop, Shut (∀ a w, S w → (S w → wpSeqH P ops Q S rest a w) → K a w) →
      if Region.wanted o (yielded ops a.tmps) = true then Oper.wp P o a w K Q else K (a.put o.dst undef) w
/-- Is the order one that the region allows? -/
def seqOk (ops : Array Oper) : List (Bool × Nat) → Array Bool → Bool
  | [], listed => (Region.ready .any ops listed).isEmpty
  | (true, i) :: r, listed => Region.free .any ops listed i && (Region.ready .any ops listed).contains i && seqOk ops r (listed.setIfInBounds i true)
  | (false, i) :: r, listed => (Region.ready .any ops listed == [i]) && seqOk ops r (listed.setIfInBounds i true)
def pickOps (ops : Array Oper) : List (Bool × Nat) → List (Bool × Oper)
  | [] => []
  | (b, i) :: r => match ops[i]? with
    | some o => (b, o) :: pickOps ops r
    | none => pickOps ops r
theorem wpAnyH_of_seq (hs : Region.noSelect ops = true) (hQ : ∀ d v c a w, Q (.panic c) (a.put d v) w → Q (.panic c) a w) :
    ∀ (l : List (Bool × Nat)) (listed : Array Bool) (a : Act) (w : World), seqOk ops l listed = true → (l.all fun x => decide (x.2 < ops.size)) = true → S w → wpSeqH P ops Q S (pickOps ops l) a w → wpAnyH P .any ops Q S l.length listed a w
  | [], listed, a, w, hk, _, _, h => by
    simp only [seqOk, List.isEmpty_iff] at hk
    exact ⟨hk, h⟩
  | (b, i) :: r, listed, a, w, hk, hlt, hS, h => by
    simp only [List.all_cons, Bool.and_eq_true, decide_eq_true_eq] at hlt
    have hi : ops[i]? = some ops[i] := Array.getElem?_eq_getElem hlt.1
    simp only [pickOps, hi] at h
    cases b with
    | true =>
      simp only [seqOk, Bool.and_eq_true] at hk
      obtain ⟨v, hy, h⟩ := h
      exact wpAnyH_take hi hs hk.1.1 hk.1.2 (fun c a w => hQ _ _ c a w) hy hS (wpAnyH_of_seq hs hQ r _ _ _ hk.2 hlt.2 hS h)
    | false =>
      simp only [seqOk, Bool.and_eq_true, beq_iff_eq] at hk
      refine wpAnyH_ready hk.1 (by simp) (AllReadyH.cons hi (fun K hK => ?_) AllReadyH.nil)
      exact h K (fun a' w' hS' hw => hK.out a' w' hS' fun hS'' => wpAnyH_of_seq hs hQ r _ _ _ hk.2 hlt.2 hS'' (hw hS''))
theorem wp_region_seq {id : Nat} {a : Act} {w : World} (l : List (Bool × Nat)) (hm : P.follows .mixedOrders = true) (hs : Region.noSelect ops = true) (hl : l.length = ops.size) (hlt : (l.all fun x => decide (x.2 < ops.size)) = true)
    (hk : seqOk ops l (Array.replicate ops.size false) = true) (hQ : ∀ d v c a w, Q (.panic c) (a.put d v) w → Q (.panic c) a w) (hS : S w.drew)
    (h : S w.drew → wpSeqH P ops Q S (pickOps ops l) a w.drew) : (Code.region id ops true).wp P Q a w := by
  refine wp_region_held_drew hm hS fun hS' => ?_
  have := wpAnyH_of_seq (P := P) (Q := Q) (S := S) hs hQ l _ _ _ hk hlt hS' (h hS')
  rwa [hl] at this
theorem seq_take {o : Oper} {rest : List (Bool × Oper)} {a : Act} {w : World} {v : Value} (hw : Region.wanted o (yielded ops a.tmps) = true) (hy : ∀ w, S w → (execOp a.eval o).run P w = .ok (.value v) w)
    (h : wpSeqH P ops Q S rest (a.put o.dst v) w) : wpSeqH P ops Q S ((true, o) :: rest) a w := ⟨v, .inl ⟨hw, hy⟩, h⟩
theorem seq_leave {o : Oper} {rest : List (Bool × Oper)} {a : Act} {w : World} (hw : Region.wanted o (yielded ops a.tmps) = false)
    (h : wpSeqH P ops Q S rest (a.put o.dst undef) w) : wpSeqH P ops Q S ((true, o) :: rest) a w := ⟨undef, .inr ⟨hw, rfl⟩, h⟩
theorem seq_step {o : Oper} {rest : List (Bool × Oper)} {a : Act} {w : World} (hw : Region.wanted o (yielded ops a.tmps) = true)
    (h : ∀ K : Act → World → Prop, Shut (∀ a w, S w → (S w → wpSeqH P ops Q S rest a w) → K a w) → Oper.wp P o a w K Q) : wpSeqH P ops Q S ((false, o) :: rest) a w := fun K hK => by
  rw [if_pos hw]; exact h K hK
theorem seq_pass {o : Oper} {rest : List (Bool × Oper)} {a : Act} {w : World} (hw : Region.wanted o (yielded ops a.tmps) = false) (hS : S w)
    (h : wpSeqH P ops Q S rest (a.put o.dst undef) w) : wpSeqH P ops Q S ((false, o) :: rest) a w := fun K hK => by
  rw [if_neg (by rw [hw]; simp)]; exact hK.out _ _ hS fun _ => h
theorem seq_end {a : Act} {w : World} (h : Q .normal a w) : wpSeqH P ops Q S [] a w := h
end
end Go.Proofs.YtlmjkbdodecbmaaGreatDoor
