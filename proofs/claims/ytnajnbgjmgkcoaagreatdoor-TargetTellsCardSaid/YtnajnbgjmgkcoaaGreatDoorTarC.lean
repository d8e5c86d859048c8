/-
  Targets: the book's Target, Plain, All.
-/
import Derived.Test.YtnajnbgjmgkcoaaGreatDoorTarB
import Derived.Test.YtnajnbgjmgkcoaaGreatDoorBookM
import Derived.Test.YtnajnbgjmgkcoaaGreatDoorBookT
namespace Go.Proofs.YtnajnbgjmgkcoaaGreatDoor
open Go.RowKit
set_option linter.unusedVariables false
set_option linter.unusedSimpArgs false
attribute [local go_sem] field_nat

/-- Is nothing done? -/
def plainB (mn mx fa co : List UInt8) (c : Int) : Bool := mn == [] && (mx == [] && (fa == [] && (co == [] && c == 0)))

set_option maxRecDepth 100000 in
set_option maxHeartbeats 1000000 in
/-- Plain. -/
theorem plain_any (mn mx fa co : List UInt8) (c : Int) (w : World) : Calls Tryz.prog 14 #[tgtV mn mx fa co c] w fun e w' => e = .returned (.bool (plainB mn mx fa co c)) ∧ Below w.heap.size w w' := by
  obtain ⟨w0, hw0⟩ : ∃ w0, w0 = (w.alloc (.cells #[.string ⟨mn.toArray⟩, .string ⟨mx.toArray⟩, .string ⟨fa.toArray⟩, .string ⟨co.toArray⟩, .int .i64 c] 23)) := ⟨_, rfl⟩
  have hbf : Below w.heap.size w w0 := by rw [hw0]; exact ((Below.refl _ w).alloc (Nat.le_refl _) _)
  obtain ⟨pg, hpg⟩ : ∃ p, p = w.heap.size := ⟨_, rfl⟩
  have hbg : Box5 w0 pg (Value.string ⟨mn.toArray⟩) (Value.string ⟨mx.toArray⟩) (Value.string ⟨fa.toArray⟩) (Value.string ⟨co.toArray⟩) (Value.int .i64 c) := by rw [hw0, hpg]; exact ⟨by go_simp, by go_simp, by go_simp, by go_simp, by go_simp, by go_simp, by go_simp, by go_simp, by go_simp, by go_simp⟩
  have HP : Hid (w.heap.size ≤ pg) := Lib.hid (by omega)
  have HW := Lib.hid hw0; clear hw0
  go_enter Tryz.func14, Tryz.ntmps14
  go_upto_region 1 with fail
  rw [← HW.out, ← hpg]
  clear hpg HW
  by_cases h0 : mn = []
  case neg =>
    have e0 := nil_beq h0
    have eg0 := hbg.c0
    have eg1 := hbg.c1
    have eg2 := hbg.c2
    have eg3 := hbg.c3
    have eg4 := hbg.c4
    go_wp2_with fail
    go_ret
    exact ⟨ret_one (by unfold plainB; rw [e0]; rfl), hbf⟩
  subst h0
  by_cases h1 : mx = []
  case neg =>
    have e1 := nil_beq h1
    have eg0 := hbg.c0
    have eg1 := hbg.c1
    have eg2 := hbg.c2
    have eg3 := hbg.c3
    have eg4 := hbg.c4
    go_wp2_with fail
    go_ret
    exact ⟨ret_one (by unfold plainB; rw [e1]; rfl), hbf⟩
  subst h1
  by_cases h2 : fa = []
  case neg =>
    have e2 := nil_beq h2
    have eg0 := hbg.c0
    have eg1 := hbg.c1
    have eg2 := hbg.c2
    have eg3 := hbg.c3
    have eg4 := hbg.c4
    go_wp2_with fail
    go_ret
    exact ⟨ret_one (by unfold plainB; rw [e2]; rfl), hbf⟩
  subst h2
  by_cases h3 : co = []
  case neg =>
    have e3 := nil_beq h3
    have eg0 := hbg.c0
    have eg1 := hbg.c1
    have eg2 := hbg.c2
    have eg3 := hbg.c3
    have eg4 := hbg.c4
    go_wp2_with fail
    go_ret
    exact ⟨ret_one (by unfold plainB; rw [e3]; rfl), hbf⟩
  subst h3
  by_cases h9 : c = 0
  case neg =>
    have e9 : (c == 0) = false := by rw [beq_eq_false_iff_ne]; exact h9
    have eg0 := hbg.c0
    have eg1 := hbg.c1
    have eg2 := hbg.c2
    have eg3 := hbg.c3
    have eg4 := hbg.c4
    go_wp2_with fail
    go_ret
    exact ⟨ret_one (by unfold plainB; rw [e9]; rfl), hbf⟩
  subst h9
  have eg0 := hbg.c0
  have eg1 := hbg.c1
  have eg2 := hbg.c2
  have eg3 := hbg.c3
  have eg4 := hbg.c4
  go_wp2_with fail
  go_ret
  exact ⟨rfl, hbf⟩

theorem four_cells (w : World) (a b c d : Nat) : Cells .i64 (w.alloc (.cells #[.int .i64 (a : Int), .int .i64 (b : Int), .int .i64 (c : Int), .int .i64 (d : Int)] 3)) (some ⟨w.heap.size, 0, none⟩) [a, b, c, d] := by
  refine .inr ⟨w.heap.size, 0, rfl, by simp, fun i hi => ?_⟩
  match i, hi with
  | 0, _ => go_simp
  | 1, _ => go_simp
  | 2, _ => go_simp
  | 3, _ => go_simp
/-- Is a target short? -/
def shortT (mn mx fa co : List UInt8) : Bool := decide (0 ≤ roomL 500 [mn.length, mx.length, fa.length, co.length])
theorem shortT_len {mn mx fa co : List UInt8} (h : shortT mn mx fa co = true) : mn.length ≤ 500 ∧ mx.length ≤ 500 ∧ fa.length ≤ 500 ∧ co.length ≤ 500 := by
  unfold shortT at h
  have h := of_decide_eq_true h
  simp only [roomL] at h
  split at h
  · omega
  · split at h
    · omega
    · split at h
      · omega
      · split at h
        · omega
        · omega

set_option maxRecDepth 100000 in
set_option maxHeartbeats 1000000 in
/-- The book's Target. -/
theorem btarget_any (mn mx fa co : List UInt8) (c : Int) (w : World) (h1 : mn.length ≤ maxL) (h2 : mx.length ≤ maxL) (h3 : fa.length ≤ maxL) (h4 : co.length ≤ maxL) : Calls Tryz.prog 4 #[tgtV mn mx fa co c] w fun e w' => e = .returned (.bool (shortT mn mx fa co)) ∧ Below w.heap.size w w' := by
  obtain ⟨w0, hw0⟩ : ∃ w0, w0 = (w.alloc (.cells #[.string ⟨mn.toArray⟩, .string ⟨mx.toArray⟩, .string ⟨fa.toArray⟩, .string ⟨co.toArray⟩, .int .i64 c] 23)) := ⟨_, rfl⟩
  have hbf : Below w.heap.size w w0 := by rw [hw0]; exact ((Below.refl _ w).alloc (Nat.le_refl _) _)
  obtain ⟨pg, hpg⟩ : ∃ p, p = w.heap.size := ⟨_, rfl⟩
  have hbg : Box5 w0 pg (Value.string ⟨mn.toArray⟩) (Value.string ⟨mx.toArray⟩) (Value.string ⟨fa.toArray⟩) (Value.string ⟨co.toArray⟩) (Value.int .i64 c) := by rw [hw0, hpg]; exact ⟨by go_simp, by go_simp, by go_simp, by go_simp, by go_simp, by go_simp, by go_simp, by go_simp, by go_simp, by go_simp⟩
  have HP : Hid (w.heap.size ≤ pg) := Lib.hid (by omega)
  have HW := Lib.hid hw0; clear hw0
  go_enter Tryz.func4, Tryz.ntmps4
  go_upto_region 1 with fail
  rw [← HW.out, ← hpg]
  clear hpg HW
  obtain ⟨wl, hwl⟩ : ∃ W, W = w0.alloc (.cells #[.int .i64 (mn.length : Int), .int .i64 (mx.length : Int), .int .i64 (fa.length : Int), .int .i64 (co.length : Int)] 3) := ⟨_, rfl⟩
  have hbl : Below w0.heap.size w0 wl := by rw [hwl]; exact (Below.refl _ w0).alloc (Nat.le_refl _) _
  have hcl : Cells .i64 wl (some ⟨w0.heap.size, 0, none⟩) [mn.length, mx.length, fa.length, co.length] := by rw [hwl]; exact four_cells w0 _ _ _ _
  have HW := Lib.hid hwl
  clear hwl
  have eg0 := hbg.c0
  have eg1 := hbg.c1
  have eg2 := hbg.c2
  have eg3 := hbg.c3
  have eg4 := hbg.c4
  go_wp2_with fail
  rw [← HW.out]
  refine (room_any 500 _ 4 [mn.length, mx.length, fa.length, co.length] wl (by decide) (by decide) hcl (by simp)).mono ?_
  rintro e w9 ⟨rfl, rfl⟩
  obtain ⟨z9, hz9⟩ : ∃ z, roomL 500 [mn.length, mx.length, fa.length, co.length] = z := ⟨_, rfl⟩
  rw [hz9]
  have hs9 : shortT mn mx fa co = decide (0 ≤ z9) := by unfold shortT; rw [hz9]
  have HS := Lib.hid hs9
  clear hz9 hs9
  go_wp2_with fail
  go_ret
  exact ⟨ret_one (by rw [HS.out]; rfl), hbf.trans (hbl.mono hbf.size)⟩

end Go.Proofs.YtnajnbgjmgkcoaaGreatDoor
