/-
  onnx: Same.
-/
import Derived.Test.YtieffhkfefimeaaGreatOnxK
import Derived.Test.YtieffhkfefimeaaGreatEqlN
import Derived.Laws.StructEq
namespace Go.Proofs.YtieffhkfefimeaaGreat
open Go.RowKit Go.Lib
set_option linter.unusedVariables false
set_option linter.unusedSimpArgs false

theorem below_dr (w : World) (q : Nat) : Below w.heap.size w (w.drewN q) := ⟨rfl, rfl, rfl, Nat.le_refl _, fun _ _ => rfl⟩
theorem allEq_eq {α : Type} [DecidableEq α] : ∀ (xs ys : List α), allEq (fun x y => decide (x = y)) xs ys = decide (xs = ys)
  | [], [] => rfl
  | [], _ :: _ => by simp [allEq]
  | _ :: _, [] => by simp [allEq]
  | x :: xs, y :: ys => by rw [allEq, allEq_eq xs ys]; simp
set_option maxHeartbeats 1000000 in
theorem neq_el : NeqAt Tryz.prog 35 (fun x => .agg (elC x).toArray) (fun x y => decide (x = y)) := by
  refine ⟨fun x y w => ?_, GuardAt.agg _ (by kernel_rfl)⟩
  have u3 := Tryz.underlying3
  have a3 := Tryz.isAgg3
  have z3 := Tryz.sizeOf3
  have u4 := Tryz.underlying31
  have a4 := Tryz.isAgg31
  have z4 := Tryz.sizeOf31
  have u5 := Tryz.underlying4
  have a5 := Tryz.isAgg4
  have z5 := Tryz.sizeOf4
  have hS : Tryz.prog.underlying 35 = some (.struct (Tryz.prog.fieldsOf 35)) := by kernel_rfl
  have hp : Tryz.prog.stoodInHeld 35 = false := by kernel_rfl
  obtain ⟨x0, x1, x2, x3⟩ := x
  obtain ⟨y0, y1, y2, y3⟩ := y
  simp only [elC]
  rw [run_neq_struct, show (10000 : Nat) = 9999 + 1 from rfl, run_equalIn_agg w 9999 35 _ _ hS hp]
  simp only [Program.fieldsOf, Tryz.underlying35]
  go_simp
  by_cases h0 : x0 = y0
  case neg => simp [h0]
  by_cases h1 : x1 = y1
  case neg => simp [h0, h1]
  by_cases h2 : x2 = y2
  case neg => simp [h0, h1, h2]
  by_cases h3 : x3 = y3
  case neg =>
    have hc : ¬ ((x3 : Int) = (y3 : Int)) := by omega
    simp [h0, h1, h2, h3, hc]
  simp [h0, h1, h2, h3]
set_option maxHeartbeats 1000000 in
theorem neq_en : NeqAt Tryz.prog 33 (fun x => .agg (enC x).toArray) (fun x y => decide (x = y)) := by
  refine ⟨fun x y w => ?_, GuardAt.agg _ (by kernel_rfl)⟩
  have u3 := Tryz.underlying3
  have a3 := Tryz.isAgg3
  have z3 := Tryz.sizeOf3
  have u4 := Tryz.underlying31
  have a4 := Tryz.isAgg31
  have z4 := Tryz.sizeOf31
  have u5 := Tryz.underlying4
  have a5 := Tryz.isAgg4
  have z5 := Tryz.sizeOf4
  have hS : Tryz.prog.underlying 33 = some (.struct (Tryz.prog.fieldsOf 33)) := by kernel_rfl
  have hp : Tryz.prog.stoodInHeld 33 = false := by kernel_rfl
  obtain ⟨x0, x1, x2, x3, x4, x5, x6, x7⟩ := x
  obtain ⟨y0, y1, y2, y3, y4, y5, y6, y7⟩ := y
  simp only [enC]
  rw [run_neq_struct, show (10000 : Nat) = 9999 + 1 from rfl, run_equalIn_agg w 9999 33 _ _ hS hp]
  simp only [Program.fieldsOf, Tryz.underlying33]
  go_simp
  by_cases h0 : x0 = y0
  case neg => simp [h0]
  by_cases h1 : x1 = y1
  case neg => simp [h0, h1]
  by_cases h2 : x2 = y2
  case neg => simp [h0, h1, h2]
  by_cases h3 : x3 = y3
  case neg => simp [h0, h1, h2, h3]
  by_cases h4 : x4 = y4
  case neg =>
    have hc : ¬ ((x4 : Int) = (y4 : Int)) := by omega
    simp [h0, h1, h2, h3, h4, hc]
  by_cases h5 : x5 = y5
  case neg => simp [h0, h1, h2, h3, h4, h5]
  by_cases h6 : x6 = y6
  case neg => simp [h0, h1, h2, h3, h4, h5, h6]
  by_cases h7 : x7 = y7
  case neg => simp [h0, h1, h2, h3, h4, h5, h6, h7]
  simp [h0, h1, h2, h3, h4, h5, h6, h7]
theorem neq_pat : NeqAt Tryz.prog 31 (fun n : Nat => Value.int .u64 (n : Int)) (fun x y => decide (x = y)) := ⟨fun x y w => by rw [(NeqAt.int Tryz.prog 31 .u64).1 (x : Int) (y : Int) w]; show Result.ok (Value.bool (!((x : Int) == (y : Int)))) w = _; rw [show ((x : Int) == (y : Int)) = decide (x = y) from by rw [Bool.eq_iff_iff]; simp; omega], fun op a b x y w => (NeqAt.int Tryz.prog 31 .u64).2 op a b (x : Int) (y : Int) w⟩
set_option maxRecDepth 100000 in
set_option maxHeartbeats 1000000 in
theorem eq_el (ao bo : Option Addr) (c d : Nat) (xs ys : List EL) (w : World) (r : Bool) (hx : RowC 4 elC w ao xs) (hy : RowC 4 elC w bo ys) (hxl : xs.length ≤ maxLen) (hyl : ys.length ≤ maxLen) (hr : Hid (decide (xs = ys) = r)) :
    Calls Tryz.prog 47 #[.slice ao xs.length c, .slice bo ys.length d] w fun e w' => e = .returned (.bool r) ∧ Below w.heap.size w w' := by
  unfold maxLen at hxl hyl
  by_cases hl : xs.length = ys.length
  · by_cases h0 : xs.length = 0
    · have e1 := List.eq_nil_of_length_eq_zero h0
      have e2 := List.eq_nil_of_length_eq_zero (hl ▸ h0)
      subst e1 e2
      have hr2 : r = true := by rw [← hr.out]; simp
      subst hr2
      clear hr hx hy h0 hl
      go_enter Tryz.func47, Tryz.ntmps47
      go_wp2_with fail
      go_loopg [13] 1 (fun gg iv wr => iv = .int .i64 0 ∧ Below w.heap.size w wr)
      case atStart => exact ⟨rfl, Below.refl _ _⟩
      case round =>
        obtain ⟨rfl, hbr⟩ := hrel
        go_wp2_with fail
        go_ret
        exact ⟨rfl, hbr⟩
    · obtain ⟨b1, o1, rfl⟩ := hx.addr (i := 0) (by omega)
      obtain ⟨b2, o2, rfl⟩ := hy.addr (i := 0) (by omega)
      have hcall := AnyQ.slices_Equal Tryz.laysEqL 4 Tryz.isAgg35 Tryz.sizeOf35 elC (fun _ => rfl) (fun x y => decide (x = y)) neq_el b1 o1 xs.length c b2 o2 ys.length d xs ys w (Nat.le_refl _) (Nat.le_refl _) hxl hyl (fun j hj i v hi => by rw [getElem!_pos xs j hj] at hi; exact (hx.get hj).2 i v hi) (fun j hj i v hi => by rw [getElem!_pos ys j hj] at hi; exact (hy.get hj).2 i v hi)
      rw [List.take_length, List.take_length, allEq_eq, hr.out] at hcall
      exact hcall.mono fun e w' h => ⟨h.1, by obtain ⟨q, hq⟩ := h.2; rw [hq]; exact below_dr w q⟩
  · have hr2 : r = false := by rw [← hr.out]; simp; intro h; rw [h] at hl; exact hl rfl
    subst hr2
    have hz : (((xs.length : Nat) : Int) != ((ys.length : Nat) : Int)) = true := by simp; omega
    clear hr hx hy hl
    go_enter Tryz.func47, Tryz.ntmps47
    go_wp2_with fail
    go_ret
    exact ⟨rfl, Below.refl _ _⟩
set_option maxRecDepth 100000 in
set_option maxHeartbeats 1000000 in
theorem eq_en (ao bo : Option Addr) (c d : Nat) (xs ys : List EN) (w : World) (r : Bool) (hx : RowC 8 enC w ao xs) (hy : RowC 8 enC w bo ys) (hxl : xs.length ≤ maxLen) (hyl : ys.length ≤ maxLen) (hr : Hid (decide (xs = ys) = r)) :
    Calls Tryz.prog 46 #[.slice ao xs.length c, .slice bo ys.length d] w fun e w' => e = .returned (.bool r) ∧ Below w.heap.size w w' := by
  unfold maxLen at hxl hyl
  by_cases hl : xs.length = ys.length
  · by_cases h0 : xs.length = 0
    · have e1 := List.eq_nil_of_length_eq_zero h0
      have e2 := List.eq_nil_of_length_eq_zero (hl ▸ h0)
      subst e1 e2
      have hr2 : r = true := by rw [← hr.out]; simp
      subst hr2
      clear hr hx hy h0 hl
      go_enter Tryz.func46, Tryz.ntmps46
      go_wp2_with fail
      go_loopg [13] 1 (fun gg iv wr => iv = .int .i64 0 ∧ Below w.heap.size w wr)
      case atStart => exact ⟨rfl, Below.refl _ _⟩
      case round =>
        obtain ⟨rfl, hbr⟩ := hrel
        go_wp2_with fail
        go_ret
        exact ⟨rfl, hbr⟩
    · obtain ⟨b1, o1, rfl⟩ := hx.addr (i := 0) (by omega)
      obtain ⟨b2, o2, rfl⟩ := hy.addr (i := 0) (by omega)
      have hcall := AnyQ.slices_Equal Tryz.laysEqN 8 Tryz.isAgg33 Tryz.sizeOf33 enC (fun _ => rfl) (fun x y => decide (x = y)) neq_en b1 o1 xs.length c b2 o2 ys.length d xs ys w (Nat.le_refl _) (Nat.le_refl _) hxl hyl (fun j hj i v hi => by rw [getElem!_pos xs j hj] at hi; exact (hx.get hj).2 i v hi) (fun j hj i v hi => by rw [getElem!_pos ys j hj] at hi; exact (hy.get hj).2 i v hi)
      rw [List.take_length, List.take_length, allEq_eq, hr.out] at hcall
      exact hcall.mono fun e w' h => ⟨h.1, by obtain ⟨q, hq⟩ := h.2; rw [hq]; exact below_dr w q⟩
  · have hr2 : r = false := by rw [← hr.out]; simp; intro h; rw [h] at hl; exact hl rfl
    subst hr2
    have hz : (((xs.length : Nat) : Int) != ((ys.length : Nat) : Int)) = true := by simp; omega
    clear hr hx hy hl
    go_enter Tryz.func46, Tryz.ntmps46
    go_wp2_with fail
    go_ret
    exact ⟨rfl, Below.refl _ _⟩
set_option maxRecDepth 100000 in
set_option maxHeartbeats 1000000 in
theorem eq_pat (ao bo : Option Addr) (c d : Nat) (xs ys : List Nat) (w : World) (r : Bool) (hx : Cells .u64 w ao xs) (hy : Cells .u64 w bo ys) (hxl : xs.length ≤ maxLen) (hyl : ys.length ≤ maxLen) (hr : Hid (decide (xs = ys) = r)) :
    Calls Tryz.prog 45 #[.slice ao xs.length c, .slice bo ys.length d] w fun e w' => e = .returned (.bool r) ∧ Below w.heap.size w w' := by
  unfold maxLen at hxl hyl
  by_cases hl : xs.length = ys.length
  · by_cases h0 : xs.length = 0
    · have e1 := List.eq_nil_of_length_eq_zero h0
      have e2 := List.eq_nil_of_length_eq_zero (hl ▸ h0)
      subst e1 e2
      have hr2 : r = true := by rw [← hr.out]; simp
      subst hr2
      clear hr hx hy h0 hl
      go_enter Tryz.func45, Tryz.ntmps45
      go_wp2_with fail
      go_loopg [13] 1 (fun gg iv wr => iv = .int .i64 0 ∧ Below w.heap.size w wr)
      case atStart => exact ⟨rfl, Below.refl _ _⟩
      case round =>
        obtain ⟨rfl, hbr⟩ := hrel
        go_wp2_with fail
        go_ret
        exact ⟨rfl, hbr⟩
    · rcases hx with h | ⟨b1, o1, rfl, hb1, hc1⟩
      · rw [h] at h0; simp at h0
      rcases hy with h | ⟨b2, o2, rfl, hb2, hc2⟩
      · rw [h] at hl; rw [hl] at h0; simp at h0
      have hcall := AnyE.slices_Equal Tryz.laysEqP (fun n : Nat => Value.int .u64 (n : Int)) (fun x y => decide (x = y)) neq_pat b1 o1 xs.length c b2 o2 ys.length d xs ys w (Nat.le_refl _) (Nat.le_refl _) hxl hyl (fun j hj => by rw [hc1 j hj, getElem!_pos xs j hj, List.getElem?_eq_getElem hj]; rfl) (fun j hj => by rw [hc2 j hj, getElem!_pos ys j hj, List.getElem?_eq_getElem hj]; rfl)
      rw [List.take_length, List.take_length, allEq_eq, hr.out] at hcall
      exact hcall.mono fun e w' h => ⟨h.1, by obtain ⟨q, hq⟩ := h.2; rw [hq]; exact below_dr w q⟩
  · have hr2 : r = false := by rw [← hr.out]; simp; intro h; rw [h] at hl; exact hl rfl
    subst hr2
    have hz : (((xs.length : Nat) : Int) != ((ys.length : Nat) : Int)) = true := by simp; omega
    clear hr hx hy hl
    go_enter Tryz.func45, Tryz.ntmps45
    go_wp2_with fail
    go_ret
    exact ⟨rfl, Below.refl _ _⟩
end Go.Proofs.YtieffhkfefimeaaGreat
