import Derived.Test.YtafmhoeammbemaaDoorBookI
import Derived.Test.YtafmhoeammbemaaDoorMathL
namespace Go.Proofs.YtafmhoeammbemaaDoor
open Go.RowKit
set_option linter.unusedVariables false
set_option linter.unusedSimpArgs false
theorem drop_get {ns : List Int} {i : Nat} (h : i < ns.length) : ns.drop i = (ns[i]?.getD 0) :: ns.drop (i + 1) := by
  rw [List.drop_eq_getElem_cons h, List.getElem?_eq_getElem h]; rfl
theorem drop_all {ns : List Int} {i : Nat} (h : ¬ i < ns.length) : ns.drop i = [] := List.drop_eq_nil_of_le (by omega)
theorem ints_two (w : World) (x y : Int) (t : TypeId) : IntsI .i64 (w.alloc (.cells #[.int .i64 x, .int .i64 y] t)) (.slice (some ⟨w.heap.size, 0, none⟩) 2 2) [x, y] :=
  ⟨some ⟨w.heap.size, 0, none⟩, 2, rfl, Nat.le_refl _, by decide, .inr ⟨w.heap.size, 0, rfl, by simp, fun i hi => by
    rcases (show i = 0 ∨ i = 1 by simp at hi; omega) with rfl | rfl
    · go_simp
    · go_simp⟩⟩
theorem ints_nil (k : IntKind) (w : World) : IntsI k w (.slice none 0 0) [] := ⟨none, 0, rfl, Nat.le_refl _, Nat.zero_le _, .inl rfl⟩
set_option maxRecDepth 100000 in
theorem known_yes (a : Int) (w : World) (h : a = 0 ∨ a = 1) : Calls Tryd.prog 20 #[.int .i64 a] w fun e w' => e = .returned (.bool true) ∧ Below w.heap.size w w' := by
  rcases h with rfl | rfl
  all_goals
    go_enter Tryd.func20, Tryd.ntmps20
    go_wp2_with fail
    go_ret
    exact ⟨rfl, Below.refl _ _⟩
set_option maxRecDepth 100000 in
theorem known_no (a : Int) (w : World) (h0 : (a == 0) = false) (h1 : (a == 1) = false) : Calls Tryd.prog 20 #[.int .i64 a] w fun e w' => e = .returned (.bool false) ∧ Below w.heap.size w w' := by
  go_enter Tryd.func20, Tryd.ntmps20
  go_wp2_with fail
  go_ret
  exact ⟨rfl, Below.refl _ _⟩
set_option maxRecDepth 100000 in
theorem not_any (a r : Int) (w : World) (hr : Hid (notI a = r)) : Calls Tryd.prog 17 #[.int .i64 a] w fun e w' => e = .returned (.int .i64 r) ∧ Below w.heap.size w w' := by
  by_cases h0 : a = 0
  · subst h0
    have h9 : r = 1 := by rw [← hr.out]; rfl
    subst h9; clear hr
    go_enter Tryd.func17, Tryd.ntmps17
    go_wp2_with fail
    go_ret
    exact ⟨rfl, Below.refl _ _⟩
  · by_cases h1 : a = 1
    · subst h1
      have h9 : r = 0 := by rw [← hr.out]; rfl
      subst h9; clear hr h0
      go_enter Tryd.func17, Tryd.ntmps17
      go_wp2_with fail
      go_ret
      exact ⟨rfl, Below.refl _ _⟩
    · have h9 : r = 2 := by rw [← hr.out]; unfold notI; rw [if_neg h0, if_neg h1]
      subst h9; clear hr
      have e0 : (a == 0) = false := by simp [h0]
      have e1 : (a == 1) = false := by simp [h1]
      go_enter Tryd.func17, Tryd.ntmps17
      go_wp2_with fail
      go_ret
      exact ⟨rfl, Below.refl _ _⟩
set_option maxRecDepth 100000 in
set_option maxHeartbeats 1000000 in
theorem and_any (va : Value) (ns : List Int) (r : Int) (w : World) (h : IntsI .i64 w va ns) (hr : Hid (andF 1 ns = r)) :
    Calls Tryd.prog 9 #[va] w fun e w' => e = .returned (.int .i64 r) ∧ Below w.heap.size w w' := by
  obtain ⟨ao, ca, rfl, h1, h2, h3⟩ := h
  unfold maxLen at h2
  go_enter Tryd.func9, Tryd.ntmps9
  go_wp2_with fail
  go_loopg [3, 8] ns.length (fun gg ov iv wr => ∃ (i : Nat) (o : Int), i + gg = ns.length ∧ ov = .int .i64 o ∧ iv = .int .i64 (i : Int) ∧ Hid (andF o (ns.drop i) = r) ∧ Below w.heap.size w wr)
  case atStart => exact ⟨0, 1, by omega, rfl, rfl, hr, Below.refl _ _⟩
  case round =>
    obtain ⟨i, o, hi, rfl, rfl, hF, hbr⟩ := hrel
    by_cases hil : i < ns.length
    · rcases h3 with h | ⟨g, off, rfl, hg, hc⟩
      · rw [h] at hil; simp at hil
      have ea := (hbr.cell (p := ⟨g, off + i, none⟩) hg).trans (hc i hil)
      have HD := Lib.hid (drop_get hil)
      clear hc
      generalize ns[i]?.getD 0 = a at ea HD
      have q1 : (i : Int) < (ns.length : Int) := by omega
      have q2 : (0 : Int) ≤ (i : Int) := by omega
      by_cases h0 : a = 0
      · subst h0
        have h9 : r = 0 := by have h8 := hF.out; rw [HD.out] at h8; rw [← h8]; unfold andF; simp
        subst h9
        clear hF HD
        go_wp2_with fail
        go_ret
        exact ⟨rfl, hbr⟩
      · have e0 : (a == 0) = false := by simp [h0]
        by_cases h1 : a = 1
        · subst h1
          clear h0 e0
          have h9 : Hid (andF o (ns.drop (i + 1)) = r) := Lib.hid (by have h8 := hF.out; rw [HD.out] at h8; rw [← h8]; (conv => rhs; unfold andF); simp)
          clear hF HD
          go_wp2_with (go_at_call 20; refine (known_yes 1 _ (by omega)).mono ?_; rintro e w9 ⟨rfl, hb9⟩)
          go_roundg (gk - 1)
          case measure => omega
          case rel => exact ⟨i + 1, o, by omega, rfl, by first | rfl | go_num, h9, hbr.trans (hb9.mono hbr.size)⟩
        · have e1 : (a == 1) = false := by simp [h1]
          have h9 : Hid (andF 2 (ns.drop (i + 1)) = r) := Lib.hid (by have h8 := hF.out; rw [HD.out] at h8; rw [← h8]; (conv => rhs; unfold andF); simp [h0, h1])
          clear hF HD
          go_wp2_with (go_at_call 20; refine (known_no a _ e0 e1).mono ?_; rintro e w9 ⟨rfl, hb9⟩)
          go_roundg (gk - 1)
          case measure => omega
          case rel => exact ⟨i + 1, 2, by omega, rfl, by first | rfl | go_num, h9, hbr.trans (hb9.mono hbr.size)⟩
    · have q1 : ¬ (i : Int) < (ns.length : Int) := by omega
      have h9 : o = r := by rw [← hF.out, drop_all hil]; rfl
      subst h9; clear hF
      go_wp2_with fail
      go_ret
      exact ⟨rfl, hbr⟩
set_option maxRecDepth 100000 in
set_option maxHeartbeats 1000000 in
theorem or_any (va : Value) (ns : List Int) (r : Int) (w : World) (h : IntsI .i64 w va ns) (hr : Hid (orF 0 ns = r)) :
    Calls Tryd.prog 10 #[va] w fun e w' => e = .returned (.int .i64 r) ∧ Below w.heap.size w w' := by
  obtain ⟨ao, ca, rfl, h1, h2, h3⟩ := h
  unfold maxLen at h2
  go_enter Tryd.func10, Tryd.ntmps10
  go_wp2_with fail
  go_loopg [3, 8] ns.length (fun gg ov iv wr => ∃ (i : Nat) (o : Int), i + gg = ns.length ∧ ov = .int .i64 o ∧ iv = .int .i64 (i : Int) ∧ Hid (orF o (ns.drop i) = r) ∧ Below w.heap.size w wr)
  case atStart => exact ⟨0, 0, by omega, rfl, rfl, hr, Below.refl _ _⟩
  case round =>
    obtain ⟨i, o, hi, rfl, rfl, hF, hbr⟩ := hrel
    by_cases hil : i < ns.length
    · rcases h3 with h | ⟨g, off, rfl, hg, hc⟩
      · rw [h] at hil; simp at hil
      have ea := (hbr.cell (p := ⟨g, off + i, none⟩) hg).trans (hc i hil)
      have HD := Lib.hid (drop_get hil)
      clear hc
      generalize ns[i]?.getD 0 = a at ea HD
      have q1 : (i : Int) < (ns.length : Int) := by omega
      have q2 : (0 : Int) ≤ (i : Int) := by omega
      by_cases h0 : a = 0
      · subst h0
        have h9 : Hid (orF o (ns.drop (i + 1)) = r) := Lib.hid (by have h8 := hF.out; rw [HD.out] at h8; rw [← h8]; (conv => rhs; unfold orF); simp)
        clear hF HD
        go_wp2_with (go_at_call 20; refine (known_yes 0 _ (by omega)).mono ?_; rintro e w9 ⟨rfl, hb9⟩)
        go_roundg (gk - 1)
        case measure => omega
        case rel => exact ⟨i + 1, o, by omega, rfl, by first | rfl | go_num, h9, hbr.trans (hb9.mono hbr.size)⟩
      · have e0 : (a == 0) = false := by simp [h0]
        by_cases h1 : a = 1
        · subst h1
          clear h0 e0
          have h9 : r = 1 := by have h8 := hF.out; rw [HD.out] at h8; rw [← h8]; unfold orF; simp
          subst h9
          clear hF HD
          go_wp2_with fail
          go_ret
          exact ⟨rfl, hbr⟩
        · have e1 : (a == 1) = false := by simp [h1]
          have h9 : Hid (orF 2 (ns.drop (i + 1)) = r) := Lib.hid (by have h8 := hF.out; rw [HD.out] at h8; rw [← h8]; (conv => rhs; unfold orF); simp [h0, h1])
          clear hF HD
          go_wp2_with (go_at_call 20; refine (known_no a _ e0 e1).mono ?_; rintro e w9 ⟨rfl, hb9⟩)
          go_roundg (gk - 1)
          case measure => omega
          case rel => exact ⟨i + 1, 2, by omega, rfl, by first | rfl | go_num, h9, hbr.trans (hb9.mono hbr.size)⟩
    · have q1 : ¬ (i : Int) < (ns.length : Int) := by omega
      have h9 : o = r := by rw [← hF.out, drop_all hil]; rfl
      subst h9; clear hF
      go_wp2_with fail
      go_ret
      exact ⟨rfl, hbr⟩
set_option maxRecDepth 100000 in
set_option maxHeartbeats 1000000 in
theorem xor_any (va : Value) (ns : List Int) (r : Int) (w : World) (h : IntsI .i64 w va ns) (hr : Hid (xorF 0 ns = r)) :
    Calls Tryd.prog 18 #[va] w fun e w' => e = .returned (.int .i64 r) ∧ Below w.heap.size w w' := by
  obtain ⟨ao, ca, rfl, h1, h2, h3⟩ := h
  unfold maxLen at h2
  go_enter Tryd.func18, Tryd.ntmps18
  go_wp2_with fail
  go_loopg [3, 8] ns.length (fun gg ov iv wr => ∃ (i : Nat) (o : Int), i + gg = ns.length ∧ ov = .int .i64 o ∧ iv = .int .i64 (i : Int) ∧ Hid (xorF o (ns.drop i) = r) ∧ Below w.heap.size w wr)
  case atStart => exact ⟨0, 0, by omega, rfl, rfl, hr, Below.refl _ _⟩
  case round =>
    obtain ⟨i, o, hi, rfl, rfl, hF, hbr⟩ := hrel
    by_cases hil : i < ns.length
    · rcases h3 with h | ⟨g, off, rfl, hg, hc⟩
      · rw [h] at hil; simp at hil
      have ea := (hbr.cell (p := ⟨g, off + i, none⟩) hg).trans (hc i hil)
      have HD := Lib.hid (drop_get hil)
      clear hc
      generalize ns[i]?.getD 0 = a at ea HD
      have q1 : (i : Int) < (ns.length : Int) := by omega
      have q2 : (0 : Int) ≤ (i : Int) := by omega
      by_cases h0 : a = 0
      · subst h0
        have h9 : Hid (xorF o (ns.drop (i + 1)) = r) := Lib.hid (by have h8 := hF.out; rw [HD.out] at h8; rw [← h8]; (conv => rhs; unfold xorF); simp)
        clear hF HD
        go_wp2_with (go_at_call 20; refine (known_yes 0 _ (by omega)).mono ?_; rintro e w9 ⟨rfl, hb9⟩)
        go_roundg (gk - 1)
        case measure => omega
        case rel => exact ⟨i + 1, o, by omega, rfl, by first | rfl | go_num, h9, hbr.trans (hb9.mono hbr.size)⟩
      · have e0 : (a == 0) = false := by simp [h0]
        by_cases h1 : a = 1
        · subst h1
          clear h0 e0
          have h9 : Hid (xorF (notI o) (ns.drop (i + 1)) = r) := Lib.hid (by have h8 := hF.out; rw [HD.out] at h8; rw [← h8]; (conv => rhs; unfold xorF); simp)
          clear hF HD
          go_wp2_with (first | (go_at_call 20; refine (known_yes 1 _ (by omega)).mono ?_; rintro e w9 ⟨rfl, hb9⟩) | (go_at_call 17; refine (not_any o (notI o) _ (Lib.hid rfl)).mono ?_; rintro e w8 ⟨rfl, hb8⟩))
          go_roundg (gk - 1)
          case measure => omega
          case rel => exact ⟨i + 1, notI o, by omega, rfl, by first | rfl | go_num, h9, hbr.trans ((hb9.trans (hb8.mono hb9.size)).mono hbr.size)⟩
        · have e1 : (a == 1) = false := by simp [h1]
          have h9 : r = 2 := by have h8 := hF.out; rw [HD.out] at h8; rw [← h8]; unfold xorF; simp [h0, h1]
          subst h9
          clear hF HD
          go_wp2_with (go_at_call 20; refine (known_no a _ e0 e1).mono ?_; rintro e w9 ⟨rfl, hb9⟩)
          go_ret
          exact ⟨rfl, hbr.trans (hb9.mono hbr.size)⟩
    · have q1 : ¬ (i : Int) < (ns.length : Int) := by omega
      have h9 : o = r := by rw [← hF.out, drop_all hil]; rfl
      subst h9; clear hF
      go_wp2_with fail
      go_ret
      exact ⟨rfl, hbr⟩
set_option maxRecDepth 100000 in
set_option maxHeartbeats 1000000 in
theorem first_any (va : Value) (ns : List Int) (r : Int) (w : World) (h : IntsI .i64 w va ns) (hr : Hid (firstF ns = r)) :
    Calls Tryd.prog 11 #[va] w fun e w' => e = .returned (.int .i64 r) ∧ Below w.heap.size w w' := by
  obtain ⟨ao, ca, rfl, h1, h2, h3⟩ := h
  unfold maxLen at h2
  go_enter Tryd.func11, Tryd.ntmps11
  go_wp2_with fail
  go_loopg [7] ns.length (fun gg iv wr => ∃ (i : Nat), i + gg = ns.length ∧ iv = .int .i64 (i : Int) ∧ Hid (firstF (ns.drop i) = r) ∧ Below w.heap.size w wr)
  case atStart => exact ⟨0, by omega, rfl, hr, Below.refl _ _⟩
  case round =>
    obtain ⟨i, hi, rfl, hF, hbr⟩ := hrel
    by_cases hil : i < ns.length
    · rcases h3 with h | ⟨g, off, rfl, hg, hc⟩
      · rw [h] at hil; simp at hil
      have ea := (hbr.cell (p := ⟨g, off + i, none⟩) hg).trans (hc i hil)
      have HD := Lib.hid (drop_get hil)
      clear hc
      generalize ns[i]?.getD 0 = a at ea HD
      have q1 : (i : Int) < (ns.length : Int) := by omega
      have q2 : (0 : Int) ≤ (i : Int) := by omega
      by_cases h0 : a = 0
      · subst h0
        have h9 : r = 0 := by have h8 := hF.out; rw [HD.out] at h8; rw [← h8]; unfold firstF; simp
        subst h9
        clear hF HD
        go_wp2_with (go_at_call 20; refine (known_yes 0 _ (by omega)).mono ?_; rintro e w9 ⟨rfl, hb9⟩)
        go_ret
        exact ⟨rfl, hbr.trans (hb9.mono hbr.size)⟩
      · have e0 : (a == 0) = false := by simp [h0]
        by_cases h1 : a = 1
        · subst h1
          clear h0 e0
          have h9 : r = 1 := by have h8 := hF.out; rw [HD.out] at h8; rw [← h8]; unfold firstF; simp
          subst h9
          clear hF HD
          go_wp2_with (go_at_call 20; refine (known_yes 1 _ (by omega)).mono ?_; rintro e w9 ⟨rfl, hb9⟩)
          go_ret
          exact ⟨rfl, hbr.trans (hb9.mono hbr.size)⟩
        · have e1 : (a == 1) = false := by simp [h1]
          have h9 : Hid (firstF (ns.drop (i + 1)) = r) := Lib.hid (by have h8 := hF.out; rw [HD.out] at h8; rw [← h8]; (conv => rhs; unfold firstF); simp [h0, h1])
          clear hF HD
          go_wp2_with (go_at_call 20; refine (known_no a _ e0 e1).mono ?_; rintro e w9 ⟨rfl, hb9⟩)
          go_roundg (gk - 1)
          case measure => omega
          case rel => exact ⟨i + 1, by omega, by first | rfl | go_num, h9, hbr.trans (hb9.mono hbr.size)⟩
    · have q1 : ¬ (i : Int) < (ns.length : Int) := by omega
      have h9 : 2 = r := by rw [← hF.out, drop_all hil]; rfl
      subst h9; clear hF
      go_wp2_with fail
      go_ret
      exact ⟨rfl, hbr⟩
theorem load_vt {w : World} {b : Nat} {x y z : Value} (h0 : w.cell? ⟨b, 0, none⟩ = some x) (h1 : w.cell? ⟨b, 1, none⟩ = some y) (h2 : w.cell? ⟨b, 2, none⟩ = some z) : (loadVar 23 ⟨b, 0, none⟩).run Tryd.prog w = .ok (.agg #[x, y, z]) w := by
  simp [go_sem, h0, h1, h2]
/-- The end of a function whose one result is a value. -/
theorem ret_vt {fn : Func} {s : Nat} {R : Ending → World → Prop} {a : Act} {w : World} {b : Nat} {x y z : Value} (hres : fn.results = #[.cell s 23]) (hp : a.tmps.getD s undef = .pointer (some ⟨b, 0, none⟩)) (h0 : w.cell? ⟨b, 0, none⟩ = some x) (h1 : w.cell? ⟨b, 1, none⟩ = some y) (h2 : w.cell? ⟨b, 2, none⟩ = some z) (hd : a.defers = []) (hR : R (.returned (.agg #[x, y, z])) w) : bodyPost Tryd.prog fn R .ret a w := by
  refine bodyPost_ret (v := .agg #[x, y, z]) ?_ hd hR
  have hp' : a.tmps[s]?.getD undef = .pointer (some ⟨b, 0, none⟩) := by simpa using hp
  simp only [results, hres]
  simp [Sem.run_bind, Sem.run_pure, Result.andThen, hp', asAddr, load_vt h0 h1 h2]
set_option maxRecDepth 100000 in
theorem lfield_nil (w : World) : Calls Tryd.prog 13 #[.slice none 0 0, .int .i64 0] w fun e w' => e = .returned (.agg #[.int .i64 0, .string ⟨#[]⟩, .string ⟨#[]⟩]) ∧ Below w.heap.size w w' := by
  go_enter Tryd.func13, Tryd.ntmps13
  go_wp2_with fail
  exact ret_vt (b := w.heap.size) rfl rfl (by go_simp) (by go_simp) (by go_simp) rfl ⟨rfl, (Below.refl _ w).alloc (Nat.le_refl _) _⟩
set_option maxRecDepth 100000 in
set_option maxHeartbeats 1000000 in
theorem eval_true (w : World) : Calls Tryd.prog 7 #[.agg #[.int .i64 1, .int .i64 0, .slice none 0 0, .slice none 0 0], .slice none 0 0] w fun e w' => e = .returned (.int .i64 1) ∧ Below w.heap.size w w' := by
  obtain ⟨w0, hw0⟩ : ∃ w0, w0 = w.alloc (.cells #[.int .i64 1, .int .i64 0, .slice none 0 0, .slice none 0 0] 32) := ⟨_, rfl⟩
  have hbf : Below w.heap.size w w0 := by rw [hw0]; exact (Below.refl _ w).alloc (Nat.le_refl _) _
  have c0 : w0.cell? ⟨w.heap.size, 0, none⟩ = some (.int .i64 1) := by rw [hw0]; go_simp
  have c1 : w0.cell? ⟨w.heap.size, 1, none⟩ = some (.int .i64 0) := by rw [hw0]; go_simp
  have HW := Lib.hid hw0
  clear hw0
  go_enter Tryd.func7, Tryd.ntmps7
  go_upto_region 1 with fail
  rw [← HW.out]
  go_wp2_with fail
  refine (lfield_nil _).mono ?_
  rintro e w1 ⟨rfl, hb1⟩
  replace c0 := (hb1.cell (p := ⟨w.heap.size, 0, none⟩) (World.block_lt_of_cell? w0 ⟨w.heap.size, 0, none⟩ c0)).trans c0
  clear c1
  obtain ⟨w2, hw2⟩ : ∃ w2, w2 = w1.alloc (.cells #[.int .i64 0, .string ⟨#[]⟩, .string ⟨#[]⟩] 23) := ⟨_, rfl⟩
  have hb2 : Below w1.heap.size w1 w2 := by rw [hw2]; exact (Below.refl _ w1).alloc (Nat.le_refl _) _
  replace c0 := (hb2.cell (p := ⟨w.heap.size, 0, none⟩) (World.block_lt_of_cell? w1 ⟨w.heap.size, 0, none⟩ c0)).trans c0
  have HW2 := Lib.hid hw2
  clear hw2
  go_upto_region 2 with fail
  rw [← HW2.out]
  go_wp2_with fail
  go_ret
  exact ⟨rfl, hbf.trans ((hb1.trans (hb2.mono hb1.size)).mono hbf.size)⟩
set_option maxRecDepth 100000 in
set_option maxHeartbeats 1000000 in
theorem alive13_any (w : World) : Calls Tryd.prog 5 #[] w fun e w' => e = .returned (.bool true) ∧ Below w.heap.size w w' := by
  go_enter Tryd.func5, Tryd.ntmps5
  go_wp2_with fail
  refine (and_any _ [1, 2] 2 _ (ints_two _ 1 2 _) (Lib.hid (by decide))).mono ?_
  rintro e w1 ⟨rfl, hb1⟩
  have hbf : Below w.heap.size w w1 := ((Below.refl _ w).alloc (Nat.le_refl _) _).trans (hb1.mono (by simp))
  clear hb1
  go_wp2_with fail
  refine (or_any _ [1, 2] 1 _ (ints_two _ 1 2 _) (Lib.hid (by decide))).mono ?_
  rintro e w2 ⟨rfl, hb1⟩
  replace hbf := hbf.trans (((Below.refl _ w1).alloc (Nat.le_refl _) _).trans (hb1.mono (by simp)) |>.mono hbf.size)
  clear hb1
  go_wp2_with fail
  refine (first_any _ [2, 0] 0 _ (ints_two _ 2 0 _) (Lib.hid (by decide))).mono ?_
  rintro e w3 ⟨rfl, hb1⟩
  replace hbf := hbf.trans (((Below.refl _ w2).alloc (Nat.le_refl _) _).trans (hb1.mono (by simp)) |>.mono hbf.size)
  clear hb1
  go_wp2_with fail
  refine (and_any _ [] 1 _ (ints_nil _ _) (Lib.hid (by decide))).mono ?_
  rintro e w4 ⟨rfl, hb1⟩
  replace hbf := hbf.trans (hb1.mono hbf.size)
  clear hb1
  go_wp2_with fail
  refine (eval_true _).mono ?_
  rintro e w5 ⟨rfl, hb1⟩
  replace hbf := hbf.trans (hb1.mono hbf.size)
  clear hb1
  go_wp2_with fail
  go_ret
  exact ⟨rfl, hbf⟩
end Go.Proofs.YtafmhoeammbemaaDoor
