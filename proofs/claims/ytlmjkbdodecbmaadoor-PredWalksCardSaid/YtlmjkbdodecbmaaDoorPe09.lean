/-
  Pe09: MathL TruA OpenG OpenV OpenW OpenF OpenP LawPw (what is needed of them).
-/
import Derived.Test.YtlmjkbdodecbmaaDoorPe01
import Derived.Test.YtlmjkbdodecbmaaDoorPe02
import Derived.Test.YtlmjkbdodecbmaaDoorPe03
import Derived.Test.YtlmjkbdodecbmaaDoorPe04
import Derived.Test.YtlmjkbdodecbmaaDoorPe08
import Derived.WalkKit
import Derived.ProofKit
import Derived.OpenShut
import Derived.ShutString
import Derived.Carry
import Derived.Deep.Fields
import Derived.Deep.Slices

namespace Go.Proofs.YtlmjkbdodecbmaaDoor
set_option linter.unusedVariables false
set_option linter.unusedSimpArgs false
def andF (out : Int) : List Int → Int
  | [] => out
  | a :: l => if a = 0 then 0 else andF (if a = 1 then out else 2) l
def orF (out : Int) : List Int → Int
  | [] => out
  | a :: l => if a = 1 then 1 else orF (if a = 0 then out else 2) l
def firstF : List Int → Int
  | [] => 2
  | a :: l => if a = 0 ∨ a = 1 then a else firstF l
end Go.Proofs.YtlmjkbdodecbmaaDoor

namespace Go.Proofs.YtlmjkbdodecbmaaDoor
open Go.RowKit
set_option linter.unusedVariables false
set_option linter.unusedSimpArgs false
theorem drop_get {ns : List Int} {i : Nat} (h : i < ns.length) : ns.drop i = (ns[i]?.getD 0) :: ns.drop (i + 1) := by
  rw [List.drop_eq_getElem_cons h, List.getElem?_eq_getElem h]; rfl
theorem drop_all {ns : List Int} {i : Nat} (h : ¬ i < ns.length) : ns.drop i = [] := List.drop_eq_nil_of_le (by omega)
theorem ints_two (w : World) (x y : Int) (t : TypeId) : IntsI .i64 (w.alloc (.cells #[.int .i64 x, .int .i64 y] t)) (.slice (some ⟨w.heap.size, 0, none⟩) 2 2) [x, y] :=
  ⟨some ⟨w.heap.size, 0, none⟩, 2, rfl, Nat.le_refl _, by decide, .inr ⟨w.heap.size, 0, rfl, by simp, fun i hi => by
    rcases (show i = 0 ∨ i = 1 by simp at hi; omega) with rfl | rfl
    · go_simp
    · go_simp⟩⟩
theorem ints_nil (k : IntKind) (w : World) : IntsI k w (.slice none 0 0) [] := ⟨none, 0, rfl, Nat.le_refl _, Nat.zero_le _, .inl rfl⟩
set_option maxRecDepth 100000 in
theorem known_yes (a : Int) (w : World) (h : a = 0 ∨ a = 1) : Calls Tryd.prog 53 #[.int .i64 a] w fun e w' => e = .returned (.bool true) ∧ Below w.heap.size w w' := by
  rcases h with rfl | rfl
  all_goals
    go_enter Tryd.func53, Tryd.ntmps53
    go_wp2_with fail
    go_ret
    exact ⟨rfl, Below.refl _ _⟩
set_option maxRecDepth 100000 in
theorem known_no (a : Int) (w : World) (h0 : (a == 0) = false) (h1 : (a == 1) = false) : Calls Tryd.prog 53 #[.int .i64 a] w fun e w' => e = .returned (.bool false) ∧ Below w.heap.size w w' := by
  go_enter Tryd.func53, Tryd.ntmps53
  go_wp2_with fail
  go_ret
  exact ⟨rfl, Below.refl _ _⟩
set_option maxRecDepth 100000 in
set_option maxHeartbeats 1000000 in
theorem and_any (va : Value) (ns : List Int) (r : Int) (w : World) (h : IntsI .i64 w va ns) (hr : Hid (andF 1 ns = r)) :
    Calls Tryd.prog 29 #[va] w fun e w' => e = .returned (.int .i64 r) ∧ Below w.heap.size w w' := by
  obtain ⟨ao, ca, rfl, h1, h2, h3⟩ := h
  unfold maxLen at h2
  go_enter Tryd.func29, Tryd.ntmps29
  go_wp2_with fail
  go_loopg [3, 8] ns.length (fun gg ov iv wr => ∃ (i : Nat) (o : Int), i + gg = ns.length ∧ ov = .int .i64 o ∧ iv = .int .i64 (i : Int) ∧ Hid (andF o (ns.drop i) = r) ∧ Below w.heap.size w wr)
  case atStart => exact ⟨0, 1, by omega, rfl, rfl, hr, Below.refl _ _⟩
  case round =>
    obtain ⟨i, o, hi, rfl, rfl, hF, hbr⟩ := hrel
    by_cases hil : i < ns.length
    · rcases h3 with h | ⟨g, off, rfl, hg, hc⟩
      · rw [h] at hil; simp at hil
      have ea := (hbr.cell (p := ⟨g, off + i, none⟩) hg).trans (hc i hil)
      have HD := Lib.hid (drop_get hil)
      clear hc
      generalize ns[i]?.getD 0 = a at ea HD
      have q1 : (i : Int) < (ns.length : Int) := by omega
      have q2 : (0 : Int) ≤ (i : Int) := by omega
      by_cases h0 : a = 0
      · subst h0
        have h9 : r = 0 := by have h8 := hF.out; rw [HD.out] at h8; rw [← h8]; unfold andF; simp
        subst h9
        clear hF HD
        go_wp2_with fail
        go_ret
        exact ⟨rfl, hbr⟩
      · have e0 : (a == 0) = false := by simp [h0]
        by_cases h1 : a = 1
        · subst h1
          clear h0 e0
          have h9 : Hid (andF o (ns.drop (i + 1)) = r) := Lib.hid (by have h8 := hF.out; rw [HD.out] at h8; rw [← h8]; (conv => rhs; unfold andF); simp)
          clear hF HD
          go_wp2_with (go_at_call 53; refine (known_yes 1 _ (by omega)).mono ?_; rintro e w9 ⟨rfl, hb9⟩)
          go_roundg (gk - 1)
          case measure => omega
          case rel => exact ⟨i + 1, o, by omega, rfl, by first | rfl | go_num, h9, hbr.trans (hb9.mono hbr.size)⟩
        · have e1 : (a == 1) = false := by simp [h1]
          have h9 : Hid (andF 2 (ns.drop (i + 1)) = r) := Lib.hid (by have h8 := hF.out; rw [HD.out] at h8; rw [← h8]; (conv => rhs; unfold andF); simp [h0, h1])
          clear hF HD
          go_wp2_with (go_at_call 53; refine (known_no a _ e0 e1).mono ?_; rintro e w9 ⟨rfl, hb9⟩)
          go_roundg (gk - 1)
          case measure => omega
          case rel => exact ⟨i + 1, 2, by omega, rfl, by first | rfl | go_num, h9, hbr.trans (hb9.mono hbr.size)⟩
    · have q1 : ¬ (i : Int) < (ns.length : Int) := by omega
      have h9 : o = r := by rw [← hF.out, drop_all hil]; rfl
      subst h9; clear hF
      go_wp2_with fail
      go_ret
      exact ⟨rfl, hbr⟩
set_option maxRecDepth 100000 in
set_option maxHeartbeats 1000000 in
theorem or_any (va : Value) (ns : List Int) (r : Int) (w : World) (h : IntsI .i64 w va ns) (hr : Hid (orF 0 ns = r)) :
    Calls Tryd.prog 30 #[va] w fun e w' => e = .returned (.int .i64 r) ∧ Below w.heap.size w w' := by
  obtain ⟨ao, ca, rfl, h1, h2, h3⟩ := h
  unfold maxLen at h2
  go_enter Tryd.func30, Tryd.ntmps30
  go_wp2_with fail
  go_loopg [3, 8] ns.length (fun gg ov iv wr => ∃ (i : Nat) (o : Int), i + gg = ns.length ∧ ov = .int .i64 o ∧ iv = .int .i64 (i : Int) ∧ Hid (orF o (ns.drop i) = r) ∧ Below w.heap.size w wr)
  case atStart => exact ⟨0, 0, by omega, rfl, rfl, hr, Below.refl _ _⟩
  case round =>
    obtain ⟨i, o, hi, rfl, rfl, hF, hbr⟩ := hrel
    by_cases hil : i < ns.length
    · rcases h3 with h | ⟨g, off, rfl, hg, hc⟩
      · rw [h] at hil; simp at hil
      have ea := (hbr.cell (p := ⟨g, off + i, none⟩) hg).trans (hc i hil)
      have HD := Lib.hid (drop_get hil)
      clear hc
      generalize ns[i]?.getD 0 = a at ea HD
      have q1 : (i : Int) < (ns.length : Int) := by omega
      have q2 : (0 : Int) ≤ (i : Int) := by omega
      by_cases h0 : a = 0
      · subst h0
        have h9 : Hid (orF o (ns.drop (i + 1)) = r) := Lib.hid (by have h8 := hF.out; rw [HD.out] at h8; rw [← h8]; (conv => rhs; unfold orF); simp)
        clear hF HD
        go_wp2_with (go_at_call 53; refine (known_yes 0 _ (by omega)).mono ?_; rintro e w9 ⟨rfl, hb9⟩)
        go_roundg (gk - 1)
        case measure => omega
        case rel => exact ⟨i + 1, o, by omega, rfl, by first | rfl | go_num, h9, hbr.trans (hb9.mono hbr.size)⟩
      · have e0 : (a == 0) = false := by simp [h0]
        by_cases h1 : a = 1
        · subst h1
          clear h0 e0
          have h9 : r = 1 := by have h8 := hF.out; rw [HD.out] at h8; rw [← h8]; unfold orF; simp
          subst h9
          clear hF HD
          go_wp2_with fail
          go_ret
          exact ⟨rfl, hbr⟩
        · have e1 : (a == 1) = false := by simp [h1]
          have h9 : Hid (orF 2 (ns.drop (i + 1)) = r) := Lib.hid (by have h8 := hF.out; rw [HD.out] at h8; rw [← h8]; (conv => rhs; unfold orF); simp [h0, h1])
          clear hF HD
          go_wp2_with (go_at_call 53; refine (known_no a _ e0 e1).mono ?_; rintro e w9 ⟨rfl, hb9⟩)
          go_roundg (gk - 1)
          case measure => omega
          case rel => exact ⟨i + 1, 2, by omega, rfl, by first | rfl | go_num, h9, hbr.trans (hb9.mono hbr.size)⟩
    · have q1 : ¬ (i : Int) < (ns.length : Int) := by omega
      have h9 : o = r := by rw [← hF.out, drop_all hil]; rfl
      subst h9; clear hF
      go_wp2_with fail
      go_ret
      exact ⟨rfl, hbr⟩
set_option maxRecDepth 100000 in
set_option maxHeartbeats 1000000 in
theorem first_any (va : Value) (ns : List Int) (r : Int) (w : World) (h : IntsI .i64 w va ns) (hr : Hid (firstF ns = r)) :
    Calls Tryd.prog 31 #[va] w fun e w' => e = .returned (.int .i64 r) ∧ Below w.heap.size w w' := by
  obtain ⟨ao, ca, rfl, h1, h2, h3⟩ := h
  unfold maxLen at h2
  go_enter Tryd.func31, Tryd.ntmps31
  go_wp2_with fail
  go_loopg [7] ns.length (fun gg iv wr => ∃ (i : Nat), i + gg = ns.length ∧ iv = .int .i64 (i : Int) ∧ Hid (firstF (ns.drop i) = r) ∧ Below w.heap.size w wr)
  case atStart => exact ⟨0, by omega, rfl, hr, Below.refl _ _⟩
  case round =>
    obtain ⟨i, hi, rfl, hF, hbr⟩ := hrel
    by_cases hil : i < ns.length
    · rcases h3 with h | ⟨g, off, rfl, hg, hc⟩
      · rw [h] at hil; simp at hil
      have ea := (hbr.cell (p := ⟨g, off + i, none⟩) hg).trans (hc i hil)
      have HD := Lib.hid (drop_get hil)
      clear hc
      generalize ns[i]?.getD 0 = a at ea HD
      have q1 : (i : Int) < (ns.length : Int) := by omega
      have q2 : (0 : Int) ≤ (i : Int) := by omega
      by_cases h0 : a = 0
      · subst h0
        have h9 : r = 0 := by have h8 := hF.out; rw [HD.out] at h8; rw [← h8]; unfold firstF; simp
        subst h9
        clear hF HD
        go_wp2_with (go_at_call 53; refine (known_yes 0 _ (by omega)).mono ?_; rintro e w9 ⟨rfl, hb9⟩)
        go_ret
        exact ⟨rfl, hbr.trans (hb9.mono hbr.size)⟩
      · have e0 : (a == 0) = false := by simp [h0]
        by_cases h1 : a = 1
        · subst h1
          clear h0 e0
          have h9 : r = 1 := by have h8 := hF.out; rw [HD.out] at h8; rw [← h8]; unfold firstF; simp
          subst h9
          clear hF HD
          go_wp2_with (go_at_call 53; refine (known_yes 1 _ (by omega)).mono ?_; rintro e w9 ⟨rfl, hb9⟩)
          go_ret
          exact ⟨rfl, hbr.trans (hb9.mono hbr.size)⟩
        · have e1 : (a == 1) = false := by simp [h1]
          have h9 : Hid (firstF (ns.drop (i + 1)) = r) := Lib.hid (by have h8 := hF.out; rw [HD.out] at h8; rw [← h8]; (conv => rhs; unfold firstF); simp [h0, h1])
          clear hF HD
          go_wp2_with (go_at_call 53; refine (known_no a _ e0 e1).mono ?_; rintro e w9 ⟨rfl, hb9⟩)
          go_roundg (gk - 1)
          case measure => omega
          case rel => exact ⟨i + 1, by omega, by first | rfl | go_num, h9, hbr.trans (hb9.mono hbr.size)⟩
    · have q1 : ¬ (i : Int) < (ns.length : Int) := by omega
      have h9 : 2 = r := by rw [← hF.out, drop_all hil]; rfl
      subst h9; clear hF
      go_wp2_with fail
      go_ret
      exact ⟨rfl, hbr⟩
theorem load_vt {w : World} {b : Nat} {x y z : Value} (h0 : w.cell? ⟨b, 0, none⟩ = some x) (h1 : w.cell? ⟨b, 1, none⟩ = some y) (h2 : w.cell? ⟨b, 2, none⟩ = some z) : (loadVar 57 ⟨b, 0, none⟩).run Tryd.prog w = .ok (.agg #[x, y, z]) w := by
  simp [go_sem, h0, h1, h2]
/-- The end of a function whose one result is a value. -/
theorem ret_vt {fn : Func} {s : Nat} {R : Ending → World → Prop} {a : Act} {w : World} {b : Nat} {x y z : Value} (hres : fn.results = #[.cell s 57]) (hp : a.tmps.getD s undef = .pointer (some ⟨b, 0, none⟩)) (h0 : w.cell? ⟨b, 0, none⟩ = some x) (h1 : w.cell? ⟨b, 1, none⟩ = some y) (h2 : w.cell? ⟨b, 2, none⟩ = some z) (hd : a.defers = []) (hR : R (.returned (.agg #[x, y, z])) w) : bodyPost Tryd.prog fn R .ret a w := by
  refine bodyPost_ret (v := .agg #[x, y, z]) ?_ hd hR
  have hp' : a.tmps[s]?.getD undef = .pointer (some ⟨b, 0, none⟩) := by simpa using hp
  simp only [results, hres]
  simp [Sem.run_bind, Sem.run_pure, Result.andThen, hp', asAddr, load_vt h0 h1 h2]
set_option maxRecDepth 100000 in
theorem lfield_nil (w : World) : Calls Tryd.prog 54 #[.slice none 0 0, .int .i64 0] w fun e w' => e = .returned (.agg #[.int .i64 0, .string ⟨#[]⟩, .string ⟨#[]⟩]) ∧ Below w.heap.size w w' := by
  go_enter Tryd.func54, Tryd.ntmps54
  go_wp2_with fail
  exact ret_vt (b := w.heap.size) rfl rfl (by go_simp) (by go_simp) (by go_simp) rfl ⟨rfl, (Below.refl _ w).alloc (Nat.le_refl _) _⟩
set_option maxRecDepth 100000 in
set_option maxHeartbeats 1000000 in
theorem eval_true (w : World) : Calls Tryd.prog 32 #[.agg #[.int .i64 1, .int .i64 0, .slice none 0 0, .slice none 0 0], .slice none 0 0] w fun e w' => e = .returned (.int .i64 1) ∧ Below w.heap.size w w' := by
  obtain ⟨w0, hw0⟩ : ∃ w0, w0 = w.alloc (.cells #[.int .i64 1, .int .i64 0, .slice none 0 0, .slice none 0 0] 25) := ⟨_, rfl⟩
  have hbf : Below w.heap.size w w0 := by rw [hw0]; exact (Below.refl _ w).alloc (Nat.le_refl _) _
  have c0 : w0.cell? ⟨w.heap.size, 0, none⟩ = some (.int .i64 1) := by rw [hw0]; go_simp
  have c1 : w0.cell? ⟨w.heap.size, 1, none⟩ = some (.int .i64 0) := by rw [hw0]; go_simp
  have HW := Lib.hid hw0
  clear hw0
  go_enter Tryd.func32, Tryd.ntmps32
  go_upto_region 1 with fail
  rw [← HW.out]
  go_wp2_with fail
  refine (lfield_nil _).mono ?_
  rintro e w1 ⟨rfl, hb1⟩
  replace c0 := (hb1.cell (p := ⟨w.heap.size, 0, none⟩) (World.block_lt_of_cell? w0 ⟨w.heap.size, 0, none⟩ c0)).trans c0
  clear c1
  obtain ⟨w2, hw2⟩ : ∃ w2, w2 = w1.alloc (.cells #[.int .i64 0, .string ⟨#[]⟩, .string ⟨#[]⟩] 57) := ⟨_, rfl⟩
  have hb2 : Below w1.heap.size w1 w2 := by rw [hw2]; exact (Below.refl _ w1).alloc (Nat.le_refl _) _
  replace c0 := (hb2.cell (p := ⟨w.heap.size, 0, none⟩) (World.block_lt_of_cell? w1 ⟨w.heap.size, 0, none⟩ c0)).trans c0
  have HW2 := Lib.hid hw2
  clear hw2
  go_upto_region 2 with fail
  rw [← HW2.out]
  go_wp2_with fail
  go_ret
  exact ⟨rfl, hbf.trans ((hb1.trans (hb2.mono hb1.size)).mono hbf.size)⟩
set_option maxRecDepth 100000 in
set_option maxHeartbeats 1000000 in
theorem alive13_any (w : World) : Calls Tryd.prog 8 #[] w fun e w' => e = .returned (.bool true) ∧ Below w.heap.size w w' := by
  go_enter Tryd.func8, Tryd.ntmps8
  go_wp2_with fail
  refine (and_any _ [1, 2] 2 _ (ints_two _ 1 2 _) (Lib.hid (by decide))).mono ?_
  rintro e w1 ⟨rfl, hb1⟩
  have hbf : Below w.heap.size w w1 := ((Below.refl _ w).alloc (Nat.le_refl _) _).trans (hb1.mono (by simp))
  clear hb1
  go_wp2_with fail
  refine (or_any _ [1, 2] 1 _ (ints_two _ 1 2 _) (Lib.hid (by decide))).mono ?_
  rintro e w2 ⟨rfl, hb1⟩
  replace hbf := hbf.trans (((Below.refl _ w1).alloc (Nat.le_refl _) _).trans (hb1.mono (by simp)) |>.mono hbf.size)
  clear hb1
  go_wp2_with fail
  refine (first_any _ [2, 0] 0 _ (ints_two _ 2 0 _) (Lib.hid (by decide))).mono ?_
  rintro e w3 ⟨rfl, hb1⟩
  replace hbf := hbf.trans (((Below.refl _ w2).alloc (Nat.le_refl _) _).trans (hb1.mono (by simp)) |>.mono hbf.size)
  clear hb1
  go_wp2_with fail
  refine (and_any _ [] 1 _ (ints_nil _ _) (Lib.hid (by decide))).mono ?_
  rintro e w4 ⟨rfl, hb1⟩
  replace hbf := hbf.trans (hb1.mono hbf.size)
  clear hb1
  go_wp2_with fail
  refine (eval_true _).mono ?_
  rintro e w5 ⟨rfl, hb1⟩
  replace hbf := hbf.trans (hb1.mono hbf.size)
  clear hb1
  go_wp2_with fail
  go_ret
  exact ⟨rfl, hbf⟩
end Go.Proofs.YtlmjkbdodecbmaaDoor

namespace Go.Proofs.YtlmjkbdodecbmaaDoor
open Go.ChangeShapes Go.WideShapes Go.ChangeAt Go.RowKit Go.Deep
set_option linter.unusedVariables false
set_option maxRecDepth 100000 in
theorem laidOutN : laidOutB Tryd.prog = true := by kernel_rfl
theorem string_field {H : Type} {enc : TypeId × Value → H} {P : Program} {W : World} {base : Nat} {spare : Nat → Bool} {held : Bool} {n : Nat} {t : TypeId} {u : Value} {y : DataW H × List MemPlace} (ht : P.underlying t = some .string) (h : DataW.trod enc P W base spare held n t [u] = some y) :
    ∃ l : List UInt8, u = .string ⟨l.toArray⟩ ∧ l.length ≤ 9223372036854775807 := by
  obtain ⟨s, hs, _, hm⟩ := DataW.trod_string ht h
  obtain ⟨⟨l⟩⟩ := s
  simp at hs
  refine ⟨l, hs, ?_⟩
  unfold maxLen at hm
  have h9 : (⟨⟨l⟩⟩ : ByteArray).size = l.length := rfl
  omega
end Go.Proofs.YtlmjkbdodecbmaaDoor

namespace Go.Proofs.YtlmjkbdodecbmaaDoor
open Go.ChangeShapes Go.WideShapes Go.ChangeAt Go.RowKit Go.Deep
set_option linter.unusedVariables false
instance : Inhabited V3 := ⟨⟨0, [], []⟩⟩
theorem hone_at {P : Program} {t : TypeId} {fs : Array Field} (_ : P.underlying t = some (.struct fs)) (h : oneCellFields P fs = true) : ∀ (i : Nat) (f : Field), fs[i]? = some f → f.offset = i ∧ P.cellsOf f.type = 1 := fun i f hi => hone_of h i f hi
end Go.Proofs.YtlmjkbdodecbmaaDoor

namespace Go.Proofs.YtlmjkbdodecbmaaDoor
open Go.ChangeShapes Go.WideShapes Go.ChangeAt Go.RowKit Go.Deep
set_option linter.unusedVariables false
/-- A row of structs of k cells in memory. -/
def RowG {α : Type} (k : Nat) (enc : α → List Value) (w : World) (ao : Option Addr) (xs : List α) : Prop :=
  xs = [] ∨ ∃ b off, ao = some ⟨b, off, none⟩ ∧ b < w.heap.size ∧ ∀ i x, xs[i]? = some x → ∀ j c, (enc x)[j]? = some c → w.cell? ⟨b, off + i * k + j, none⟩ = some c
/-- A row of elements of k cells that came in: the elements, their cells. -/
theorem rowG_field {α : Type} [Inhabited α] {k : Nat} {enc : α → List Value} {good : α → Prop} (hk0 : 0 < k) (henc : ∀ x, (enc x).length = k) {t el : TypeId} {H : Type} {eh : TypeId × Value → H} {W : World} {u : Value} {n : Nat} {y : DataW H × List MemPlace} (ht : Tryd.prog.underlying t = some (.slice el)) (hc : Tryd.prog.cellsOf el = k)
    (each : ∀ (m : Nat) (cs : List Value) (x : DataW H × List MemPlace), m < n → cs.length = k → DataW.trod eh Tryd.prog W 0 (fun _ => true) true m el cs = some x → ∃ z, good z ∧ cs = enc z)
    (hf : DataW.trod eh Tryd.prog W 0 (fun _ => true) true n t [u] = some y) :
    ∃ (ao : Option Addr) (cap : Nat) (xs : List α), u = .slice ao xs.length cap ∧ RowG k enc W ao xs ∧ xs.length ≤ cap ∧ cap ≤ maxLen ∧ (ao = none → cap = 0) ∧ ∀ x ∈ xs, good x := by
  rcases DataW.trod_slice ht hf with ⟨hcs, _⟩ | ⟨a, len, cap, elems, rest, n', hn, hcs, _, _, hl, hm, hel, hx, _, _⟩
  · injection hcs with h1 _
    subst h1
    exact ⟨none, 0, [], rfl, .inl rfl, Nat.le_refl _, Nat.zero_le _, fun _ => rfl, by simp⟩
  · injection hcs with h1 _
    subst h1
    rw [hc] at hx
    have each2 : ∀ i, i < len → ∃ z : α, good z ∧ ∀ j c, (enc z)[j]? = some c → W.cell? (a.add (i * k + j)) = some c := by
      intro i hi
      have h0 := hx i hi
      rw [List.getElem?_eq_getElem (by omega)] at h0
      obtain ⟨cs', h1, h2⟩ := Option.bind_eq_some_iff.1 h0
      obtain ⟨_, hlen, hcell⟩ := World.cells?_some h1
      obtain ⟨z, hg, rfl⟩ := each _ _ _ (by omega) hlen h2
      refine ⟨z, hg, fun j c hj => ?_⟩
      have hjk : j < k := by rw [← henc z]; exact (List.getElem?_eq_some_iff.1 hj).1
      have e := hcell j (by omega)
      rw [add_add] at e
      rw [e]
      exact hj
    obtain ⟨V, hV⟩ := choose_lt each2
    have hlV : ((List.range len).map V).length = len := by simp
    refine ⟨some a, cap, (List.range len).map V, by rw [hlV], ?_, by rw [hlV]; exact hl, hm, fun h => (Option.some_ne_none _ h).elim, ?_⟩
    · rcases Nat.eq_zero_or_pos len with h0 | h0
      · left; subst h0; rfl
      · right
        have c0 := (hV 0 h0).2 0 _ (List.getElem?_eq_getElem (by rw [henc]; exact hk0))
        obtain ⟨blk, off, spot⟩ := a
        have hsp : spot = none := by
          unfold World.cell? at c0
          split at c0
          · cases spot with
            | none => rfl
            | some x => simp [Addr.add] at c0
          · cases c0
        subst hsp
        rw [Addr.add_lit] at c0
        refine ⟨blk, off, rfl, World.block_lt_of_cell? W ⟨blk, off + (0 * k + 0), none⟩ c0, fun i o hi j c hj => ?_⟩
        have hil : i < len := by
          have := (List.getElem?_eq_some_iff.1 hi).1
          rwa [hlV] at this
        have hv : o = V i := by
          rw [List.getElem?_map, List.getElem?_range hil] at hi
          simpa using hi.symm
        subst hv
        have h9 := (hV i hil).2 j c hj
        rw [Addr.add_lit, ← Nat.add_assoc] at h9
        exact h9
    · intro o ho
      obtain ⟨i, hi, rfl⟩ := List.mem_map.1 ho
      exact (hV i (List.mem_range.1 hi)).1
set_option maxRecDepth 100000 in
theorem value_cells {H : Type} {enc : TypeId × Value → H} {W : World} {n : Nat} {cs : List Value} {y : DataW H × List MemPlace} (hlen : cs.length = 3) (hf : DataW.trod enc Tryd.prog W 0 (fun _ => true) true n 57 cs = some y) :
    ∃ u : V3, cs = [.int .i64 u.k, .string ⟨u.n.toArray⟩, .string ⟨u.c.toArray⟩] ∧ u.n.length ≤ 9223372036854775807 ∧ u.c.length ≤ 9223372036854775807 := by
  obtain ⟨xs, k, _, _, _, hxl, hff⟩ := DataW.trod_struct Tryd.underlying57 hf
  have hone := hone_at Tryd.underlying57 (by kernel_rfl)
  have hxl3 : xs.length = 3 := hxl
  match xs, hxl3, cs, hlen, hff with
  | [y0, y1, y2], _, [v0, v1, v2], _, hff =>
    have g0 := hff 0 _ rfl
    have g1 := hff 1 _ rfl
    have g2 := hff 2 _ rfl
    have t0 := hone 0 _ rfl
    have t1 := hone 1 _ rfl
    have t2 := hone 2 _ rfl
    rw [t0.1, t0.2] at g0
    rw [t1.1, t1.2] at g1
    rw [t2.1, t2.2] at g2
    simp at g0 g1 g2
    obtain ⟨c, hc, _, _⟩ := DataW.trod_int Tryd.underlying3 g0
    simp at hc
    obtain ⟨l1, hl1, m1⟩ := string_field Tryd.underlying9 g1
    obtain ⟨l2, hl2, m2⟩ := string_field Tryd.underlying9 g2
    exact ⟨⟨c, l1, l2⟩, by rw [hc, hl1, hl2], m1, m2⟩
instance : Inhabited FV := ⟨⟨⟨[], 0, [], ⟨0, [], []⟩, 0⟩, none, 0⟩⟩
end Go.Proofs.YtlmjkbdodecbmaaDoor

namespace Go.Proofs.YtlmjkbdodecbmaaDoor
open Go.ChangeShapes Go.WideShapes Go.ChangeAt Go.RowKit Go.Deep
set_option linter.unusedVariables false
set_option maxRecDepth 100000 in
theorem vals_cell {H : Type} {enc : TypeId × Value → H} {W : World} {u : Value} {n : Nat} {y : DataW H × List MemPlace} (hf : DataW.trod enc Tryd.prog W 0 (fun _ => true) true n 22 [u] = some y) :
    ∃ (ao : Option Addr) (cap : Nat) (vs : List V3), u = .slice ao vs.length cap ∧ ValsB W.heap.size W ao cap vs := by
  have e3 : Tryd.prog.cellsOf 57 = 3 := by kernel_rfl
  obtain ⟨ao, cap, xs, rfl, hr, hl, hm, hno, hg⟩ := rowG_field (α := V3) (k := 3) (enc := fun u => [.int .i64 u.k, .string ⟨u.n.toArray⟩, .string ⟨u.c.toArray⟩]) (good := fun u => u.n.length ≤ 9223372036854775807 ∧ u.c.length ≤ 9223372036854775807) (by decide) (fun _ => rfl) Tryd.underlying22 e3 (fun m cs x _ hlen h2 => by
    obtain ⟨u, h1, h3, h4⟩ := value_cells hlen h2
    exact ⟨u, ⟨h3, h4⟩, h1⟩) hf
  refine ⟨ao, cap, xs, rfl, ⟨fun i v hi => ?_, ⟨hl, hm⟩, hg, fun hn => ?_, hno⟩⟩
  · rcases hr with h | ⟨b, off, h1, h2, h3⟩
    · rw [h] at hi; simp at hi
    · have c := h3 i v hi
      exact ⟨b, off, h1, ⟨c 0 _ rfl⟩, ⟨c 1 _ rfl⟩, ⟨c 2 _ rfl⟩⟩
  · rcases hr with h | ⟨b, off, h1, h2, h3⟩
    · exact absurd h hn
    · exact ⟨b, off, h1, h2⟩
def pq4 (x : PT × Value × Value × Value × Value) : List Value := [x.2.1, x.2.2.1, x.2.2.2.1, x.2.2.2.2]
instance : Inhabited (PT × Value × Value × Value × Value) := ⟨(default, .bool false, .bool false, .bool false, .bool false)⟩
set_option maxRecDepth 100000 in
theorem pred_cells {H : Type} {enc : TypeId × Value → H} {W : World} (n : Nat) : ∀ (cs : List Value) (y : DataW H × List MemPlace), cs.length = 4 → DataW.trod enc Tryd.prog W 0 (fun _ => true) true n 25 cs = some y → ∃ p : PT, PIs W.heap.size W p cs := by
  induction n using Nat.strongRecOn with
  | _ n ih =>
  intro cs y hlen hf
  obtain ⟨xs, k, hnk, _, _, hxl, hff⟩ := DataW.trod_struct Tryd.underlying25 hf
  have hone := hone_at Tryd.underlying25 (by kernel_rfl)
  have hxl4 : xs.length = 4 := hxl
  have e4 : Tryd.prog.cellsOf 25 = 4 := by kernel_rfl
  match xs, hxl4, cs, hlen, hff with
  | [y0, y1, y2, y3], _, [v0, v1, v2, v3], _, hff =>
    have g0 := hff 0 _ rfl
    have g1 := hff 1 _ rfl
    have g2 := hff 2 _ rfl
    have g3 := hff 3 _ rfl
    have t0 := hone 0 _ rfl
    have t1 := hone 1 _ rfl
    have t2 := hone 2 _ rfl
    have t3 := hone 3 _ rfl
    rw [t0.1, t0.2] at g0
    rw [t1.1, t1.2] at g1
    rw [t2.1, t2.2] at g2
    rw [t3.1, t3.2] at g3
    simp at g0 g1 g2 g3
    obtain ⟨op, hc0, _, _⟩ := DataW.trod_int Tryd.underlying3 g0
    obtain ⟨fld, hc1, _, _⟩ := DataW.trod_int Tryd.underlying3 g1
    simp at hc0 hc1
    obtain ⟨vo, vc, vs, rfl, hV⟩ := vals_cell g2
    obtain ⟨ko, kc, ks, rfl, hr, hl, hm, hno, hg⟩ := rowG_field (α := PT × Value × Value × Value × Value) (k := 4) (enc := pq4) (good := fun x => PIs W.heap.size W x.1 (pq4 x)) (by decide) (fun _ => rfl) Tryd.underlying23 e4 (fun m cs x hmn hlen h2 => by
      obtain ⟨p, hp⟩ := ih m (by omega) cs x hlen h2
      match cs, hlen with
      | [a, b, c, d], _ => exact ⟨(p, a, b, c, d), hp, rfl⟩) g3
    refine ⟨.mk op fld vs (ks.map (·.1)), ?_⟩
    rw [hc0, hc1]
    have hlk : ks.length = (ks.map (·.1)).length := by simp
    rw [hlk]
    refine PIs.mk (fun i => pq4 (ks[i]?.getD default)) hV ⟨by simpa using hl, hm⟩ hno ?_ ?_
    · rcases hr with h | ⟨b, off, h1, h2, h3⟩
      · left; rw [h]; rfl
      · right
        refine ⟨b, off, h1, h2, fun i hi j c hj => ?_⟩
        have hil : i < ks.length := by simpa using hi
        rw [List.getElem?_eq_getElem hil] at hj
        exact h3 i _ (List.getElem?_eq_getElem hil) j c hj
    · intro i p hi
      rw [List.getElem?_map] at hi
      cases hx : ks[i]? with
      | none => rw [hx] at hi; cases hi
      | some x =>
        rw [hx] at hi
        cases hi
        exact hg x (List.mem_of_getElem? hx)
/-- A predicate that came in. -/
def PredIn (w : World) (v : Value) : Prop := ∃ (p : PT) (vo : Option Addr) (vc : Nat) (ko : Option Addr) (kc : Nat), v = .agg #[.int .i64 p.op, .int .i64 p.fld, .slice vo p.vals.length vc, .slice ko p.kids.length kc] ∧ PtIs w.heap.size w p vo vc ko kc
set_option maxRecDepth 100000 in
theorem pred_of_trod {H : Type} {enc : TypeId × Value → H} {W : World} {base : Nat} {v : Value} {d : DataW H} {p : List MemPlace} (hok : Value.okWide Tryd.prog W .any base 25 v) (h : DataW.Trod enc Tryd.prog W 0 (fun _ => true) true 25 v d p) : PredIn W v := by
  obtain ⟨⟨l⟩, rfl, hsz⟩ := okWide_struct Tryd.underlying25 hok
  obtain ⟨fuel, hf⟩ := h
  have e4 : Tryd.prog.cellsOf 25 = 4 := by kernel_rfl
  rw [e4] at hsz
  obtain ⟨q, hq⟩ := pred_cells fuel l _ (by simpa [Value.cells] using hsz) hf
  obtain ⟨vo, vc, ko, kc, rfl, hP⟩ := hq.form
  exact ⟨q, vo, vc, ko, kc, rfl, hP⟩
end Go.Proofs.YtlmjkbdodecbmaaDoor

namespace Go.Proofs.YtlmjkbdodecbmaaDoor
open Go.RowKit Go.Shelf
set_option linter.unusedVariables false
set_option linter.unusedSimpArgs false
attribute [local go_sem] field_nat
theorem eq_seqnil (w : World) (b : Nat) : (binOp .eql 31 (.func (.func walkF) #[] #[.pointer (some ⟨b, 0, none⟩)]) .nilFunc).run Tryd.prog w = .ok (.bool false) w := by kernel_rfl
/-- The first depths of a row, as the book reads them. -/
theorem ints_dcel {base : Nat} {e : TypeId} {w : World} {bo : Option Addr} {n bc m : Nat} {L : List (PT × Nat)} (h : OwnsK 1 base e w (.slice bo n bc) n (dcel L)) (hm : m ≤ n) : IntsI .i64 w (.slice bo m bc) ((L.take m).map fun x => (x.2 : Int)) := by
  have hl := h.len
  have hL : L.length = n := by unfold dcel at hl; simpa using hl
  have hlen : ((L.take m).map fun x => (x.2 : Int)).length = m := by simp; omega
  obtain ⟨bo2, bc2, e1, h1, h2, _⟩ := h.slice
  cases e1
  refine ⟨bo, bc, by rw [hlen], by rw [hlen]; omega, h2, ?_⟩
  rcases Nat.eq_zero_or_pos m with h0 | h0
  · left; subst h0; simp
  · right
    obtain ⟨g, rfl, hg1, hg2, hc⟩ := h.cellsAt (by omega)
    refine ⟨g, 0, rfl, hg2, fun i hi => ?_⟩
    rw [hlen] at hi
    have hil : i < L.length := by omega
    have := hc i (.int .i64 ((L[i]'hil).2 : Int)) (by unfold dcel; rw [List.getElem?_map, List.getElem?_eq_getElem hil]; rfl)
    rw [Addr.add_lit] at this
    rw [this, List.getElem?_map, List.getElem?_take_of_lt hi, List.getElem?_eq_getElem hil]
    rfl
theorem same_ints_h (va vb : Value) (ns : List Int) (w : World) (ha : Hid (IntsI .i64 w va ns)) (hb : Hid (IntsI .i64 w vb ns)) : Calls Tryd.prog 12 #[va, vb] w fun e w' => e = .returned (.bool true) ∧ Below w.heap.size w w' := (same_ints va vb ns w ha.out hb.out).mono (by rintro e w' h; exact h)
theorem cutL_take {α : Type} (stop : Int) (L : List α) : cutL stop L = L.take (cutL stop L).length ∧ (cutL stop L).length ≤ L.length := by
  unfold cutL
  split
  · rename_i h
    rw [List.length_take, Nat.min_eq_left (by omega)]
    exact ⟨rfl, by omega⟩
  · rw [List.take_length]; exact ⟨rfl, Nat.le_refl _⟩
theorem cutL_len {α : Type} (stop : Int) (L : List α) : (((cutL stop L).length : Nat) : Int) = if 0 < stop then min (L.length : Int) stop else (L.length : Int) := by
  unfold cutL
  split
  · rename_i h
    rw [if_pos h.1, List.length_take]
    omega
  · rename_i h
    split
    · omega
    · rfl
/-- An element of a row in memory. -/
theorem rowP_at {B base : Nat} {e : TypeId} {w : World} {ao : Option Addr} {n ac : Nat} {ps : List PT} {xs : List Value} (h : OwnsK 4 base e w (.slice ao n ac) n xs) (hR : RowP B w ps xs) {i : Nat} {p : PT} (hi : ps[i]? = some p) (hn : 0 < n) :
    ∃ g, ao = some ⟨g, 0, none⟩ ∧ ∃ vo vc ko kc, PtIs B w p vo vc ko kc ∧ At4 w g (i * 4) (.int .i64 p.op) (.int .i64 p.fld) (.slice vo p.vals.length vc) (.slice ko p.kids.length kc) := by
  obtain ⟨g, rfl, _, _, hc⟩ := h.cellsAt hn
  obtain ⟨vo, vc, ko, kc, hP, c0, c1, c2, c3⟩ := hR.get hi
  have q0 := hc _ _ c0
  have q1 := hc _ _ c1
  have q2 := hc _ _ c2
  have q3 := hc _ _ c3
  rw [Addr.add_lit, Nat.zero_add] at q0 q1 q2 q3
  exact ⟨g, rfl, vo, vc, ko, kc, hP, ⟨q0, q1, q2, q3⟩⟩
set_option maxRecDepth 100000 in
set_option maxHeartbeats 8000000 in
/-- PredWalks. -/
theorem predWalks_main (p : PT) (stop : Int) (vo : Option Addr) (vc : Nat) (ko : Option Addr) (kc : Nat) (w : World) (hP : PtIs w.heap.size w p vo vc ko kc) :
    Calls Tryd.prog 3 #[.agg #[.int .i64 p.op, .int .i64 p.fld, .slice vo p.vals.length vc, .slice ko p.kids.length kc], .int .i64 stop] w fun e w' => e = .returned (.bool true) ∧ Below w.heap.size w w' := by
  obtain ⟨B, hB⟩ : ∃ B, B = w.heap.size := ⟨_, rfl⟩
  rw [← hB] at hP
  obtain ⟨rb, hrb⟩ : ∃ b, b = predB p := ⟨_, rfl⟩
  have HRB := Lib.hid hrb
  obtain ⟨w0, hw0, hbf, hz0, px, hpx, hbx⟩ := boxP w p.op p.fld vo p.vals.length vc ko p.kids.length kc
  replace hP := hP.low (Low.of_below hbf (by omega))
  have hBw : B ≤ w0.heap.size := by omega
  have HW := Lib.hid hw0
  have HB0 := Lib.hid hB
  clear hw0 hz0 hrb
  go_enter Tryd.func3, Tryd.ntmps3
  go_upto_region 1 with fail
  rw [← HW.out, ← hpx]
  clear hpx HW hB
  have e0 := hbx.cell 0 _ rfl
  have e1 := hbx.cell 1 _ rfl
  have e2 := hbx.cell 2 _ rfl
  have e3 := hbx.cell 3 _ rfl
  go_wp2_with fail
  (with_reducible refine (bPred_any p rb vo vc ko kc B _ hP (Lib.hid hBw) HRB).mono ?_)
  rintro e w1 ⟨rfl, hb⟩
  clear e0 e1 e2 e3
  replace hbx := hbx.kept hb
  replace hP := hP.low (Low.of_below hb hBw)
  replace hBw := Nat.le_trans hBw hb.size
  replace hbf := hbf.trans (hb.mono hbf.size)
  clear hb
  cases rb
  case false =>
    go_wp2_with fail
    refine (alive13_any _).mono ?_
    rintro e w2 ⟨rfl, hb⟩
    go_wp2_with fail
    go_ret
    exact ⟨ret_one rfl, hbf.trans (hb.mono hbf.size)⟩
  case true =>
  have hsz := (predB_le HRB.out.symm).1
  clear HRB
  go_wp2_with fail
  refine (alive13_any _).mono ?_
  rintro e w2 ⟨rfl, hb⟩
  replace hbx := hbx.kept hb
  replace hP := hP.low (Low.of_below hb hBw)
  replace hBw := Nat.le_trans hBw hb.size
  replace hbf := hbf.trans (hb.mono hbf.size)
  clear hb
  have e0 := hbx.cell 0 _ rfl
  have e1 := hbx.cell 1 _ rfl
  have e2 := hbx.cell 2 _ rfl
  have e3 := hbx.cell 3 _ rfl
  have hcall := lwalk_any p 1 vo vc ko kc B w2 hP (Lib.hid hBw) (Lib.hid (by omega))
  go_wp2_with fail
  refine hcall.mono ?_
  rintro e w3 hq
  obtain ⟨lo, n, lc, dno, dc, xs, rfl, HN, hOl, HRl, hOd, hb⟩ := hq
  clear hcall e0 e1 e2 e3
  obtain ⟨L, hL⟩ : ∃ L, L = walkP 1 p := ⟨_, rfl⟩
  rw [← hL] at HN HRl hOd
  replace hbx := hbx.kept hb
  replace hP := hP.low (Low.of_below hb hBw)
  replace hBw := Nat.le_trans hBw hb.size
  replace hbf := hbf.trans (hb.mono hbf.size)
  obtain ⟨D1, hD1⟩ : ∃ D, D = w2.heap.size := ⟨_, rfl⟩
  rw [← hD1] at hOl hOd
  have hn6 : n ≤ 600 := by rw [HN.out, hL]; exact Nat.le_trans (walkP_len p 1) hsz
  have hn0 : 0 < n := by rw [HN.out, hL, walkP_eq]; simp
  have HLW := Lib.hid hL
  clear hb hL hD1
  obtain ⟨R, hR⟩ : ∃ R, R = cutL stop L := ⟨_, rfl⟩
  obtain ⟨m, hm⟩ : ∃ m, m = R.length := ⟨_, rfl⟩
  have hct := cutL_take stop L
  rw [← hR, ← hm, ← HN.out] at hct
  have hcl := cutL_len stop L
  rw [← hR, ← hm, ← HN.out] at hcl
  have HRT := Lib.hid hct.1
  have hmn := hct.2
  have HM := Lib.hid hm
  have HRC := Lib.hid hR
  clear hm hR hct
  have hbranch : ∀ W : World, True := fun _ => trivial
  by_cases hs0 : 0 < stop
  all_goals
    first
    | rw [if_pos hs0] at hcl
    | rw [if_neg hs0] at hcl
    have HCL := Lib.hid hcl
    clear hcl
    have e0 := hbx.cell 0 _ rfl
    have e1 := hbx.cell 1 _ rfl
    have e2 := hbx.cell 2 _ rfl
    have e3 := hbx.cell 3 _ rfl
    go_wp2_with fail
    (with_reducible refine (logicWalk_any p.op p.fld vo p.vals.length vc ko p.kids.length kc _).mono ?_)
    rintro e w4 ⟨rfl, hw4⟩
    have hb : Below w3.heap.size w3 w4 := by rw [hw4]; exact (Below.refl _ w3).alloc (Nat.le_refl _) _
    obtain ⟨px2, hpx2⟩ : ∃ q, q = w3.heap.size := ⟨_, rfl⟩
    have hB4 : BoxL w4 px2 [.int .i64 p.op, .int .i64 p.fld, .slice vo p.vals.length vc, .slice ko p.kids.length kc] := by rw [hw4, hpx2]; exact BoxL.new w3 _ _
    have hx4 : At4 w4 px2 0 (.int .i64 p.op) (.int .i64 p.fld) (.slice vo p.vals.length vc) (.slice ko p.kids.length kc) := ⟨hB4.cell 0 _ rfl, hB4.cell 1 _ rfl, hB4.cell 2 _ rfl, hB4.cell 3 _ rfl⟩
    rw [← hpx2]
    replace hOl := hOl.kept hb
    replace HRl : Hid (RowP B w4 (L.map Prod.fst) xs) := Lib.hid (HRl.out.low (Low.of_below hb hBw))
    replace hOd := hOd.kept hb
    replace hP := hP.low (Low.of_below hb hBw)
    replace hBw := Nat.le_trans hBw hb.size
    replace hbf := hbf.trans (hb.mono hbf.size)
    clear hb hw4 hpx2 hB4 e0 e1 e2 e3 hbx
    have hsn := eq_seqnil w4 px2
    go_wp2_with fail
    clear hsn
    rw [← HCL.out]
    go_loopg [9] 2 (fun gg rv wr => ∃ (r : Nat), r + gg = 2 ∧ rv = .int .i64 (r : Int) ∧ OwnsK 4 D1 25 wr (.slice lo n lc) n xs ∧ Hid (RowP B wr (L.map Prod.fst) xs) ∧ OwnsK 1 D1 3 wr (.slice dno n dc) n (dcel L) ∧ PtIs B wr p vo vc ko kc ∧ At4 wr px2 0 (.int .i64 p.op) (.int .i64 p.fld) (.slice vo p.vals.length vc) (.slice ko p.kids.length kc) ∧ B ≤ wr.heap.size ∧ Below w.heap.size w wr)
    case atStart => exact ⟨0, by omega, rfl, hOl, HRl, hOd, hP, hx4, hBw, hbf⟩
    clear hOl HRl hOd hP hx4 hBw hbf
    case round =>
      obtain ⟨r, hr, rfl, hOl, HRl, hOd, hP, hx4, hBw, hbf⟩ := hrel
      by_cases hr2 : r < 2
      case neg =>
        have hri : ¬ ((r : Nat) : Int) < 2 := by omega
        go_wp2_with fail
        go_ret
        exact ⟨ret_one rfl, hbf⟩
      case pos =>
      have hri : ((r : Nat) : Int) < 2 := by omega
      have hpxl : px2 < wr.heap.size := World.block_lt_of_cell? wr ⟨px2, 0, none⟩ hx4.c0
      have hcall := told_any p stop vo vc ko kc B px2 wr hP hBw hpxl hsz hx4
      rw [← HLW.out, ← HRC.out] at hcall
      go_wp2_with fail
      refine hcall.mono ?_
      rintro e w5 hq
      obtain ⟨ao, n2, ac, bo, bc, ys, rfl, HN2, hOa, HRa, hOb, hb⟩ := hq
      obtain rfl : n2 = m := by rw [HN2.out, HM.out]
      clear hcall
      replace hOl := hOl.kept hb
      replace HRl : Hid (RowP B w5 (L.map Prod.fst) xs) := Lib.hid (HRl.out.low (Low.of_below hb hBw))
      replace hOd := hOd.kept hb
      replace hP := hP.low (Low.of_below hb hBw)
      replace hx4 := hx4.kept hb
      replace hBw := Nat.le_trans hBw hb.size
      replace hbf := hbf.trans (hb.mono hbf.size)
      clear hb
      obtain ⟨D2, hD2⟩ : ∃ D, D = wr.heap.size := ⟨_, rfl⟩
      rw [← hD2] at hOa hOb
      clear hD2 hpxl
      have hI1 := ints_dcel hOb (Nat.le_refl n2)
      rw [List.take_of_length_le (by rw [← HM.out]; exact Nat.le_refl _)] at hI1
      have hI2 := ints_dcel hOd hmn
      rw [← HRT.out] at hI2
      have HI1 := Lib.hid hI1
      have HI2 := Lib.hid hI2
      clear hI1 hI2
      obtain ⟨gd, hgd, -, -, -⟩ := hOd.cellsAt hn0
      obtain ⟨_, _, hsl, hn9, hn8, -⟩ := hOd.slice
      cases hsl
      unfold maxLen at hn8
      subst hgd
      have hmi : ((n2 : Nat) : Int) ≤ ((dc : Nat) : Int) := by omega
      have hm0 : (0 : Int) ≤ ((n2 : Nat) : Int) := by omega
      go_wp2_with fail
      (with_reducible refine (same_ints_h _ _ (R.map fun x => (x.2 : Int)) _ HI1 HI2).mono ?_)
      rintro e w6 ⟨rfl, hb⟩
      replace hOl := hOl.kept hb
      replace HRl : Hid (RowP B w6 (L.map Prod.fst) xs) := Lib.hid (HRl.out.low (Low.of_below hb hBw))
      replace hOd := hOd.kept hb
      replace hOa := hOa.kept hb
      replace HRa : Hid (RowP B w6 (R.map Prod.fst) ys) := Lib.hid (HRa.out.low (Low.of_below hb hBw))
      replace hP := hP.low (Low.of_below hb hBw)
      replace hx4 := hx4.kept hb
      replace hBw := Nat.le_trans hBw hb.size
      replace hbf := hbf.trans (hb.mono hbf.size)
      clear hb hOb HI1 HI2 hmi hm0 hn9 hn8
      go_wp2_with fail
      obtain ⟨go, hgo⟩ : ∃ go, go = gk := ⟨_, rfl⟩; subst hgo
      obtain ⟨w7, hw7⟩ : ∃ W, W = w6 := ⟨_, rfl⟩; subst hw7
      go_loopg [12] n2 (fun gg iv wr => ∃ (i : Nat), i + gg = n2 ∧ iv = .int .i64 (i : Int) ∧ OwnsK 4 D2 25 wr (.slice ao n2 ac) n2 ys ∧ Hid (RowP B wr (R.map Prod.fst) ys) ∧ OwnsK 4 D1 25 wr (.slice lo n lc) n xs ∧ Hid (RowP B wr (L.map Prod.fst) xs) ∧ OwnsK 1 D1 3 wr (.slice (some ⟨gd, 0, none⟩) n dc) n (dcel L) ∧ PtIs B wr p vo vc ko kc ∧ At4 wr px2 0 (.int .i64 p.op) (.int .i64 p.fld) (.slice vo p.vals.length vc) (.slice ko p.kids.length kc) ∧ B ≤ wr.heap.size ∧ Below w.heap.size w wr)
      case atStart => exact ⟨0, by omega, rfl, hOa, HRa, hOl, HRl, hOd, hP, hx4, hBw, hbf⟩
      clear hOa HRa hOl HRl hOd hP hx4 hBw hbf
      case round =>
        obtain ⟨i, hi, rfl, hOa, HRa, hOl, HRl, hOd, hP, hx4, hBw, hbf⟩ := hrel
        by_cases hil : i < n2
        case neg =>
          have hii : ¬ ((i : Nat) : Int) < ((n2 : Nat) : Int) := by omega
          go_wp2_with fail
          go_roundg (go - 1)
          case measure => omega
          case rel => exact ⟨r + 1, by omega, by go_num, hOl, HRl, hOd, hP, hx4, hBw, hbf⟩
        case pos =>
          have hii : ((i : Nat) : Int) < ((n2 : Nat) : Int) := by omega
          have hin : ((i : Nat) : Int) < ((n : Nat) : Int) := by omega
          have hqi : (0 : Int) ≤ (i : Int) := by omega
          obtain ⟨k, hk9⟩ : ∃ k, (R.map Prod.fst)[i]? = some k := ⟨_, List.getElem?_eq_getElem (by rw [List.length_map, ← HM.out]; exact hil)⟩
          have hk8 : (L.map Prod.fst)[i]? = some k := by
            rw [← hk9, HRT.out, List.map_take, List.getElem?_take_of_lt hil]
          obtain ⟨ga, e1, avo, avc, ako, akc, hPa, hA⟩ := rowP_at hOa HRa.out hk9 (by omega)
          obtain ⟨gl, e2, lvo, lvc, lko, lkc, hPl, hL4⟩ := rowP_at hOl HRl.out hk8 hn0
          subst e1 e2
          clear hk9 hk8
          go_wp2_with fail
          refine wp_region_seq (S := fun w' => At4 w' ga (i * 4) (.int .i64 k.op) (.int .i64 k.fld) (.slice avo k.vals.length avc) (.slice ako k.kids.length akc) ∧ At4 w' gl (i * 4) (.int .i64 k.op) (.int .i64 k.fld) (.slice lvo k.vals.length lvc) (.slice lko k.kids.length lkc)) [(true, 0), (true, 1), (true, 2), (true, 3), (true, 4), (true, 5), (true, 6), (true, 7), (false, 8), (true, 9)] (by kernel_rfl) (by kernel_rfl) (by kernel_rfl) (by kernel_rfl) (by kernel_rfl) (fun d _ _ _ _ h => by cases d <;> exact h) ⟨hA.drew, hL4.drew⟩ (fun _ => ?_)
          simp only [pickOps, List.append_eq, List.cons_append, List.nil_append, List.getElem?_toArray, List.getElem?_cons_succ, List.getElem?_cons_zero]
          have hb : Below wr.heap.size wr wr.drew := (Below.refl _ _).drew
          generalize wr.drew = wd at hb ⊢
          replace hA := hA.kept hb
          replace hL4 := hL4.kept hb
          replace hPa := hPa.low (Low.of_below hb (by omega))
          replace hPl := hPl.low (Low.of_below hb (by omega))
          replace hOa := hOa.kept hb
          replace HRa : Hid (RowP B _ (R.map Prod.fst) ys) := Lib.hid (HRa.out.low (Low.of_below hb (by omega)))
          replace hOl := hOl.kept hb
          replace HRl : Hid (RowP B _ (L.map Prod.fst) xs) := Lib.hid (HRl.out.low (Low.of_below hb (by omega)))
          replace hOd := hOd.kept hb
          replace hP := hP.low (Low.of_below hb (by omega))
          replace hx4 := hx4.kept hb
          replace hBw := Nat.le_trans hBw (hb).size
          replace hbf := hbf.trans (hb.mono hbf.size)
          clear hb
          repeat (first | (refine seq_take (v := ?_) (by rfl) ?_ ?_; rotate_left; (· intro w hSw; (try dsimp only at hSw); obtain ⟨⟨q0, q1, q2, q3⟩, ⟨q4, q5, q6, q7⟩⟩ := hSw; go_simp; all_goals with_reducible rfl); (try simp only [Act.put, List.setIfInBounds_toArray, List.set_cons_zero, List.set_cons_succ])) | (refine seq_leave (by rfl) ?_; (try simp only [Act.put, List.setIfInBounds_toArray, List.set_cons_zero, List.set_cons_succ])))
          refine seq_step (by rfl) (fun K hK => ?_)
          go_simp
          go_at_call 13
          (with_reducible refine (same_self k avo avc ako akc lvo lvc lko lkc B _ hPa hPl (Lib.hid hBw)).mono ?_)
          rintro e w9 ⟨rfl, hb⟩
          replace hA := hA.kept hb
          replace hL4 := hL4.kept hb
          replace hPa := hPa.low (Low.of_below hb (by omega))
          replace hPl := hPl.low (Low.of_below hb (by omega))
          replace hOa := hOa.kept hb
          replace HRa : Hid (RowP B _ (R.map Prod.fst) ys) := Lib.hid (HRa.out.low (Low.of_below hb (by omega)))
          replace hOl := hOl.kept hb
          replace HRl : Hid (RowP B _ (L.map Prod.fst) xs) := Lib.hid (HRl.out.low (Low.of_below hb (by omega)))
          replace hOd := hOd.kept hb
          replace hP := hP.low (Low.of_below hb (by omega))
          replace hx4 := hx4.kept hb
          replace hBw := Nat.le_trans hBw (hb).size
          replace hbf := hbf.trans (hb.mono hbf.size)
          clear hb
          first | refine hK.out _ _ ⟨hA, hL4⟩ (fun _ => ?_) | (go_wp2_with fail; refine hK.out _ _ ⟨hA, hL4⟩ (fun _ => ?_))
          clear hK K
          (try simp only [Act.put, List.setIfInBounds_toArray, List.set_cons_zero, List.set_cons_succ])
          repeat (first | (refine seq_take (v := ?_) (by rfl) ?_ ?_; rotate_left; (· intro w hSw; (try dsimp only at hSw); obtain ⟨⟨q0, q1, q2, q3⟩, ⟨q4, q5, q6, q7⟩⟩ := hSw; go_simp; all_goals with_reducible rfl); (try simp only [Act.put, List.setIfInBounds_toArray, List.set_cons_zero, List.set_cons_succ])) | (refine seq_leave (by rfl) ?_; (try simp only [Act.put, List.setIfInBounds_toArray, List.set_cons_zero, List.set_cons_succ])))
          refine seq_end ?_
          go_wp2_with fail
          go_roundg (gk - 1)
          case measure => omega
          case rel => exact ⟨i + 1, by omega, by go_num, hOa, HRa, hOl, HRl, hOd, hP, hx4, hBw, hbf⟩
theorem predWalks_walk (v : Value) (a : Int) (w : World) (h : PredIn w v) (ha : (Lit.int .i64 a).wf = true) :
    Calls Tryd.prog 3 #[v, .int .i64 a] w fun e w' => e = .returned (.bool true) ∧ Below w.heap.size w w' := by
  obtain ⟨p, vo, vc, ko, kc, rfl, hP⟩ := h
  exact predWalks_main p a vo vc ko kc w hP
end Go.Proofs.YtlmjkbdodecbmaaDoor
