/-
  Boxes of two cells (a form of numbers is one).
-/
import Derived.Test.YtieffhkfefimeaaGreatDoorHeapQ
import Derived.Test.YtieffhkfefimeaaGreatDoorMathI
import Derived.Laws.Bits64b
namespace Go.Proofs.YtieffhkfefimeaaGreatDoor
open Go.RowKit
set_option linter.unusedVariables false
set_option linter.unusedSimpArgs false

/-- A block of two cells, a variable of the call's own. -/
structure Box2 (w : World) (b : Nat) (x y : Value) : Prop where
  c0 : w.cell? ⟨b, 0, none⟩ = some x
  c1 : w.cell? ⟨b, 1, none⟩ = some y
  f0 : w.frozen? ⟨b, 0, none⟩ = false
  f1 : w.frozen? ⟨b, 1, none⟩ = false
theorem Box2.lt {w : World} {b : Nat} {x y : Value} (h : Box2 w b x y) : b < w.heap.size := World.block_lt_of_cell? w ⟨b, 0, none⟩ h.c0
theorem Box2.below {w w' : World} {b B : Nat} {x y : Value} (h : Box2 w b x y) (hb : Below B w w') (hlt : b < B) : Box2 w' b x y :=
  ⟨(hb.cell (p := ⟨b, 0, none⟩) hlt).trans h.c0, (hb.cell (p := ⟨b, 1, none⟩) hlt).trans h.c1, (hb.frozen (p := ⟨b, 0, none⟩) hlt).trans h.f0, (hb.frozen (p := ⟨b, 1, none⟩) hlt).trans h.f1⟩
theorem Box2.kept {w w' : World} {b : Nat} {x y : Value} (h : Box2 w b x y) (hb : Below w.heap.size w w') : Box2 w' b x y := h.below hb h.lt
theorem Box2.drew {w : World} {b : Nat} {x y : Value} (h : Box2 w b x y) : Box2 w.drew b x y := ⟨h.c0, h.c1, h.f0, h.f1⟩
theorem Box2.setOther {w : World} {b g : Nat} {x y : Value} (h : Box2 w b x y) (hne : b ≠ g) (j : Nat) (u : Value) : Box2 (w.setCell ⟨g, j, none⟩ u) b x y := by
  have hg : (w.setCell ⟨g, j, none⟩ u).heap[b]? = w.heap[b]? := (grownBy_set (grownBy_refl w (some g)) j u).block b h.lt (by simpa using hne)
  exact ⟨(World.cell?_of_block (w := w) (a := ⟨b, 0, none⟩) hg).trans h.c0, (World.cell?_of_block (w := w) (a := ⟨b, 1, none⟩) hg).trans h.c1, (World.frozen?_of_block (w := w) (a := ⟨b, 0, none⟩) hg).trans h.f0, (World.frozen?_of_block (w := w) (a := ⟨b, 1, none⟩) hg).trans h.f1⟩
theorem Box2.set3f {w : World} {b g : Nat} {x y u0 u1 u2 : Value} (h : Box2 w g x y) (hne : g ≠ b) : Box2 (((w.setCell ⟨b, 0, none⟩ u0).setCell ⟨b, 1, none⟩ u1).setCell ⟨b, 2, none⟩ u2) g x y := ((h.setOther hne 0 u0).setOther hne 1 u1).setOther hne 2 u2
theorem Box2.set2 {w : World} {b : Nat} {x y u0 u1 : Value} (h : Box2 w b x y) : Box2 ((w.setCell ⟨b, 0, none⟩ u0).setCell ⟨b, 1, none⟩ u1) b u0 u1 := by
  have e0 := h.c0
  have e1 := h.c1
  have g0 := h.f0
  have g1 := h.f1
  exact ⟨by go_simp, by go_simp, by go_simp, by go_simp⟩
theorem load_form {w : World} {b : Nat} {x y : Value} (h : Box2 w b x y) : (loadVar 84 ⟨b, 0, none⟩).run Tryz.prog w = .ok (.agg #[x, y]) w := by
  have h0 := h.c0
  have h1 := h.c1
  simp [go_sem, h0, h1]
theorem ret_form {fn : Func} {s : Nat} {R : Ending → World → Prop} {a : Act} {w : World} {b : Nat} {x y : Value} (hres : fn.results = #[.cell s 84]) (hp : a.tmps.getD s undef = .pointer (some ⟨b, 0, none⟩)) (hc : Box2 w b x y) (hd : a.defers = []) (hR : R (.returned (.agg #[x, y])) w) : bodyPost Tryz.prog fn R .ret a w := by
  refine bodyPost_ret (v := .agg #[x, y]) ?_ hd hR
  have hp' : a.tmps[s]?.getD undef = .pointer (some ⟨b, 0, none⟩) := by simpa using hp
  simp only [results, hres]
  simp [Sem.run_bind, Sem.run_pure, Result.andThen, hp', asAddr, load_form hc]
/-- A form as a value. -/
abbrev formV (e f : Int) : Value := .agg #[.int .i64 e, .int .i64 f]
theorem end_form {fn : Func} {s : Nat} {act : Act} {w w9 : World} {b : Nat} {x y : Value} {e f : Int} (hres : fn.results = #[.cell s 84]) (hp : act.tmps.getD s undef = .pointer (some ⟨b, 0, none⟩)) (hd : act.defers = []) (hb : Box2 w9 b x y) (hge : w.heap.size ≤ b) (hB : Below w.heap.size w w9) :
    bodyPost Tryz.prog fn (fun e' w' => e' = .returned (formV e f) ∧ Below w.heap.size w w') .ret act ((w9.setCell ⟨b, 0, none⟩ (.int .i64 e)).setCell ⟨b, 1, none⟩ (.int .i64 f)) :=
  ret_form hres hp hb.set2 hd ⟨rfl, (hB.setCell (p := ⟨b, 0, none⟩) hge _).setCell (p := ⟨b, 1, none⟩) hge _⟩
theorem box2_heap {w : World} {g : Nat} {x y : Value} {t : TypeId} (h : w.heap[g]? = some (.cells #[x, y] t)) : Box2 w g x y :=
  ⟨by simp [World.cell?, h], by simp [World.cell?, h], by simp [World.frozen?, h], by simp [World.frozen?, h]⟩

/-! Bits of patterns. -/
theorem and_mask {x k : Nat} (hx : x < 18446744073709551616) (hk : k < 64) : bits .and .u64 (x : Int) ((2 ^ k - 1 : Nat) : Int) = ((x % 2 ^ k : Nat) : Int) := by
  have h2 : 2 ^ k - 1 < 18446744073709551616 := by
    have : 2 ^ k ≤ 2 ^ 63 := Nat.pow_le_pow_right (by decide) (by omega)
    omega
  rw [bits_and_u64_nat _ _ hx h2, Nat.and_two_pow_sub_one_eq_mod]
theorem and_bit {x k : Nat} (hx : x < 18446744073709551616) (hk : k < 64) : bits .and .u64 (x : Int) ((2 ^ k : Nat) : Int) = (((x.testBit k).toNat * 2 ^ k : Nat) : Int) := by
  have h2 : 2 ^ k < 18446744073709551616 := by
    have : 2 ^ k ≤ 2 ^ 63 := Nat.pow_le_pow_right (by decide) (by omega)
    omega
  rw [bits_and_u64_nat _ _ hx h2]
  congr 1
  apply Nat.eq_of_testBit_eq
  intro i
  rw [Nat.testBit_and, Nat.testBit_two_pow]
  by_cases hi : k = i
  · subst hi
    cases x.testBit k <;> simp [Nat.testBit_two_pow]
  · rw [decide_eq_false hi, Bool.and_false]
    cases x.testBit k <;> simp [Nat.testBit_two_pow, hi]
theorem or_top {n k : Nat} (hn : n < 2 ^ k) (hk : k < 64) : bits .or .u64 (n : Int) ((2 ^ k : Nat) : Int) = ((n + 2 ^ k : Nat) : Int) := by
  have h2 : 2 ^ k < 18446744073709551616 := by
    have : 2 ^ k ≤ 2 ^ 63 := Nat.pow_le_pow_right (by decide) (by omega)
    omega
  rw [bits_or_u64_nat _ _ (by omega) h2, Nat.or_comm]
  have := Nat.two_pow_add_eq_or_of_lt hn 1
  rw [Nat.mul_one] at this
  rw [← this, Nat.add_comm]
theorem or_low {out k : Nat} (h : out % 2 ^ (k + 1) = 0) (ho : out < 18446744073709551616) (hk : k < 64) : bits .or .u64 (out : Int) ((2 ^ k : Nat) : Int) = ((out + 2 ^ k : Nat) : Int) := by
  have h2 : 2 ^ k < 18446744073709551616 := by
    have : 2 ^ k ≤ 2 ^ 63 := Nat.pow_le_pow_right (by decide) (by omega)
    omega
  rw [bits_or_u64_nat _ _ ho h2, or_bit h]
end Go.Proofs.YtieffhkfefimeaaGreatDoor
