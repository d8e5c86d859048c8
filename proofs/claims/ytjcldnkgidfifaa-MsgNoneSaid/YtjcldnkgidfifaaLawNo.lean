/-
  MsgNone: the walk.
-/
import Derived.Test.YtjcldnkgidfifaaAli11
namespace Go.Proofs.Ytjcldnkgidfifaa
open Go.RowKit Go.Shelf
set_option linter.unusedVariables false
set_option linter.unusedSimpArgs false
attribute [local go_sem] Oper.semAt_some
theorem ints_nil (num : Int) (w : World) : Calls Try.prog 26 #[.pointer none, .int .i64 num] w fun e' w' => (∃ ao cap, e' = .returned (.tuple #[.slice ao 0 cap, diagV 0 0 []])) ∧ Below w.heap.size w w' := by
  refine (ints_walk 0 num 0 0 none [] (fun _ => False) w (fun w0 hb bm bn B hcm hcn => meach1_nil num bm bn B _ w0 hcm) (fun k hk => hk.elim) (by simp) (by decide) (by simp)).mono ?_
  rintro e w' ⟨⟨v, rfl, hO⟩, hb⟩
  obtain ⟨ao, cap, rfl, _⟩ := hO.slice
  exact ⟨⟨ao, cap, rfl⟩, hb⟩
theorem texts_nil (num : Int) (w : World) : Calls Try.prog 33 #[.pointer none, .int .i64 num] w fun e' w' => (∃ ao cap, e' = .returned (.slice ao 0 cap)) ∧ Below w.heap.size w w' := by
  refine (texts_walk num none [] (fun _ => False) w (fun w0 hb bm bn B hcm hcn => meach1_nil num bm bn B _ w0 hcm) (fun k hk => hk.elim) (by decide)).mono ?_
  rintro e w' ⟨⟨v, rfl, hO⟩, hb⟩
  obtain ⟨ao, cap, rfl, _⟩ := hO.slice
  exact ⟨⟨ao, cap, rfl⟩, hb⟩
theorem rowV_one (w : World) (x : Value) (t : TypeId) (hx : x.oneCell' = true) : RowV (fun _ => False) (w.alloc (.cells #[x] t)) (.slice (some ⟨w.heap.size, 0, none⟩) 1 1) [x] := by
  refine ⟨some ⟨w.heap.size, 0, none⟩, 1, rfl, Nat.le_refl 1, by decide, .inr ⟨w.heap.size, 0, rfl, by simp, fun h => h, fun i y hy => ?_⟩⟩
  match i, hy with
  | 0, hy => simp at hy; subst hy; go_simp
set_option maxRecDepth 100000 in
set_option maxHeartbeats 4000000 in
theorem msgNone_walk (num : Int) (s : ByteArray) (w0 : (Lit.int .i64 num).wf = true) (w1 : s.size ≤ maxLen) (w : World) :
    Calls Try.prog 6 #[.int .i64 num, .string s] w fun e w' => e = .returned (.bool true) ∧ Below w.heap.size w w' := by
  obtain ⟨l, rfl⟩ : ∃ l : List UInt8, s = ⟨l.toArray⟩ := ⟨s.data.toList, by cases s; simp⟩
  clear w0 w1
  go_enter Try.func6, Try.ntmps6
  by_cases hl : 300 < l.length
  · have hl2 : (300 : Int) < (l.length : Int) := by omega
    go_wp2_with fail
    refine (alive11_any _).mono ?_
    rintro e w1 ⟨rfl, hb⟩
    go_wp2_with fail
    go_ret
    exact ⟨rfl, hb⟩
  · have hl2 : ¬ (300 : Int) < (l.length : Int) := by omega
    go_wp2_with fail
    refine (alive11_any _).mono ?_
    rintro e w1 ⟨rfl, hb1⟩
    go_wp2_with fail
    refine (uint_nil num _).mono ?_
    rintro e w2 ⟨rfl, hb2⟩
    replace hb1 := hb1.trans (hb2.mono hb1.size)
    go_wp2_with fail
    refine (int_nil num _).mono ?_
    rintro e w3 ⟨rfl, hb3⟩
    replace hb1 := hb1.trans (hb3.mono hb1.size)
    go_wp2_with fail
    refine (float_nil num _).mono ?_
    rintro e w4 ⟨rfl, hb4⟩
    replace hb1 := hb1.trans (hb4.mono hb1.size)
    go_wp2_with fail
    refine (text_nil num _).mono ?_
    rintro e w5 ⟨rfl, hb5⟩
    replace hb1 := hb1.trans (hb5.mono hb1.size)
    clear hb2 hb3 hb4 hb5
    go_wp2_with fail
    refine (ints_nil num _).mono ?_
    rintro e w6 ⟨⟨ao6, cap6, rfl⟩, hb6⟩
    replace hb1 := hb1.trans (hb6.mono hb1.size)
    go_wp2_with fail
    obtain ⟨w7, hw7⟩ : ∃ w7, w7 = w6.alloc (.cells #[.int .i64 0, .int .i64 0, .string ⟨#[]⟩] 54) := ⟨_, rfl⟩
    have hb7 : Below w6.heap.size w6 w7 := by rw [hw7]; exact (Below.refl _ _).alloc (Nat.le_refl _) _
    replace hb1 := hb1.trans (hb7.mono hb1.size)
    try rw [← hw7]
    clear hw7 hb6 hb7
    refine (floats_nil num _).mono ?_
    rintro e w8 ⟨rfl, hb8⟩
    replace hb1 := hb1.trans (hb8.mono hb1.size)
    go_wp2_with fail
    obtain ⟨w9, hw9⟩ : ∃ w9, w9 = w8.alloc (.cells #[.int .i64 0, .int .i64 0, .string ⟨#[]⟩] 54) := ⟨_, rfl⟩
    have hb9 : Below w8.heap.size w8 w9 := by rw [hw9]; exact (Below.refl _ _).alloc (Nat.le_refl _) _
    replace hb1 := hb1.trans (hb9.mono hb1.size)
    try rw [← hw9]
    clear hw9 hb8 hb9
    refine (putUint_nil num 1 _ (by decide)).mono ?_
    rintro e w10 ⟨rfl, hb10⟩
    replace hb1 := hb1.trans (hb10.mono hb1.size)
    go_wp2_with fail
    have hr := rowV_one w10 (.string ⟨l.toArray⟩) 9 rfl
    obtain ⟨w11, hw11⟩ : ∃ w11, w11 = w10.alloc (.cells #[.string ⟨l.toArray⟩] 9) := ⟨_, rfl⟩
    have hb11 : Below w10.heap.size w10 w11 := by rw [hw11]; exact (Below.refl _ _).alloc (Nat.le_refl _) _
    replace hb1 := hb1.trans (hb11.mono hb1.size)
    rw [← hw11] at hr ⊢
    clear hw11 hb10 hb11
    refine (putText_nil _ num [l] _ ⟨_, hr⟩ (by intro x hx; simp at hx; subst hx; omega) (by simp)).mono ?_
    rintro e w12 ⟨rfl, hb12⟩
    replace hb1 := hb1.trans (hb12.mono hb1.size)
    clear hr hb12
    go_wp2_with fail
    have hr := rowV_one w12 (.int .i64 1) 3 rfl
    obtain ⟨w13, hw13⟩ : ∃ w13, w13 = w12.alloc (.cells #[.int .i64 1] 3) := ⟨_, rfl⟩
    have hb13 : Below w12.heap.size w12 w13 := by rw [hw13]; exact (Below.refl _ _).alloc (Nat.le_refl _) _
    replace hb1 := hb1.trans (hb13.mono hb1.size)
    rw [← hw13] at hr ⊢
    clear hw13 hb13
    refine (putInts_nil _ num [1] _ ⟨_, hr⟩ (by decide)).mono ?_
    rintro e w14 ⟨rfl, hb14⟩
    replace hb1 := hb1.trans (hb14.mono hb1.size)
    clear hr hb14
    go_wp2_with fail
    have hr := rowV_one w14 (.int .u64 1) 25 rfl
    obtain ⟨w15, hw15⟩ : ∃ w15, w15 = w14.alloc (.cells #[.int .u64 1] 25) := ⟨_, rfl⟩
    have hb15 : Below w14.heap.size w14 w15 := by rw [hw15]; exact (Below.refl _ _).alloc (Nat.le_refl _) _
    replace hb1 := hb1.trans (hb15.mono hb1.size)
    rw [← hw15] at hr ⊢
    clear hw15 hb15
    refine (putFloats_nil _ num [1] _ ⟨_, hr⟩ (by intro x hx; simp at hx; omega) (by decide)).mono ?_
    rintro e w16 ⟨rfl, hb16⟩
    replace hb1 := hb1.trans (hb16.mono hb1.size)
    clear hr hb16
    go_wp2_with fail
    refine (bytes_nil _).mono ?_
    rintro e w17 ⟨rfl, hb17⟩
    replace hb1 := hb1.trans (hb17.mono hb1.size)
    clear hb17
    go_wp2_with fail
    refine (texts_nil num _).mono ?_
    rintro e w18 ⟨⟨ao18, cap18, rfl⟩, hb18⟩
    replace hb1 := hb1.trans (hb18.mono hb1.size)
    clear hb18
    go_wp2_with fail
    refine (nums_nil _).mono ?_
    rintro e w19 ⟨rfl, hb19⟩
    replace hb1 := hb1.trans (hb19.mono hb1.size)
    clear hb19
    go_wp2_with fail
    go_ret
    exact ⟨rfl, hb1⟩
end Go.Proofs.Ytjcldnkgidfifaa
