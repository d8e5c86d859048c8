/-
  The law's first ensemble; alive of law 22.
-/
import Derived.Test.YtieffhkfefimeaaGreatOnxM
namespace Go.Proofs.YtieffhkfefimeaaGreat
open Go.RowKit
set_option linter.unusedVariables false
set_option linter.unusedSimpArgs false

theorem flat_get {α β : Type} {k : Nat} {enc : α → List β} (hk : ∀ x, (enc x).length = k) : ∀ (xs : List α) (i : Nat) (x : α) (j : Nat) (c : β), xs[i]? = some x → (enc x)[j]? = some c → (xs.flatMap enc)[i * k + j]? = some c
  | [], i, x, j, c, h, _ => by simp at h
  | y :: r, 0, x, j, c, h, hj => by
    simp at h; subst h
    rw [List.flatMap_cons, Nat.zero_mul, Nat.zero_add, List.getElem?_append_left (List.getElem?_eq_some_iff.1 hj).1]
    exact hj
  | y :: r, i + 1, x, j, c, h, hj => by
    rw [List.flatMap_cons, List.getElem?_append_right (by rw [hk]; have h9 : (i + 1) * k = i * k + k := Nat.succ_mul i k; omega), hk, show (i + 1) * k + j - k = i * k + j by have h9 : (i + 1) * k = i * k + k := Nat.succ_mul i k; omega]
    exact flat_get hk r i x j c (by simpa using h) hj
/-- A row of structs that a block holds. -/
theorem rowc_of_block {α : Type} {k : Nat} {enc : α → List Value} (hk : ∀ x, (enc x).length = k) {w : World} {b : Nat} {xs : List α} {t : TypeId} {fr : Nat × Nat} {cs : Array Value} (hb : w.heap[b]? = some (.cells cs t fr)) (hcs : cs.toList = xs.flatMap enc) : RowC k enc w (some ⟨b, 0, none⟩) xs := by
  refine .inr ⟨b, 0, rfl, (Array.getElem?_eq_some_iff.1 hb).1, fun i x hi j c hj => ?_⟩
  have h := flat_get hk xs i x j c hi hj
  rw [Nat.zero_add, ← hcs] at *
  unfold World.cell?
  rw [hb]
  simpa using h
def oneN : List EN := [⟨0, 0, 0, 1, 1069547520, 1, 2, true⟩, ⟨0, 1, 0, 7, 0, 0, 0, false⟩, ⟨0, 2, 0, 7, 0, 0, 0, false⟩]
def oneL : List EL := [⟨0, 1, 0, 1073741824⟩, ⟨0, 2, 0, 1077936128⟩]
def oneE : EE := ⟨1, 1, [83, 85, 77], [78, 79, 78, 69], [], oneN, oneL⟩
set_option maxRecDepth 100000 in
set_option maxHeartbeats 1000000 in
theorem one_any (w : World) : Calls Tryz.prog 24 #[] w fun e w' => ∃ v no nc lo lc, e = .returned v ∧ EnsIs w' v oneE none 0 no nc lo lc ∧ Below w.heap.size w w' := by
  go_enter Tryz.func24, Tryz.ntmps24
  go_wp2_with fail
  refine bodyPost_ret (v := .agg #[.int .i64 1, .int .i64 1, .string ⟨#[83, 85, 77]⟩, .string ⟨#[78, 79, 78, 69]⟩, .slice none 0 0, .slice (some ⟨w.heap.size + 1, 0, none⟩) 3 3, .slice (some ⟨w.heap.size + 1 + 1, 0, none⟩) 2 2]) ?_ rfl ⟨_, _, _, _, _, rfl, ⟨rfl, .inl rfl, ?_, ?_, by decide, by decide, by decide, by decide, ?_, ?_⟩, ?_⟩
  · simp [results, Tryz.results24, go_sem]
  · refine .inr ⟨_, 0, rfl, by simp, fun i x hi j c hj => ?_⟩
    match i, hi with
    | 0, hi =>
      cases hi
      match j, hj with
      | 0, hj => cases hj; go_simp
      | 1, hj => cases hj; go_simp
      | 2, hj => cases hj; go_simp
      | 3, hj => cases hj; go_simp
      | 4, hj => cases hj; go_simp
      | 5, hj => cases hj; go_simp
      | 6, hj => cases hj; go_simp
      | 7, hj => cases hj; go_simp
    | 1, hi =>
      cases hi
      match j, hj with
      | 0, hj => cases hj; go_simp
      | 1, hj => cases hj; go_simp
      | 2, hj => cases hj; go_simp
      | 3, hj => cases hj; go_simp
      | 4, hj => cases hj; go_simp
      | 5, hj => cases hj; go_simp
      | 6, hj => cases hj; go_simp
      | 7, hj => cases hj; go_simp
    | 2, hi =>
      cases hi
      match j, hj with
      | 0, hj => cases hj; go_simp
      | 1, hj => cases hj; go_simp
      | 2, hj => cases hj; go_simp
      | 3, hj => cases hj; go_simp
      | 4, hj => cases hj; go_simp
      | 5, hj => cases hj; go_simp
      | 6, hj => cases hj; go_simp
      | 7, hj => cases hj; go_simp
  · refine .inr ⟨_, 0, rfl, by simp, fun i x hi j c hj => ?_⟩
    match i, hi with
    | 0, hi =>
      cases hi
      match j, hj with
      | 0, hj => cases hj; go_simp
      | 1, hj => cases hj; go_simp
      | 2, hj => cases hj; go_simp
      | 3, hj => cases hj; go_simp
    | 1, hi =>
      cases hi
      match j, hj with
      | 0, hj => cases hj; go_simp
      | 1, hj => cases hj; go_simp
      | 2, hj => cases hj; go_simp
      | 3, hj => cases hj; go_simp
  · intro n hn
    simp only [oneE, oneN, List.mem_cons, List.not_mem_nil, or_false] at hn
    rcases hn with rfl | rfl | rfl <;> exact ⟨by decide, rfl, rfl, rfl, rfl, rfl, rfl⟩
  · intro n hn
    simp only [oneE, oneL, List.mem_cons, List.not_mem_nil, or_false] at hn
    rcases hn with rfl | rfl <;> exact ⟨by decide, rfl, rfl, rfl⟩
  · exact (((Below.refl _ w).alloc (Nat.le_refl _) _).alloc (by simp) _).alloc (by simp; omega) _
def zeroE : EE := ⟨0, 0, [], [], [], [], []⟩
theorem zeroE_is (w : World) : EnsIs w (.agg #[.int .i64 0, .int .i64 0, .string ⟨#[]⟩, .string ⟨#[]⟩, .slice none 0 0, .slice none 0 0, .slice none 0 0]) zeroE none 0 none 0 none 0 :=
  ⟨rfl, .inl rfl, .inl rfl, .inl rfl, by decide, by decide, by decide, by simp [zeroE], by simp [zeroE], by simp [zeroE]⟩
theorem check_zero : checkE zeroE = 1 := by kernel_rfl
theorem check_one : checkE oneE = 0 := by kernel_rfl
theorem root_one : rootE oneE.nodes 0 = some 0 := by kernel_rfl
set_option maxRecDepth 100000 in
set_option maxHeartbeats 2000000 in
/-- alive of law 22. -/
theorem alive22_any (w : World) : Calls Tryz.prog 6 #[] w fun e w' => e = .returned (.bool true) ∧ Below w.heap.size w w' := by
  have hC0 := fun W => check_any _ zeroE none 0 none 0 none 0 W (zeroE_is W) (by decide) 1 (Lib.hid check_zero)
  have hMo := fun W => mode_any [66, 82, 65, 78, 67, 72, 95, 71, 84] W 4 true (Lib.hid (by decide)) (Lib.hid (by decide))
  have hMn := fun W => modeName_any 7 W [76, 69, 65, 70] (Lib.hid (by decide))
  go_enter Tryz.func6, Tryz.ntmps6
  go_upto_region 2 with (go_at_call 7; refine (hC0 _).mono ?_; rintro e w1 ⟨rfl, hb1⟩)
  go_upto_region 3 with (first | (go_at_call 24; refine (one_any _).mono ?_; rintro e w2 ⟨v2, no2, nc2, lo2, lc2, rfl, hE2, hb2⟩; obtain ⟨rfl⟩ := hE2.val) | (go_at_call 7; refine (check_any _ oneE _ _ _ _ _ _ w2 hE2 (by decide) 0 (Lib.hid check_one)).mono ?_; rintro e w3 ⟨rfl, hb3⟩))
  clear hE2
  go_upto_region 4 with (first | (go_at_call 24; refine (one_any _).mono ?_; rintro e w4 ⟨v4, no4, nc4, lo4, lc4, rfl, hE4, hb4⟩; obtain ⟨rfl⟩ := hE4.val) | (go_at_call 15; refine (root_any _ oneE _ _ _ _ _ _ 0 w4 hE4 (by decide) 0 true (Lib.hid (by rw [root_one]; rfl)) (Lib.hid (by rw [root_one]; rfl))).mono ?_; rintro e w5 ⟨rfl, hb5⟩))
  clear hE4
  go_upto_region 5 with (go_at_call 25; refine (hMo _).mono ?_; rintro e w6 ⟨rfl, hb6⟩)
  go_wp2_with (first | (go_at_call 26; refine (hMn _).mono ?_; rintro e w7 ⟨rfl, hb7⟩) | (go_at_call 24; have _t := hE8; refine (one_any _).mono ?_; rintro e w9 ⟨v9, no9, nc9, lo9, lc9, rfl, hE9, hb9⟩; obtain ⟨rfl⟩ := hE9.val) | (go_at_call 24; refine (one_any _).mono ?_; rintro e w8 ⟨v8, no8, nc8, lo8, lc8, rfl, hE8, hb8⟩; obtain ⟨rfl⟩ := hE8.val) | (go_at_call 9; refine (same_any _ oneE _ _ _ _ _ _ _ oneE _ _ _ _ _ _ w9 (hE8.below hb9) hE9 true (Lib.hid (by simp))).mono ?_; rintro e w10 ⟨rfl, hb10⟩))
  go_ret
  have q2 := hb1.trans ((hb2.trans (hb3.mono hb2.size)).mono hb1.size)
  have q4 := q2.trans ((hb4.trans (hb5.mono hb4.size)).mono q2.size)
  have q6 := q4.trans ((hb6.trans (hb7.mono hb6.size)).mono q4.size)
  have q8 := q6.trans ((hb8.trans (hb9.mono hb8.size)).mono q6.size)
  exact ⟨rfl, q8.trans (hb10.mono q8.size)⟩
end Go.Proofs.YtieffhkfefimeaaGreat
