/-
  nat: walks (1).
-/
import Derived.Test.YtegneoaoodddoaaDoorHeapA
namespace Go.Proofs.YtegneoaoodddoaaDoor
set_option linter.unusedVariables false
set_option linter.unusedSimpArgs false
open Go.RowKit

set_option maxRecDepth 100000 in
theorem trim_any (ao : Option Addr) (cap : Nat) (xs : List Nat) (w : World) (hc : Cells .u32 w ao xs) (hcap : xs.length ≤ cap) (hm : cap ≤ maxLen) (hx : ∀ x ∈ xs, x < 4294967296) :
    Calls Tryd.prog 45 #[.slice ao xs.length cap] w fun e w' =>
      e = .returned (.agg #[.slice ao (limbs (val xs)).length (limbs (val xs)).length]) ∧ Below w.heap.size w w' := by
  unfold maxLen at hm
  go_enter Tryd.func45, Tryd.ntmps45
  go_wp2
  go_loop [3] (fun n => ∃ k : Nat, k ≤ xs.length ∧ n = .int .i64 k ∧ (∀ i, k ≤ i → i < xs.length → xs[i]? = some 0)) (fun n => (intOf n).toNat)
  case atStart => exact ⟨xs.length, Nat.le_refl _, rfl, fun i h1 h2 => by omega⟩
  case round =>
    obtain ⟨k, hk, rfl, hz⟩ := hrel
    have HZ := Lib.hid hz; clear hz
    rcases Nat.eq_zero_or_pos k with rfl | hk0
    · go_wp2
      have e := limbs_take xs 0 (by omega) hx HZ.out (.inl rfl)
      refine bodyPost_ret (v := .agg #[.slice ao 0 0]) (by simp [results, Tryd.results45, go_sem]) rfl ⟨?_, (Below.refl _ _).alloc (Nat.le_refl _) _⟩
      rw [e]; simp
    · obtain ⟨j, rfl⟩ : ∃ j, k = j + 1 := ⟨k - 1, by omega⟩
      rcases hc with rfl | ⟨b, off, rfl, hb, hcell⟩
      · simp at hk
      have hj := hcell j (by omega)
      clear hcell
      by_cases h0 : xs[j]?.getD 0 = 0
      · rw [h0] at hj
        go_wp2
        go_round
        case rel =>
          refine ⟨j, by omega, by go_num, fun i h1 h2 => ?_⟩
          by_cases e : i = j
          · subst e; rw [List.getElem?_eq_getElem h2] at h0 ⊢; simpa using h0
          · exact HZ.out i (by omega) h2
        case measure => simp [intOf]
      · go_wp2
        have e := limbs_take xs (j + 1) hk hx HZ.out (.inr (by intro h; rw [Nat.add_sub_cancel] at h; rw [h] at h0; exact h0 rfl))
        have e2 : (limbs (val xs)).length = j + 1 := by rw [e, List.length_take]; omega
        refine bodyPost_ret (v := .agg #[.slice (some ⟨b, off, none⟩) (j + 1) (j + 1)]) (by simp [results, Tryd.results45, go_sem]) rfl ⟨?_, (Below.refl _ _).alloc (Nat.le_refl _) _⟩
        rw [e2]

/-- What trim hands back reads as the number. -/
theorem trim_nat {w' : World} {ao : Option Addr} {cap : Nat} {xs : List Nat} (hc : Cells .u32 w' ao xs) (hcap : xs.length ≤ cap) (hx : ∀ x ∈ xs, x < 4294967296) (hm : cap ≤ maxLen) :
    NatIs w' (.agg #[.slice ao (limbs (val xs)).length (limbs (val xs)).length]) (val xs) := by
  refine ⟨_, rfl, ao, _, rfl, Nat.le_refl _, Nat.le_trans (val_limbs_length_le xs hx) (Nat.le_trans hcap hm), ?_, ?_⟩
  · rintro rfl
    rcases hc with rfl | ⟨b, off, h, _⟩
    · exact congrArg List.length limbs_zero
    · cases h
  · obtain ⟨k, hk, e⟩ := limbs_prefix xs hx
    rw [e]
    exact hc.take k
end Go.Proofs.YtegneoaoodddoaaDoor
