/-
  Arguments that are lists of strings: what the reader says of them, for the walk (a nil list has no room).
-/
import Derived.Test.YtjcldnkgidfifaaBookU
import Derived.WalkKit
import Derived.ProofKit
import Derived.OpenShut
import Derived.ShutString
import Derived.Carry
import Derived.SliceStrings
namespace Go.Proofs.Ytjcldnkgidfifaa
open Go.ChangeShapes Go.WideShapes Go.ChangeAt Go.RowKit
set_option linter.unusedVariables false

set_option maxRecDepth 100000 in
theorem strsN_of_trod {H : Type} {enc : TypeId × Value → H} {W : World} {base : Nat} {v : Value} {d : DataW H} {p : List MemPlace} (hok : Value.okWide Try.prog W .any base 26 v) (h : DataW.Trod enc Try.prog W 0 (fun _ => true) true 26 v d p) :
    ∃ ls, StrsN W v ls ∧ ∀ l ∈ ls, l.length ≤ maxLen := by
  obtain ⟨a0, len, cap, rfl⟩ := okWide_slice Try.underlying26 hok
  obtain ⟨fuel, hf⟩ := h
  rcases open_strings Try.underlying26 Try.underlying9 (by kernel_rfl) hf with ⟨hcs, hx⟩ | ⟨a, len', cap', ss, hcs, _, hl, hm, hz, hx, hcell, hws⟩
  · simp [Value.cells] at hcs
    obtain ⟨rfl, rfl, rfl⟩ := hcs
    exact ⟨[], ⟨⟨none, 0, rfl, Nat.le_refl _, Nat.zero_le _, .inl rfl⟩, fun l c e => by cases e; rfl⟩, by simp⟩
  · simp [Value.cells] at hcs
    obtain ⟨rfl, rfl, rfl⟩ := hcs
    simp only [if_true] at hz
    have hlen : ((ss.take len).map (·.data.toList)).length = len := by simp; omega
    refine ⟨(ss.take len).map (·.data.toList), ⟨⟨some a, cap, by rw [hlen], by rw [hlen]; exact hl, hm, ?_⟩, fun l c e => by cases e⟩, ?_⟩
    · rcases Nat.eq_zero_or_pos len with h0 | h0
      · left; subst h0; simp
      · right
        obtain ⟨blk, off, spot⟩ := a
        have hc0 := hcell 0 (by omega)
        have hsp : spot = none := by
          unfold World.cell? at hc0
          split at hc0
          · cases spot with
            | none => rfl
            | some x => simp [Addr.add] at hc0
          · cases hc0
        subst hsp
        refine ⟨blk, off, rfl, World.block_lt_of_cell? W _ hc0, fun i hi => ?_⟩
        rw [hlen] at hi
        have hc := hcell i (by omega)
        rw [Addr.add_lit] at hc
        rw [hc, List.getElem?_map, List.getElem?_take, if_pos hi, List.getElem?_eq_getElem (by omega), List.getD, List.getElem?_eq_getElem (by omega)]
        rfl
    · intro l hl'
      obtain ⟨s, hs, rfl⟩ := List.mem_map.1 hl'
      have h9 := hws s (List.mem_of_mem_take hs)
      rw [Array.length_toList]
      exact h9
end Go.Proofs.Ytjcldnkgidfifaa
