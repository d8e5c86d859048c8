import Derived.Test.YtieffhkfefimeaaGreatDoorMathS
import Derived.Test.YtieffhkfefimeaaGreatDoorSeqA
import Derived.Lib.Bytealg
import Derived.BigCall
namespace Go.Proofs.YtieffhkfefimeaaGreatDoor
open Go.RowKit
set_option linter.unusedVariables false
set_option linter.unusedSimpArgs false
theorem index_no {l : List UInt8} {c : UInt8} (h : c ∉ l) : Lib.indexByte l c = -1 := by
  induction l with
  | nil => rfl
  | cons b l ih =>
    simp only [List.mem_cons, not_or] at h
    unfold Lib.indexByte
    rw [if_neg (by simp; exact fun e => h.1 e.symm), ih h.2]; rfl
theorem index_yes {l : List UInt8} {c : UInt8} (h : c ∈ l) : ∃ k : Nat, Lib.indexByte l c = k ∧ k < l.length ∧ l.take k = l.takeWhile (· != c) ∧ l.drop (k + 1) = (l.dropWhile (· != c)).tail := by
  induction l with
  | nil => cases h
  | cons b l ih =>
    unfold Lib.indexByte
    by_cases hb : b = c
    · subst hb
      exact ⟨0, by simp, by simp, by simp, by simp⟩
    · have hb' : (b == c) = false := by simpa using hb
      rw [hb']
      rcases List.mem_cons.1 h with h1 | h1
      · exact (hb h1.symm).elim
      obtain ⟨k, h2, h3, h4, h5⟩ := ih h1
      refine ⟨k + 1, ?_, by simp; omega, ?_, ?_⟩
      · rw [h2, if_neg (by simp), if_neg (by simp)]; simp
      · simp [List.takeWhile_cons, hb, h4]
      · simp [List.dropWhile_cons, hb, h5]
set_option maxHeartbeats 1000000 in
set_option maxRecDepth 100000 in
theorem ibyte_any (l : List UInt8) (c : Int) (w : World) :
    Calls Tryz.prog 212 #[.string ⟨l.toArray⟩, .int .u8 c] w fun e w' => e = .returned (.int .i64 (Lib.indexByte l c.toNat.toUInt8)) ∧ w' = w := by
  go_enter Tryz.func212, Tryz.ntmps212
  go_wp2
  rw [run_callFunc_extern Tryz.func213 (by kernel_rfl) (by kernel_rfl) (by kernel_rfl) (e := Extern.BytealgIndexByte.indexByte) (by kernel_rfl), Lib.run_indexByteString]
  simp only [Result.andThen]
  rw [Oper.upon_value]
  go_wp2
  go_ret
  exact ⟨rfl, rfl⟩
theorem extract_eq (l : List UInt8) (i j : Nat) : (⟨l.toArray⟩ : ByteArray).extract i j = ⟨((l.take j).drop i).toArray⟩ := bytes_extract l i j
end Go.Proofs.YtieffhkfefimeaaGreatDoor
