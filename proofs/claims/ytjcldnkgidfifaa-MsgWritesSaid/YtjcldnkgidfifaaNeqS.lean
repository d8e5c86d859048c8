/-
  A pointer is itself.
-/
import Derived.Test.YtjcldnkgidfifaaPmL
namespace Go.Proofs.Ytjcldnkgidfifaa
open Go.RowKit Go.Shelf
theorem equalIn_self (d p : Nat) (w : World) : (Op.equalIn (d + 1) 31 (.pointer (some ⟨p, 0, none⟩)) (.pointer (some ⟨p, 0, none⟩))).run Try.prog w = .ok true w := by
  simp [Op.equalIn, run_underlying Try.underlying31, sameAddr]
theorem neq_self (p : Nat) (w : World) : (binOp BinOp.neq 31 (.pointer (some ⟨p, 0, none⟩)) (.pointer (some ⟨p, 0, none⟩))).run Try.prog w = .ok (.bool false) w := by
  simp only [binOp]
  have h : (Op.equal 31 (.pointer (some ⟨p, 0, none⟩)) (.pointer (some ⟨p, 0, none⟩))).run Try.prog w = .ok true w := equalIn_self 9999 p w
  simp [h]
end Go.Proofs.Ytjcldnkgidfifaa
