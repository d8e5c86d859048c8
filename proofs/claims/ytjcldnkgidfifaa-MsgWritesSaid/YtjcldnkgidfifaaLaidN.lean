/-
  The program's types are laid out.
-/
import Derived.WalkKit
import Derived.ProofKit
import Derived.Carry
import Derived.Test.YtjcldnkgidfifaaProg
namespace Go.Proofs.Ytjcldnkgidfifaa
theorem laidOutN : laidOutB Try.prog = true := by kernel_rfl
end Go.Proofs.Ytjcldnkgidfifaa
