/-
  The program's types are laid out.
-/
import Derived.WalkKit
import Derived.ProofKit
import Derived.Carry
import Derived.Test.YtiekehfdgbmijaaDoorProg
namespace Go.Proofs.YtiekehfdgbmijaaDoor
theorem laidOutN : laidOutB Tryd.prog = true := by kernel_rfl
end Go.Proofs.YtiekehfdgbmijaaDoor
