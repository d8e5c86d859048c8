/-
  EnsembleSpoilt: the walk, for an ensemble that came in.
-/
import Derived.Test.YtieffhkfefimeaaGreatLawSp
import Derived.Test.YtieffhkfefimeaaGreatOpenE
namespace Go.Proofs.YtieffhkfefimeaaGreat
open Go.RowKit
theorem ensembleSpoilt_walk (v : Value) (how k : Int) (w : World) (h : EnsIn w v) (_ : (Lit.int .i64 how).wf = true) (_ : (Lit.int .i64 k).wf = true) :
    Calls Tryz.prog 3 #[v, .int .i64 how, .int .i64 k] w fun e' w' => e' = .returned (.bool true) ∧ Below w.heap.size w w' := by
  obtain ⟨e, bo, bc, no, nc, lo, lc, hE, _, _, hlz, _⟩ := h
  exact spoilt_e v e bo bc no nc lo lc how k w hE hlz
end Go.Proofs.YtieffhkfefimeaaGreat
