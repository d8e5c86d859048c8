/-
  DERIVED. GIVEN WITH THE SEED: THE CARDS: each row of YtafmhoeammbemaaDoorRows.lean that lists a variable, with what it lists TIED to the program's text (the seventh form; the later family's looks); each row that meets fmt, with fmt's text TOLD by the authors' own Lean function (tested against real Go, not proved from fmt's source: count such statements apart). THE CARD IS WHAT COUNTS. Prove the row's statement (the work); the ties are given (YtafmhoeammbemaaDoorTie.lean); close each card by the builder's one call (the guide's Derived/Test/ToyasCard.lean, 'card_holds'). Laid BY PROGRAM, IN A SANDBOX (cutbox-door.mjs). By AI agents, Wed Nov 11 2026. No macro, syntax, notation, axiom, sorry.
-/
import Derived.Test.YtafmhoeammbemaaDoorRows
import GoSem.ClaimSeven
namespace Go.Proofs.YtafmhoeammbemaaDoor
namespace Rows

/-- THE TIED CARD OF 'hornbeamlaw13.PredOpposite'. -/
def predOppositeCard : Claim7 := { stood := { row := predOppositeRow, standIns := [], harness := (true, "02bbe10123ded729c4969858f2e148a676ba3365a9f72876965cbb2c7c24ec53"), looks := false }, kinds := [], alts := [], laidByText := true, laidKinds := [.data, .pinned], laidTests := true, laidLooks := .later }
def PredOppositeCardSaid : Prop := Claim7.holds Tryd.pinned (.plain (OpenSpec.ofChange predOppositeSpec)) predOppositeCard

/-- THE SECOND FORM's CARD OF 'hornbeamlaw13.PredOpposite'. -/
def predOppositeUptoCard : Claim7 := { stood := { row := predOppositeUptoRow, standIns := [], harness := (true, "02bbe10123ded729c4969858f2e148a676ba3365a9f72876965cbb2c7c24ec53"), looks := false }, kinds := [], alts := [], laidByText := true, laidKinds := [.data, .pinned], laidTests := true, laidLooks := .later }
def PredOppositeUptoCardSaid : Prop := Claim7.holds Tryd.pinned (.plain (OpenSpec.upto predOppositeSpec)) predOppositeUptoCard
end Rows
end Go.Proofs.YtafmhoeammbemaaDoor
