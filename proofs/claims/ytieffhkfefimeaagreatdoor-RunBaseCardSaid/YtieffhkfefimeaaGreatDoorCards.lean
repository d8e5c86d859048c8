/-
  DERIVED. GIVEN WITH THE SEED: THE CARDS: each row of YtieffhkfefimeaaGreatDoorRows.lean that lists a variable, with what it lists TIED to the program's text (the seventh form; the later family's looks); each row that meets fmt, with fmt's text TOLD by the authors' own Lean function (tested against real Go, not proved from fmt's source: count such statements apart). THE CARD IS WHAT COUNTS. Prove the row's statement (the work); the ties are given (YtieffhkfefimeaaGreatDoorTie.lean); close each card by the builder's one call (the guide's Derived/Test/ToyasCard.lean, 'card_holds'). Laid BY PROGRAM, IN A SANDBOX (cutbox-door.mjs). By AI agents, Wed Nov 11 2026. No macro, syntax, notation, axiom, sorry.
-/
import Derived.Test.YtieffhkfefimeaaGreatDoorRows
import GoSem.ClaimSeven
namespace Go.Proofs.YtieffhkfefimeaaGreatDoor
namespace Rows

/-- THE TIED CARD OF 'hornbeamlaw24.RunTakes'. -/
def runTakesCard : Claim7 := { stood := { row := runTakesRow, standIns := [], harness := (true, "5097919f2741f55c75a1a262603b1fc7657011086d3d76234293604d12cea3bf"), looks := false }, kinds := [], alts := [], laidByText := true, laidKinds := [.data, .pinned], laidTests := true, laidLooks := .later }
def RunTakesCardSaid : Prop := Claim7.holds Tryz.pinned (.plain (OpenSpec.ofChange runTakesSpec)) runTakesCard

/-- THE TIED CARD OF 'hornbeamlaw24.RunTurned'. -/
def runTurnedCard : Claim7 := { stood := { row := runTurnedRow, standIns := [], harness := (true, "5097919f2741f55c75a1a262603b1fc7657011086d3d76234293604d12cea3bf"), looks := false }, kinds := [], alts := [], laidByText := true, laidKinds := [.data, .pinned], laidTests := true, laidLooks := .later }
def RunTurnedCardSaid : Prop := Claim7.holds Tryz.pinned (.plain (OpenSpec.ofChange runTurnedSpec)) runTurnedCard

/-- THE TIED CARD OF 'hornbeamlaw24.RunBase'. -/
def runBaseCard : Claim7 := { stood := { row := runBaseRow, standIns := [], harness := (true, "5097919f2741f55c75a1a262603b1fc7657011086d3d76234293604d12cea3bf"), looks := false }, kinds := [], alts := [], laidByText := true, laidKinds := [.data, .pinned], laidTests := true, laidLooks := .later }
def RunBaseCardSaid : Prop := Claim7.holds Tryz.pinned (.plain (OpenSpec.ofChange runBaseSpec)) runBaseCard

/-- THE TIED CARD OF 'hornbeamlaw24.RunBounds'. -/
def runBoundsCard : Claim7 := { stood := { row := runBoundsRow, standIns := [], harness := (true, "5097919f2741f55c75a1a262603b1fc7657011086d3d76234293604d12cea3bf"), looks := false }, kinds := [], alts := [], laidByText := true, laidKinds := [.data, .pinned], laidTests := true, laidLooks := .later }
def RunBoundsCardSaid : Prop := Claim7.holds Tryz.pinned (.plain (OpenSpec.ofChange runBoundsSpec)) runBoundsCard

/-- THE TIED CARD OF 'hornbeamlaw24.RunScores'. -/
def runScoresCard : Claim7 := { stood := { row := runScoresRow, standIns := [], harness := (true, "5097919f2741f55c75a1a262603b1fc7657011086d3d76234293604d12cea3bf"), looks := false }, kinds := [], alts := [], laidByText := true, laidKinds := [.data, .pinned], laidTests := true, laidLooks := .later }
def RunScoresCardSaid : Prop := Claim7.holds Tryz.pinned (.plain (OpenSpec.ofChange runScoresSpec)) runScoresCard

/-- THE SECOND FORM's CARD OF 'hornbeamlaw24.RunTakes'. -/
def runTakesUptoCard : Claim7 := { stood := { row := runTakesUptoRow, standIns := [], harness := (true, "5097919f2741f55c75a1a262603b1fc7657011086d3d76234293604d12cea3bf"), looks := false }, kinds := [], alts := [], laidByText := true, laidKinds := [.data, .pinned], laidTests := true, laidLooks := .later }
def RunTakesUptoCardSaid : Prop := Claim7.holds Tryz.pinned (.plain (OpenSpec.upto runTakesSpec)) runTakesUptoCard

/-- THE SECOND FORM's CARD OF 'hornbeamlaw24.RunTurned'. -/
def runTurnedUptoCard : Claim7 := { stood := { row := runTurnedUptoRow, standIns := [], harness := (true, "5097919f2741f55c75a1a262603b1fc7657011086d3d76234293604d12cea3bf"), looks := false }, kinds := [], alts := [], laidByText := true, laidKinds := [.data, .pinned], laidTests := true, laidLooks := .later }
def RunTurnedUptoCardSaid : Prop := Claim7.holds Tryz.pinned (.plain (OpenSpec.upto runTurnedSpec)) runTurnedUptoCard

/-- THE SECOND FORM's CARD OF 'hornbeamlaw24.RunBase'. -/
def runBaseUptoCard : Claim7 := { stood := { row := runBaseUptoRow, standIns := [], harness := (true, "5097919f2741f55c75a1a262603b1fc7657011086d3d76234293604d12cea3bf"), looks := false }, kinds := [], alts := [], laidByText := true, laidKinds := [.data, .pinned], laidTests := true, laidLooks := .later }
def RunBaseUptoCardSaid : Prop := Claim7.holds Tryz.pinned (.plain (OpenSpec.upto runBaseSpec)) runBaseUptoCard

/-- THE SECOND FORM's CARD OF 'hornbeamlaw24.RunBounds'. -/
def runBoundsUptoCard : Claim7 := { stood := { row := runBoundsUptoRow, standIns := [], harness := (true, "5097919f2741f55c75a1a262603b1fc7657011086d3d76234293604d12cea3bf"), looks := false }, kinds := [], alts := [], laidByText := true, laidKinds := [.data, .pinned], laidTests := true, laidLooks := .later }
def RunBoundsUptoCardSaid : Prop := Claim7.holds Tryz.pinned (.plain (OpenSpec.upto runBoundsSpec)) runBoundsUptoCard

/-- THE SECOND FORM's CARD OF 'hornbeamlaw24.RunScores'. -/
def runScoresUptoCard : Claim7 := { stood := { row := runScoresUptoRow, standIns := [], harness := (true, "5097919f2741f55c75a1a262603b1fc7657011086d3d76234293604d12cea3bf"), looks := false }, kinds := [], alts := [], laidByText := true, laidKinds := [.data, .pinned], laidTests := true, laidLooks := .later }
def RunScoresUptoCardSaid : Prop := Claim7.holds Tryz.pinned (.plain (OpenSpec.upto runScoresSpec)) runScoresUptoCard
end Rows
end Go.Proofs.YtieffhkfefimeaaGreatDoor
