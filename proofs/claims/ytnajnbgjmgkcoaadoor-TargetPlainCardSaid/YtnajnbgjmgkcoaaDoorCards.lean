/-
  DERIVED. GIVEN WITH THE SEED: THE CARDS: each row of YtnajnbgjmgkcoaaDoorRows.lean that lists a variable, with what it lists TIED to the program's text (the seventh form; the later family's looks); each row that meets fmt, with fmt's text TOLD by the authors' own Lean function (tested against real Go, not proved from fmt's source: count such statements apart). THE CARD IS WHAT COUNTS. Prove the row's statement (the work); the ties are given (YtnajnbgjmgkcoaaDoorTie.lean); close each card by the builder's one call (the guide's Derived/Test/ToyasCard.lean, 'card_holds'). Laid BY PROGRAM, IN A SANDBOX (cutbox-door.mjs). By AI agents, Wed Nov 11 2026. No macro, syntax, notation, axiom, sorry.
-/
import Derived.Test.YtnajnbgjmgkcoaaDoorRows
import GoSem.ClaimSeven
namespace Go.Proofs.YtnajnbgjmgkcoaaDoor
namespace Rows

/-- THE TIED CARD OF 'hornbeamlaw17.TargetPlain'. -/
def targetPlainCard : Claim7 := { stood := { row := targetPlainRow, standIns := [], harness := (true, "422f86b0e527f85365028f13b7d8b33a9e16b94068a2d39caacea46c0a1559c6"), looks := false }, kinds := [], alts := [], laidByText := true, laidKinds := [.data, .pinned], laidTests := true, laidLooks := .later }
def TargetPlainCardSaid : Prop := Claim7.holds Tryd.pinned (.plain (OpenSpec.ofChange targetPlainSpec)) targetPlainCard

/-- THE TIED CARD OF 'hornbeamlaw17.TargetSteps'. -/
def targetStepsCard : Claim7 := { stood := { row := targetStepsRow, standIns := [], harness := (true, "422f86b0e527f85365028f13b7d8b33a9e16b94068a2d39caacea46c0a1559c6"), looks := false }, kinds := [], alts := [], laidByText := true, laidKinds := [.data, .pinned], laidTests := true, laidLooks := .later }
def TargetStepsCardSaid : Prop := Claim7.holds Tryd.pinned (.plain (OpenSpec.ofChange targetStepsSpec)) targetStepsCard

/-- THE SECOND FORM's CARD OF 'hornbeamlaw17.TargetPlain'. -/
def targetPlainUptoCard : Claim7 := { stood := { row := targetPlainUptoRow, standIns := [], harness := (true, "422f86b0e527f85365028f13b7d8b33a9e16b94068a2d39caacea46c0a1559c6"), looks := false }, kinds := [], alts := [], laidByText := true, laidKinds := [.data, .pinned], laidTests := true, laidLooks := .later }
def TargetPlainUptoCardSaid : Prop := Claim7.holds Tryd.pinned (.plain (OpenSpec.upto targetPlainSpec)) targetPlainUptoCard

/-- THE SECOND FORM's CARD OF 'hornbeamlaw17.TargetSteps'. -/
def targetStepsUptoCard : Claim7 := { stood := { row := targetStepsUptoRow, standIns := [], harness := (true, "422f86b0e527f85365028f13b7d8b33a9e16b94068a2d39caacea46c0a1559c6"), looks := false }, kinds := [], alts := [], laidByText := true, laidKinds := [.data, .pinned], laidTests := true, laidLooks := .later }
def TargetStepsUptoCardSaid : Prop := Claim7.holds Tryd.pinned (.plain (OpenSpec.upto targetStepsSpec)) targetStepsUptoCard
end Rows
end Go.Proofs.YtnajnbgjmgkcoaaDoor
