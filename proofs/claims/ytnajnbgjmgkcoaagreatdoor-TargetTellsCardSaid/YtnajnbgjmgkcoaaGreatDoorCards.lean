/-
  DERIVED. GIVEN WITH THE SEED: THE CARDS: each row of YtnajnbgjmgkcoaaGreatDoorRows.lean that lists a variable, with what it lists TIED to the program's text (the seventh form; the later family's looks); each row that meets fmt, with fmt's text TOLD by the authors' own Lean function (tested against real Go, not proved from fmt's source: count such statements apart). THE CARD IS WHAT COUNTS. Prove the row's statement (the work); the ties are given (YtnajnbgjmgkcoaaGreatDoorTie.lean); close each card by the builder's one call (the guide's Derived/Test/ToyasCard.lean, 'card_holds'). Laid BY PROGRAM, IN A SANDBOX (cutbox-door.mjs). By AI agents, Wed Nov 11 2026. No macro, syntax, notation, axiom, sorry.
-/
import Derived.Test.YtnajnbgjmgkcoaaGreatDoorRows
import GoSem.ClaimSeven
namespace Go.Proofs.YtnajnbgjmgkcoaaGreatDoor
namespace Rows

/-- THE TIED CARD OF 'hornbeamlaw17.TargetTells'. -/
def targetTellsCard : Claim7 := { stood := { row := targetTellsRow, standIns := [], harness := (true, "df1a211eaec245e86092477ccb8a3a2829a4099ec471f0a83d22c84696793103"), looks := false }, kinds := [], alts := [], laidByText := true, laidKinds := [.data, .pinned], laidTests := true, laidLooks := .later }
def TargetTellsCardSaid : Prop := Claim7.holds Tryz.pinned (.plain (OpenSpec.ofChange targetTellsSpec)) targetTellsCard

/-- THE SECOND FORM's CARD OF 'hornbeamlaw17.TargetTells'. -/
def targetTellsUptoCard : Claim7 := { stood := { row := targetTellsUptoRow, standIns := [], harness := (true, "df1a211eaec245e86092477ccb8a3a2829a4099ec471f0a83d22c84696793103"), looks := false }, kinds := [], alts := [], laidByText := true, laidKinds := [.data, .pinned], laidTests := true, laidLooks := .later }
def TargetTellsUptoCardSaid : Prop := Claim7.holds Tryz.pinned (.plain (OpenSpec.upto targetTellsSpec)) targetTellsUptoCard
end Rows
end Go.Proofs.YtnajnbgjmgkcoaaGreatDoor
