/-
  DERIVED. GIVEN WITH THE SEED: THE CARDS: each row of YtkghahehkeaikaaGreatDoorRows.lean that lists a variable, with what it lists TIED to the program's text (the seventh form; the later family's looks); each row that meets fmt, with fmt's text TOLD by the authors' own Lean function (tested against real Go, not proved from fmt's source: count such statements apart). THE CARD IS WHAT COUNTS. Prove the row's statement (the work); the ties are given (YtkghahehkeaikaaGreatDoorTie.lean); close each card by the builder's one call (the guide's Derived/Test/ToyasCard.lean, 'card_holds'). Laid BY PROGRAM, IN A SANDBOX (cutbox-door.mjs). By AI agents, Wed Nov 11 2026. No macro, syntax, notation, axiom, sorry.
-/
import Derived.Test.YtkghahehkeaikaaGreatDoorRows
import GoSem.ClaimSeven
namespace Go.Proofs.YtkghahehkeaikaaGreatDoor
namespace Rows

/-- THE TIED CARD OF 'hornbeamlaw3.DecTells'. -/
def decTellsCard : Claim7 := { stood := { row := decTellsRow, standIns := [], harness := (true, "9c307cf60ff6f7bb57ba1f9cca37c412ad17eb3381241e117c96d69b3ebd67bb"), looks := false }, kinds := [], alts := [], laidByText := true, laidKinds := [.data, .pinned], laidTests := true, laidLooks := .later }
def DecTellsCardSaid : Prop := Claim7.holds Tryz.pinned (.plain (OpenSpec.ofChange decTellsSpec)) decTellsCard

/-- THE TIED CARD OF 'hornbeamlaw3.DecShifts'. -/
def decShiftsCard : Claim7 := { stood := { row := decShiftsRow, standIns := [], harness := (true, "9c307cf60ff6f7bb57ba1f9cca37c412ad17eb3381241e117c96d69b3ebd67bb"), looks := false }, kinds := [], alts := [], laidByText := true, laidKinds := [.data, .pinned], laidTests := true, laidLooks := .later }
def DecShiftsCardSaid : Prop := Claim7.holds Tryz.pinned (.plain (OpenSpec.ofChange decShiftsSpec)) decShiftsCard

/-- THE SECOND FORM's CARD OF 'hornbeamlaw3.DecTells'. -/
def decTellsUptoCard : Claim7 := { stood := { row := decTellsUptoRow, standIns := [], harness := (true, "9c307cf60ff6f7bb57ba1f9cca37c412ad17eb3381241e117c96d69b3ebd67bb"), looks := false }, kinds := [], alts := [], laidByText := true, laidKinds := [.data, .pinned], laidTests := true, laidLooks := .later }
def DecTellsUptoCardSaid : Prop := Claim7.holds Tryz.pinned (.plain (OpenSpec.upto decTellsSpec)) decTellsUptoCard

/-- THE SECOND FORM's CARD OF 'hornbeamlaw3.DecShifts'. -/
def decShiftsUptoCard : Claim7 := { stood := { row := decShiftsUptoRow, standIns := [], harness := (true, "9c307cf60ff6f7bb57ba1f9cca37c412ad17eb3381241e117c96d69b3ebd67bb"), looks := false }, kinds := [], alts := [], laidByText := true, laidKinds := [.data, .pinned], laidTests := true, laidLooks := .later }
def DecShiftsUptoCardSaid : Prop := Claim7.holds Tryz.pinned (.plain (OpenSpec.upto decShiftsSpec)) decShiftsUptoCard
end Rows
end Go.Proofs.YtkghahehkeaikaaGreatDoor
