/-
  DERIVED. GIVEN WITH THE SEED: THE CARDS: each row of YtanicapbdigjaaaGreatDoorRows.lean that lists a variable, with what it lists TIED to the program's text (the seventh form; the later family's looks); each row that meets fmt, with fmt's text TOLD by the authors' own Lean function (tested against real Go, not proved from fmt's source: count such statements apart). THE CARD IS WHAT COUNTS. Prove the row's statement (the work); the ties are given (YtanicapbdigjaaaGreatDoorTie.lean); close each card by the builder's one call (the guide's Derived/Test/ToyasCard.lean, 'card_holds'). Laid BY PROGRAM, IN A SANDBOX (cutbox-door.mjs). By AI agents, Wed Nov 11 2026. No macro, syntax, notation, axiom, sorry.
-/
import Derived.Test.YtanicapbdigjaaaGreatDoorRows
import GoSem.ClaimSeven
namespace Go.Proofs.YtanicapbdigjaaaGreatDoor
namespace Rows

/-- THE TIED CARD OF 'hornbeamlaw4.IeeeFinds'. -/
def ieeeFindsCard : Claim7 := { stood := { row := ieeeFindsRow, standIns := [], harness := (true, "862d90d80cbea368446b93051cedd11ae442c05800001c866b0fac344bde5be1"), looks := false }, kinds := [], alts := [], laidByText := true, laidKinds := [.data, .pinned], laidTests := true, laidLooks := .later }
def IeeeFindsCardSaid : Prop := Claim7.holds Tryz.pinned (.plain (OpenSpec.ofChange ieeeFindsSpec)) ieeeFindsCard

/-- THE SECOND FORM's CARD OF 'hornbeamlaw4.IeeeFinds'. -/
def ieeeFindsUptoCard : Claim7 := { stood := { row := ieeeFindsUptoRow, standIns := [], harness := (true, "862d90d80cbea368446b93051cedd11ae442c05800001c866b0fac344bde5be1"), looks := false }, kinds := [], alts := [], laidByText := true, laidKinds := [.data, .pinned], laidTests := true, laidLooks := .later }
def IeeeFindsUptoCardSaid : Prop := Claim7.holds Tryz.pinned (.plain (OpenSpec.upto ieeeFindsSpec)) ieeeFindsUptoCard
end Rows
end Go.Proofs.YtanicapbdigjaaaGreatDoor
