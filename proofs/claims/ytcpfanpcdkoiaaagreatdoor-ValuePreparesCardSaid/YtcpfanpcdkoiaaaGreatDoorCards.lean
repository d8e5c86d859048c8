/-
  DERIVED. GIVEN WITH THE SEED: THE CARDS: each row of YtcpfanpcdkoiaaaGreatDoorRows.lean that lists a variable, with what it lists TIED to the program's text (the seventh form; the later family's looks); each row that meets fmt, with fmt's text TOLD by the authors' own Lean function (tested against real Go, not proved from fmt's source: count such statements apart). THE CARD IS WHAT COUNTS. Prove the row's statement (the work); the ties are given (YtcpfanpcdkoiaaaGreatDoorTie.lean); close each card by the builder's one call (the guide's Derived/Test/ToyasCard.lean, 'card_holds'). Laid BY PROGRAM, IN A SANDBOX (cutbox-door.mjs). By AI agents, Wed Nov 11 2026. No macro, syntax, notation, axiom, sorry.
-/
import Derived.Test.YtcpfanpcdkoiaaaGreatDoorRows
import GoSem.ClaimSeven
namespace Go.Proofs.YtcpfanpcdkoiaaaGreatDoor
namespace Rows

/-- THE TIED CARD OF 'hornbeamlaw12.ValuePrepares'. -/
def valuePreparesCard : Claim7 := { stood := { row := valuePreparesRow, standIns := [], harness := (true, "4cc98c78284e5197f0170482f82864910c21d5bc991edf78596b2a4f897b540d"), looks := false }, kinds := [], alts := [], laidByText := true, laidKinds := [.data, .pinned], laidTests := true, laidLooks := .later }
def ValuePreparesCardSaid : Prop := Claim7.holds Tryz.pinned (.plain (OpenSpec.ofChange valuePreparesSpec)) valuePreparesCard

/-- THE TIED CARD OF 'hornbeamlaw24.RunScores'. -/
def runScoresCard : Claim7 := { stood := { row := runScoresRow, standIns := [], harness := (true, "4cc98c78284e5197f0170482f82864910c21d5bc991edf78596b2a4f897b540d"), looks := false }, kinds := [], alts := [], laidByText := true, laidKinds := [.data, .pinned], laidTests := true, laidLooks := .later }
def RunScoresCardSaid : Prop := Claim7.holds Tryz.pinned (.plain (OpenSpec.ofChange runScoresSpec)) runScoresCard

/-- THE SECOND FORM's CARD OF 'hornbeamlaw12.ValuePrepares'. -/
def valuePreparesUptoCard : Claim7 := { stood := { row := valuePreparesUptoRow, standIns := [], harness := (true, "4cc98c78284e5197f0170482f82864910c21d5bc991edf78596b2a4f897b540d"), looks := false }, kinds := [], alts := [], laidByText := true, laidKinds := [.data, .pinned], laidTests := true, laidLooks := .later }
def ValuePreparesUptoCardSaid : Prop := Claim7.holds Tryz.pinned (.plain (OpenSpec.upto valuePreparesSpec)) valuePreparesUptoCard

/-- THE SECOND FORM's CARD OF 'hornbeamlaw24.RunScores'. -/
def runScoresUptoCard : Claim7 := { stood := { row := runScoresUptoRow, standIns := [], harness := (true, "4cc98c78284e5197f0170482f82864910c21d5bc991edf78596b2a4f897b540d"), looks := false }, kinds := [], alts := [], laidByText := true, laidKinds := [.data, .pinned], laidTests := true, laidLooks := .later }
def RunScoresUptoCardSaid : Prop := Claim7.holds Tryz.pinned (.plain (OpenSpec.upto runScoresSpec)) runScoresUptoCard
end Rows
end Go.Proofs.YtcpfanpcdkoiaaaGreatDoor
