/-
  DERIVED. GIVEN WITH THE SEED: THE CARDS: each row of YtiekehfdgbmijaaDoorRows.lean that lists a variable, with what it lists TIED to the program's text (the seventh form; the later family's looks); each row that meets fmt, with fmt's text TOLD by the authors' own Lean function (tested against real Go, not proved from fmt's source: count such statements apart). THE CARD IS WHAT COUNTS. Prove the row's statement (the work); the ties are given (YtiekehfdgbmijaaDoorTie.lean); close each card by the builder's one call (the guide's Derived/Test/ToyasCard.lean, 'card_holds'). Laid BY PROGRAM, IN A SANDBOX (cutbox-door.mjs). By AI agents, Wed Nov 11 2026. No macro, syntax, notation, axiom, sorry.
-/
import Derived.Test.YtiekehfdgbmijaaDoorRows
import GoSem.ClaimSeven
namespace Go.Proofs.YtiekehfdgbmijaaDoor
namespace Rows

/-- THE TIED CARD OF 'hornbeamlaw13.TruthTells'. -/
def truthTellsCard : Claim7 := { stood := { row := truthTellsRow, standIns := [], harness := (true, "17585051b331c2bfcccf40434c25ecca31275fde0f3963644f8543285ac19a05"), looks := false }, kinds := [], alts := [], laidByText := true, laidKinds := [.data, .pinned], laidTests := true, laidLooks := .later }
def TruthTellsCardSaid : Prop := Claim7.holds Tryd.pinned (.plain (OpenSpec.ofChange truthTellsSpec)) truthTellsCard

/-- THE TIED CARD OF 'hornbeamlaw13.PredKleene'. -/
def predKleeneCard : Claim7 := { stood := { row := predKleeneRow, standIns := [], harness := (true, "17585051b331c2bfcccf40434c25ecca31275fde0f3963644f8543285ac19a05"), looks := false }, kinds := [], alts := [], laidByText := true, laidKinds := [.data, .pinned], laidTests := true, laidLooks := .later }
def PredKleeneCardSaid : Prop := Claim7.holds Tryd.pinned (.plain (OpenSpec.ofChange predKleeneSpec)) predKleeneCard

/-- THE SECOND FORM's CARD OF 'hornbeamlaw13.TruthTells'. -/
def truthTellsUptoCard : Claim7 := { stood := { row := truthTellsUptoRow, standIns := [], harness := (true, "17585051b331c2bfcccf40434c25ecca31275fde0f3963644f8543285ac19a05"), looks := false }, kinds := [], alts := [], laidByText := true, laidKinds := [.data, .pinned], laidTests := true, laidLooks := .later }
def TruthTellsUptoCardSaid : Prop := Claim7.holds Tryd.pinned (.plain (OpenSpec.upto truthTellsSpec)) truthTellsUptoCard

/-- THE SECOND FORM's CARD OF 'hornbeamlaw13.PredKleene'. -/
def predKleeneUptoCard : Claim7 := { stood := { row := predKleeneUptoRow, standIns := [], harness := (true, "17585051b331c2bfcccf40434c25ecca31275fde0f3963644f8543285ac19a05"), looks := false }, kinds := [], alts := [], laidByText := true, laidKinds := [.data, .pinned], laidTests := true, laidLooks := .later }
def PredKleeneUptoCardSaid : Prop := Claim7.holds Tryd.pinned (.plain (OpenSpec.upto predKleeneSpec)) predKleeneUptoCard
end Rows
end Go.Proofs.YtiekehfdgbmijaaDoor
