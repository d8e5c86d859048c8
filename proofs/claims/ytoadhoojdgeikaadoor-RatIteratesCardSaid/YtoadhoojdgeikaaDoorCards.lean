/-
  DERIVED. GIVEN WITH THE SEED: THE CARDS: each row of YtoadhoojdgeikaaDoorRows.lean that lists a variable, with what it lists TIED to the program's text (the seventh form; the later family's looks); each row that meets fmt, with fmt's text TOLD by the authors' own Lean function (tested against real Go, not proved from fmt's source: count such statements apart). THE CARD IS WHAT COUNTS. Prove the row's statement (the work); the ties are given (YtoadhoojdgeikaaDoorTie.lean); close each card by the builder's one call (the guide's Derived/Test/ToyasCard.lean, 'card_holds'). Laid BY PROGRAM, IN A SANDBOX (cutbox-door.mjs). By AI agents, Wed Nov 11 2026. No macro, syntax, notation, axiom, sorry.
-/
import Derived.Test.YtoadhoojdgeikaaDoorRows
import GoSem.ClaimSeven
namespace Go.Proofs.YtoadhoojdgeikaaDoor
namespace Rows

/-- THE TIED CARD OF 'hornbeamlaw2.RatIterates'. -/
def ratIteratesCard : Claim7 := { stood := { row := ratIteratesRow, standIns := [], harness := (true, "387b514bdebb3871410aada1c5265ff0e97f7d6320c445ff70198f049dcd0630"), looks := false }, kinds := [], alts := [], laidByText := true, laidKinds := [.data, .pinned], laidTests := true, laidLooks := .later }
def RatIteratesCardSaid : Prop := Claim7.holds Tryd.pinned (.plain (OpenSpec.ofChange ratIteratesSpec)) ratIteratesCard

/-- THE SECOND FORM's CARD OF 'hornbeamlaw2.RatIterates'. -/
def ratIteratesUptoCard : Claim7 := { stood := { row := ratIteratesUptoRow, standIns := [], harness := (true, "387b514bdebb3871410aada1c5265ff0e97f7d6320c445ff70198f049dcd0630"), looks := false }, kinds := [], alts := [], laidByText := true, laidKinds := [.data, .pinned], laidTests := true, laidLooks := .later }
def RatIteratesUptoCardSaid : Prop := Claim7.holds Tryd.pinned (.plain (OpenSpec.upto ratIteratesSpec)) ratIteratesUptoCard
end Rows
end Go.Proofs.YtoadhoojdgeikaaDoor
