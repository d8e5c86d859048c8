/-
  DERIVED. GIVEN WITH THE SEED: THE CARDS: each row of YtkghahehkeaikaaDoorRows.lean that lists a variable, with what it lists TIED to the program's text (the seventh form; the later family's looks); each row that meets fmt, with fmt's text TOLD by the authors' own Lean function (tested against real Go, not proved from fmt's source: count such statements apart). THE CARD IS WHAT COUNTS. Prove the row's statement (the work); the ties are given (YtkghahehkeaikaaDoorTie.lean); close each card by the builder's one call (the guide's Derived/Test/ToyasCard.lean, 'card_holds'). Laid BY PROGRAM, IN A SANDBOX (cutbox-door.mjs). By AI agents, Wed Nov 11 2026. No macro, syntax, notation, axiom, sorry.
-/
import Derived.Test.YtkghahehkeaikaaDoorRows
import GoSem.ClaimSeven
namespace Go.Proofs.YtkghahehkeaikaaDoor
namespace Rows

/-- THE TIED CARD OF 'hornbeamlaw3.DecFinite'. -/
def decFiniteCard : Claim7 := { stood := { row := decFiniteRow, standIns := [], harness := (true, "bdee5c2a557bf3d9be5e352120dce8aa689db5a6f0a845375bc7df22fefdac6e"), looks := false }, kinds := [], alts := [], laidByText := true, laidKinds := [.data, .pinned], laidTests := true, laidLooks := .later }
def DecFiniteCardSaid : Prop := Claim7.holds Tryd.pinned (.plain (OpenSpec.ofChange decFiniteSpec)) decFiniteCard

/-- THE TIED CARD OF 'hornbeamlaw3.DecBack'. -/
def decBackCard : Claim7 := { stood := { row := decBackRow, standIns := [], harness := (true, "bdee5c2a557bf3d9be5e352120dce8aa689db5a6f0a845375bc7df22fefdac6e"), looks := false }, kinds := [], alts := [], laidByText := true, laidKinds := [.data, .pinned], laidTests := true, laidLooks := .later }
def DecBackCardSaid : Prop := Claim7.holds Tryd.pinned (.plain (OpenSpec.ofChange decBackSpec)) decBackCard

/-- THE SECOND FORM's CARD OF 'hornbeamlaw3.DecFinite'. -/
def decFiniteUptoCard : Claim7 := { stood := { row := decFiniteUptoRow, standIns := [], harness := (true, "bdee5c2a557bf3d9be5e352120dce8aa689db5a6f0a845375bc7df22fefdac6e"), looks := false }, kinds := [], alts := [], laidByText := true, laidKinds := [.data, .pinned], laidTests := true, laidLooks := .later }
def DecFiniteUptoCardSaid : Prop := Claim7.holds Tryd.pinned (.plain (OpenSpec.upto decFiniteSpec)) decFiniteUptoCard

/-- THE SECOND FORM's CARD OF 'hornbeamlaw3.DecBack'. -/
def decBackUptoCard : Claim7 := { stood := { row := decBackUptoRow, standIns := [], harness := (true, "bdee5c2a557bf3d9be5e352120dce8aa689db5a6f0a845375bc7df22fefdac6e"), looks := false }, kinds := [], alts := [], laidByText := true, laidKinds := [.data, .pinned], laidTests := true, laidLooks := .later }
def DecBackUptoCardSaid : Prop := Claim7.holds Tryd.pinned (.plain (OpenSpec.upto decBackSpec)) decBackUptoCard
end Rows
end Go.Proofs.YtkghahehkeaikaaDoor
