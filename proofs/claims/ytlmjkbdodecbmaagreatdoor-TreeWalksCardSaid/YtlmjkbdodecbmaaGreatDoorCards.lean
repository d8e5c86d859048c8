/-
  DERIVED. GIVEN WITH THE SEED: THE CARDS: each row of YtlmjkbdodecbmaaGreatDoorRows.lean that lists a variable, with what it lists TIED to the program's text (the seventh form; the later family's looks); each row that meets fmt, with fmt's text TOLD by the authors' own Lean function (tested against real Go, not proved from fmt's source: count such statements apart). THE CARD IS WHAT COUNTS. Prove the row's statement (the work); the ties are given (YtlmjkbdodecbmaaGreatDoorTie.lean); close each card by the builder's one call (the guide's Derived/Test/ToyasCard.lean, 'card_holds'). Laid BY PROGRAM, IN A SANDBOX (cutbox-door.mjs). By AI agents, Wed Nov 11 2026. No macro, syntax, notation, axiom, sorry.
-/
import Derived.Test.YtlmjkbdodecbmaaGreatDoorRows
import GoSem.ClaimSeven
namespace Go.Proofs.YtlmjkbdodecbmaaGreatDoor
namespace Rows

/-- THE TIED CARD OF 'hornbeamlaw14.TreeWalks'. -/
def treeWalksCard : Claim7 := { stood := { row := treeWalksRow, standIns := [], harness := (true, "9f6f3ed6a18eb0819cbcc13ab18c1657a158a74601d6fcc0cdcefec8fcc71fcb"), looks := false }, kinds := [], alts := [], laidByText := true, laidKinds := [.data, .pinned], laidTests := true, laidLooks := .later }
def TreeWalksCardSaid : Prop := Claim7.holds Tryz.pinned (.plain (OpenSpec.ofChange treeWalksSpec)) treeWalksCard

/-- THE TIED CARD OF 'hornbeamlaw14.TreeOrders'. -/
def treeOrdersCard : Claim7 := { stood := { row := treeOrdersRow, standIns := [], harness := (true, "9f6f3ed6a18eb0819cbcc13ab18c1657a158a74601d6fcc0cdcefec8fcc71fcb"), looks := false }, kinds := [], alts := [], laidByText := true, laidKinds := [.data, .pinned], laidTests := true, laidLooks := .later }
def TreeOrdersCardSaid : Prop := Claim7.holds Tryz.pinned (.plain (OpenSpec.ofChange treeOrdersSpec)) treeOrdersCard

/-- THE TIED CARD OF 'hornbeamlaw12.ValuePrepares'. -/
def valuePreparesCard : Claim7 := { stood := { row := valuePreparesRow, standIns := [], harness := (true, "9f6f3ed6a18eb0819cbcc13ab18c1657a158a74601d6fcc0cdcefec8fcc71fcb"), looks := false }, kinds := [], alts := [], laidByText := true, laidKinds := [.data, .pinned], laidTests := true, laidLooks := .later }
def ValuePreparesCardSaid : Prop := Claim7.holds Tryz.pinned (.plain (OpenSpec.ofChange valuePreparesSpec)) valuePreparesCard

/-- THE SECOND FORM's CARD OF 'hornbeamlaw14.TreeWalks'. -/
def treeWalksUptoCard : Claim7 := { stood := { row := treeWalksUptoRow, standIns := [], harness := (true, "9f6f3ed6a18eb0819cbcc13ab18c1657a158a74601d6fcc0cdcefec8fcc71fcb"), looks := false }, kinds := [], alts := [], laidByText := true, laidKinds := [.data, .pinned], laidTests := true, laidLooks := .later }
def TreeWalksUptoCardSaid : Prop := Claim7.holds Tryz.pinned (.plain (OpenSpec.upto treeWalksSpec)) treeWalksUptoCard

/-- THE SECOND FORM's CARD OF 'hornbeamlaw14.TreeOrders'. -/
def treeOrdersUptoCard : Claim7 := { stood := { row := treeOrdersUptoRow, standIns := [], harness := (true, "9f6f3ed6a18eb0819cbcc13ab18c1657a158a74601d6fcc0cdcefec8fcc71fcb"), looks := false }, kinds := [], alts := [], laidByText := true, laidKinds := [.data, .pinned], laidTests := true, laidLooks := .later }
def TreeOrdersUptoCardSaid : Prop := Claim7.holds Tryz.pinned (.plain (OpenSpec.upto treeOrdersSpec)) treeOrdersUptoCard

/-- THE SECOND FORM's CARD OF 'hornbeamlaw12.ValuePrepares'. -/
def valuePreparesUptoCard : Claim7 := { stood := { row := valuePreparesUptoRow, standIns := [], harness := (true, "9f6f3ed6a18eb0819cbcc13ab18c1657a158a74601d6fcc0cdcefec8fcc71fcb"), looks := false }, kinds := [], alts := [], laidByText := true, laidKinds := [.data, .pinned], laidTests := true, laidLooks := .later }
def ValuePreparesUptoCardSaid : Prop := Claim7.holds Tryz.pinned (.plain (OpenSpec.upto valuePreparesSpec)) valuePreparesUptoCard
end Rows
end Go.Proofs.YtlmjkbdodecbmaaGreatDoor
