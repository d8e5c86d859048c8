/-
  DERIVED. GIVEN WITH THE SEED: THE CARDS: each row of YtlmjkbdodecbmaaDoorRows.lean that lists a variable, with what it lists TIED to the program's text (the seventh form; the later family's looks); each row that meets fmt, with fmt's text TOLD by the authors' own Lean function (tested against real Go, not proved from fmt's source: count such statements apart). THE CARD IS WHAT COUNTS. Prove the row's statement (the work); the ties are given (YtlmjkbdodecbmaaDoorTie.lean); close each card by the builder's one call (the guide's Derived/Test/ToyasCard.lean, 'card_holds'). Laid BY PROGRAM, IN A SANDBOX (cutbox-door.mjs). By AI agents, Wed Nov 11 2026. No macro, syntax, notation, axiom, sorry.
-/
import Derived.Test.YtlmjkbdodecbmaaDoorRows
import GoSem.ClaimSeven
namespace Go.Proofs.YtlmjkbdodecbmaaDoor
namespace Rows

/-- THE TIED CARD OF 'hornbeamlaw13.PredWalks'. -/
def predWalksCard : Claim7 := { stood := { row := predWalksRow, standIns := [], harness := (true, "b09536ad8c4234b597026bd16ce79f59bebf94abae39d276825bc3a8c48eda81"), looks := false }, kinds := [], alts := [], laidByText := true, laidKinds := [.data, .pinned], laidTests := true, laidLooks := .later }
def PredWalksCardSaid : Prop := Claim7.holds Tryd.pinned (.plain (OpenSpec.ofChange predWalksSpec)) predWalksCard

/-- THE TIED CARD OF 'hornbeamlaw14.TreeUps'. -/
def treeUpsCard : Claim7 := { stood := { row := treeUpsRow, standIns := [], harness := (true, "b09536ad8c4234b597026bd16ce79f59bebf94abae39d276825bc3a8c48eda81"), looks := false }, kinds := [], alts := [], laidByText := true, laidKinds := [.data, .pinned], laidTests := true, laidLooks := .later }
def TreeUpsCardSaid : Prop := Claim7.holds Tryd.pinned (.plain (OpenSpec.ofChange treeUpsSpec)) treeUpsCard

/-- THE TIED CARD OF 'hornbeamlaw14.TreeAstray'. -/
def treeAstrayCard : Claim7 := { stood := { row := treeAstrayRow, standIns := [], harness := (true, "b09536ad8c4234b597026bd16ce79f59bebf94abae39d276825bc3a8c48eda81"), looks := false }, kinds := [], alts := [], laidByText := true, laidKinds := [.data, .pinned], laidTests := true, laidLooks := .later }
def TreeAstrayCardSaid : Prop := Claim7.holds Tryd.pinned (.plain (OpenSpec.ofChange treeAstraySpec)) treeAstrayCard

/-- THE TIED CARD OF 'hornbeamlaw12.ValueReplaces'. -/
def valueReplacesCard : Claim7 := { stood := { row := valueReplacesRow, standIns := [], harness := (true, "b09536ad8c4234b597026bd16ce79f59bebf94abae39d276825bc3a8c48eda81"), looks := false }, kinds := [], alts := [], laidByText := true, laidKinds := [.data, .pinned], laidTests := true, laidLooks := .later }
def ValueReplacesCardSaid : Prop := Claim7.holds Tryd.pinned (.plain (OpenSpec.ofChange valueReplacesSpec)) valueReplacesCard

/-- THE SECOND FORM's CARD OF 'hornbeamlaw13.PredWalks'. -/
def predWalksUptoCard : Claim7 := { stood := { row := predWalksUptoRow, standIns := [], harness := (true, "b09536ad8c4234b597026bd16ce79f59bebf94abae39d276825bc3a8c48eda81"), looks := false }, kinds := [], alts := [], laidByText := true, laidKinds := [.data, .pinned], laidTests := true, laidLooks := .later }
def PredWalksUptoCardSaid : Prop := Claim7.holds Tryd.pinned (.plain (OpenSpec.upto predWalksSpec)) predWalksUptoCard

/-- THE SECOND FORM's CARD OF 'hornbeamlaw14.TreeUps'. -/
def treeUpsUptoCard : Claim7 := { stood := { row := treeUpsUptoRow, standIns := [], harness := (true, "b09536ad8c4234b597026bd16ce79f59bebf94abae39d276825bc3a8c48eda81"), looks := false }, kinds := [], alts := [], laidByText := true, laidKinds := [.data, .pinned], laidTests := true, laidLooks := .later }
def TreeUpsUptoCardSaid : Prop := Claim7.holds Tryd.pinned (.plain (OpenSpec.upto treeUpsSpec)) treeUpsUptoCard

/-- THE SECOND FORM's CARD OF 'hornbeamlaw14.TreeAstray'. -/
def treeAstrayUptoCard : Claim7 := { stood := { row := treeAstrayUptoRow, standIns := [], harness := (true, "b09536ad8c4234b597026bd16ce79f59bebf94abae39d276825bc3a8c48eda81"), looks := false }, kinds := [], alts := [], laidByText := true, laidKinds := [.data, .pinned], laidTests := true, laidLooks := .later }
def TreeAstrayUptoCardSaid : Prop := Claim7.holds Tryd.pinned (.plain (OpenSpec.upto treeAstraySpec)) treeAstrayUptoCard

/-- THE SECOND FORM's CARD OF 'hornbeamlaw12.ValueReplaces'. -/
def valueReplacesUptoCard : Claim7 := { stood := { row := valueReplacesUptoRow, standIns := [], harness := (true, "b09536ad8c4234b597026bd16ce79f59bebf94abae39d276825bc3a8c48eda81"), looks := false }, kinds := [], alts := [], laidByText := true, laidKinds := [.data, .pinned], laidTests := true, laidLooks := .later }
def ValueReplacesUptoCardSaid : Prop := Claim7.holds Tryd.pinned (.plain (OpenSpec.upto valueReplacesSpec)) valueReplacesUptoCard
end Rows
end Go.Proofs.YtlmjkbdodecbmaaDoor
