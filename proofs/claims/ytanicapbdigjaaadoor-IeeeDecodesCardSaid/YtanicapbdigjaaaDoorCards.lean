/-
  DERIVED. GIVEN WITH THE SEED: THE CARDS: each row of YtanicapbdigjaaaDoorRows.lean that lists a variable, with what it lists TIED to the program's text (the seventh form; the later family's looks); each row that meets fmt, with fmt's text TOLD by the authors' own Lean function (tested against real Go, not proved from fmt's source: count such statements apart). THE CARD IS WHAT COUNTS. Prove the row's statement (the work); the ties are given (YtanicapbdigjaaaDoorTie.lean); close each card by the builder's one call (the guide's Derived/Test/ToyasCard.lean, 'card_holds'). Laid BY PROGRAM, IN A SANDBOX (cutbox-door.mjs). By AI agents, Wed Nov 11 2026. No macro, syntax, notation, axiom, sorry.
-/
import Derived.Test.YtanicapbdigjaaaDoorRows
import GoSem.ClaimSeven
namespace Go.Proofs.YtanicapbdigjaaaDoor
namespace Rows

/-- THE TIED CARD OF 'hornbeamlaw4.IeeeDecodes'. -/
def ieeeDecodesCard : Claim7 := { stood := { row := ieeeDecodesRow, standIns := [], harness := (true, "4d1aeeadd852e560bebf797b60fa0f68d6eed49393f000ff4d0a5d6fa655e07f"), looks := false }, kinds := [], alts := [], laidByText := true, laidKinds := [.data, .pinned], laidTests := true, laidLooks := .later }
def IeeeDecodesCardSaid : Prop := Claim7.holds Tryd.pinned (.plain (OpenSpec.ofChange ieeeDecodesSpec)) ieeeDecodesCard

/-- THE TIED CARD OF 'hornbeamlaw4.IeeeOrder'. -/
def ieeeOrderCard : Claim7 := { stood := { row := ieeeOrderRow, standIns := [], harness := (true, "4d1aeeadd852e560bebf797b60fa0f68d6eed49393f000ff4d0a5d6fa655e07f"), looks := false }, kinds := [], alts := [], laidByText := true, laidKinds := [.data, .pinned], laidTests := true, laidLooks := .later }
def IeeeOrderCardSaid : Prop := Claim7.holds Tryd.pinned (.plain (OpenSpec.ofChange ieeeOrderSpec)) ieeeOrderCard

/-- THE TIED CARD OF 'hornbeamlaw4.IeeeBack'. -/
def ieeeBackCard : Claim7 := { stood := { row := ieeeBackRow, standIns := [], harness := (true, "4d1aeeadd852e560bebf797b60fa0f68d6eed49393f000ff4d0a5d6fa655e07f"), looks := false }, kinds := [], alts := [], laidByText := true, laidKinds := [.data, .pinned], laidTests := true, laidLooks := .later }
def IeeeBackCardSaid : Prop := Claim7.holds Tryd.pinned (.plain (OpenSpec.ofChange ieeeBackSpec)) ieeeBackCard

/-- THE TIED CARD OF 'hornbeamlaw4.IeeeNext'. -/
def ieeeNextCard : Claim7 := { stood := { row := ieeeNextRow, standIns := [], harness := (true, "4d1aeeadd852e560bebf797b60fa0f68d6eed49393f000ff4d0a5d6fa655e07f"), looks := false }, kinds := [], alts := [], laidByText := true, laidKinds := [.data, .pinned], laidTests := true, laidLooks := .later }
def IeeeNextCardSaid : Prop := Claim7.holds Tryd.pinned (.plain (OpenSpec.ofChange ieeeNextSpec)) ieeeNextCard

/-- THE TIED CARD OF 'hornbeamlaw4.IeeeBetween'. -/
def ieeeBetweenCard : Claim7 := { stood := { row := ieeeBetweenRow, standIns := [], harness := (true, "4d1aeeadd852e560bebf797b60fa0f68d6eed49393f000ff4d0a5d6fa655e07f"), looks := false }, kinds := [], alts := [], laidByText := true, laidKinds := [.data, .pinned], laidTests := true, laidLooks := .later }
def IeeeBetweenCardSaid : Prop := Claim7.holds Tryd.pinned (.plain (OpenSpec.ofChange ieeeBetweenSpec)) ieeeBetweenCard

/-- THE SECOND FORM's CARD OF 'hornbeamlaw4.IeeeDecodes'. -/
def ieeeDecodesUptoCard : Claim7 := { stood := { row := ieeeDecodesUptoRow, standIns := [], harness := (true, "4d1aeeadd852e560bebf797b60fa0f68d6eed49393f000ff4d0a5d6fa655e07f"), looks := false }, kinds := [], alts := [], laidByText := true, laidKinds := [.data, .pinned], laidTests := true, laidLooks := .later }
def IeeeDecodesUptoCardSaid : Prop := Claim7.holds Tryd.pinned (.plain (OpenSpec.upto ieeeDecodesSpec)) ieeeDecodesUptoCard

/-- THE SECOND FORM's CARD OF 'hornbeamlaw4.IeeeOrder'. -/
def ieeeOrderUptoCard : Claim7 := { stood := { row := ieeeOrderUptoRow, standIns := [], harness := (true, "4d1aeeadd852e560bebf797b60fa0f68d6eed49393f000ff4d0a5d6fa655e07f"), looks := false }, kinds := [], alts := [], laidByText := true, laidKinds := [.data, .pinned], laidTests := true, laidLooks := .later }
def IeeeOrderUptoCardSaid : Prop := Claim7.holds Tryd.pinned (.plain (OpenSpec.upto ieeeOrderSpec)) ieeeOrderUptoCard

/-- THE SECOND FORM's CARD OF 'hornbeamlaw4.IeeeBack'. -/
def ieeeBackUptoCard : Claim7 := { stood := { row := ieeeBackUptoRow, standIns := [], harness := (true, "4d1aeeadd852e560bebf797b60fa0f68d6eed49393f000ff4d0a5d6fa655e07f"), looks := false }, kinds := [], alts := [], laidByText := true, laidKinds := [.data, .pinned], laidTests := true, laidLooks := .later }
def IeeeBackUptoCardSaid : Prop := Claim7.holds Tryd.pinned (.plain (OpenSpec.upto ieeeBackSpec)) ieeeBackUptoCard

/-- THE SECOND FORM's CARD OF 'hornbeamlaw4.IeeeNext'. -/
def ieeeNextUptoCard : Claim7 := { stood := { row := ieeeNextUptoRow, standIns := [], harness := (true, "4d1aeeadd852e560bebf797b60fa0f68d6eed49393f000ff4d0a5d6fa655e07f"), looks := false }, kinds := [], alts := [], laidByText := true, laidKinds := [.data, .pinned], laidTests := true, laidLooks := .later }
def IeeeNextUptoCardSaid : Prop := Claim7.holds Tryd.pinned (.plain (OpenSpec.upto ieeeNextSpec)) ieeeNextUptoCard

/-- THE SECOND FORM's CARD OF 'hornbeamlaw4.IeeeBetween'. -/
def ieeeBetweenUptoCard : Claim7 := { stood := { row := ieeeBetweenUptoRow, standIns := [], harness := (true, "4d1aeeadd852e560bebf797b60fa0f68d6eed49393f000ff4d0a5d6fa655e07f"), looks := false }, kinds := [], alts := [], laidByText := true, laidKinds := [.data, .pinned], laidTests := true, laidLooks := .later }
def IeeeBetweenUptoCardSaid : Prop := Claim7.holds Tryd.pinned (.plain (OpenSpec.upto ieeeBetweenSpec)) ieeeBetweenUptoCard
end Rows
end Go.Proofs.YtanicapbdigjaaaDoor
