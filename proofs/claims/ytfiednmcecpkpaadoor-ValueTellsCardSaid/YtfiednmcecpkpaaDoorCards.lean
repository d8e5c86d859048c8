/-
  DERIVED. GIVEN WITH THE SEED: THE CARDS: each row of YtfiednmcecpkpaaDoorRows.lean that lists a variable, with what it lists TIED to the program's text (the seventh form; the later family's looks); each row that meets fmt, with fmt's text TOLD by the authors' own Lean function (tested against real Go, not proved from fmt's source: count such statements apart). THE CARD IS WHAT COUNTS. Prove the row's statement (the work); the ties are given (YtfiednmcecpkpaaDoorTie.lean); close each card by the builder's one call (the guide's Derived/Test/ToyasCard.lean, 'card_holds'). Laid BY PROGRAM, IN A SANDBOX (cutbox-door.mjs). By AI agents, Wed Nov 11 2026. No macro, syntax, notation, axiom, sorry.
-/
import Derived.Test.YtfiednmcecpkpaaDoorRows
import GoSem.ClaimSeven
namespace Go.Proofs.YtfiednmcecpkpaaDoor
namespace Rows

/-- THE TIED CARD OF 'hornbeamlaw13.PredOpposite'. -/
def predOppositeCard : Claim7 := { stood := { row := predOppositeRow, standIns := [], harness := (true, "49bbc0261a4df2bbff10da264a10a821fef9899556b51a876ff5bdba1e5ad9ef"), looks := false }, kinds := [], alts := [], laidByText := true, laidKinds := [.data, .pinned], laidTests := true, laidLooks := .later }
def PredOppositeCardSaid : Prop := Claim7.holds Tryd.pinned (.plain (OpenSpec.ofChange predOppositeSpec)) predOppositeCard

/-- THE TIED CARD OF 'hornbeamlaw12.ValueBack'. -/
def valueBackCard : Claim7 := { stood := { row := valueBackRow, standIns := [], harness := (true, "49bbc0261a4df2bbff10da264a10a821fef9899556b51a876ff5bdba1e5ad9ef"), looks := false }, kinds := [], alts := [], laidByText := true, laidKinds := [.data, .pinned], laidTests := true, laidLooks := .later }
def ValueBackCardSaid : Prop := Claim7.holds Tryd.pinned (.plain (OpenSpec.ofChange valueBackSpec)) valueBackCard

/-- THE TIED CARD OF 'hornbeamlaw12.ValueTells'. -/
def valueTellsCard : Claim7 := { stood := { row := valueTellsRow, standIns := [], harness := (true, "49bbc0261a4df2bbff10da264a10a821fef9899556b51a876ff5bdba1e5ad9ef"), looks := false }, kinds := [], alts := [], laidByText := true, laidKinds := [.data, .pinned], laidTests := true, laidLooks := .later }
def ValueTellsCardSaid : Prop := Claim7.holds Tryd.pinned (.plain (OpenSpec.ofChange valueTellsSpec)) valueTellsCard

/-- THE SECOND FORM's CARD OF 'hornbeamlaw13.PredOpposite'. -/
def predOppositeUptoCard : Claim7 := { stood := { row := predOppositeUptoRow, standIns := [], harness := (true, "49bbc0261a4df2bbff10da264a10a821fef9899556b51a876ff5bdba1e5ad9ef"), looks := false }, kinds := [], alts := [], laidByText := true, laidKinds := [.data, .pinned], laidTests := true, laidLooks := .later }
def PredOppositeUptoCardSaid : Prop := Claim7.holds Tryd.pinned (.plain (OpenSpec.upto predOppositeSpec)) predOppositeUptoCard

/-- THE SECOND FORM's CARD OF 'hornbeamlaw12.ValueBack'. -/
def valueBackUptoCard : Claim7 := { stood := { row := valueBackUptoRow, standIns := [], harness := (true, "49bbc0261a4df2bbff10da264a10a821fef9899556b51a876ff5bdba1e5ad9ef"), looks := false }, kinds := [], alts := [], laidByText := true, laidKinds := [.data, .pinned], laidTests := true, laidLooks := .later }
def ValueBackUptoCardSaid : Prop := Claim7.holds Tryd.pinned (.plain (OpenSpec.upto valueBackSpec)) valueBackUptoCard

/-- THE SECOND FORM's CARD OF 'hornbeamlaw12.ValueTells'. -/
def valueTellsUptoCard : Claim7 := { stood := { row := valueTellsUptoRow, standIns := [], harness := (true, "49bbc0261a4df2bbff10da264a10a821fef9899556b51a876ff5bdba1e5ad9ef"), looks := false }, kinds := [], alts := [], laidByText := true, laidKinds := [.data, .pinned], laidTests := true, laidLooks := .later }
def ValueTellsUptoCardSaid : Prop := Claim7.holds Tryd.pinned (.plain (OpenSpec.upto valueTellsSpec)) valueTellsUptoCard
end Rows
end Go.Proofs.YtfiednmcecpkpaaDoor
