/-
  DERIVED. GIVEN WITH THE SEED: THE CARDS: each row of YtacflncmbnildaaDoorRows.lean that lists a variable, with what it lists TIED to the program's text (the seventh form; the later family's looks); each row that meets fmt, with fmt's text TOLD by the authors' own Lean function (tested against real Go, not proved from fmt's source: count such statements apart). THE CARD IS WHAT COUNTS. Prove the row's statement (the work); the ties are given (YtacflncmbnildaaDoorTie.lean); close each card by the builder's one call (the guide's Derived/Test/ToyasCard.lean, 'card_holds'). Laid BY PROGRAM, IN A SANDBOX (cutbox-door.mjs). By AI agents, Wed Nov 11 2026. No macro, syntax, notation, axiom, sorry.
-/
import Derived.Test.YtacflncmbnildaaDoorRows
import GoSem.ClaimSeven
namespace Go.Proofs.YtacflncmbnildaaDoor
namespace Rows

/-- THE TIED CARD OF 'hornbeamlaw2.RatMakes'. -/
def ratMakesCard : Claim7 := { stood := { row := ratMakesRow, standIns := [], harness := (true, "88027823a589b819a322c5aa2007d890c1438cb1ece11d0d7c0eed7323a490c9"), looks := false }, kinds := [], alts := [], laidByText := true, laidKinds := [.data, .pinned], laidTests := true, laidLooks := .later }
def RatMakesCardSaid : Prop := Claim7.holds Tryd.pinned (.plain (OpenSpec.ofChange ratMakesSpec)) ratMakesCard

/-- THE TIED CARD OF 'hornbeamlaw2.RatTexts'. -/
def ratTextsCard : Claim7 := { stood := { row := ratTextsRow, standIns := [], harness := (true, "88027823a589b819a322c5aa2007d890c1438cb1ece11d0d7c0eed7323a490c9"), looks := false }, kinds := [], alts := [], laidByText := true, laidKinds := [.data, .pinned], laidTests := true, laidLooks := .later }
def RatTextsCardSaid : Prop := Claim7.holds Tryd.pinned (.plain (OpenSpec.ofChange ratTextsSpec)) ratTextsCard

/-- THE TIED CARD OF 'hornbeamlaw2.RatRounds'. -/
def ratRoundsCard : Claim7 := { stood := { row := ratRoundsRow, standIns := [], harness := (true, "88027823a589b819a322c5aa2007d890c1438cb1ece11d0d7c0eed7323a490c9"), looks := false }, kinds := [], alts := [], laidByText := true, laidKinds := [.data, .pinned], laidTests := true, laidLooks := .later }
def RatRoundsCardSaid : Prop := Claim7.holds Tryd.pinned (.plain (OpenSpec.ofChange ratRoundsSpec)) ratRoundsCard

/-- THE TIED CARD OF 'hornbeamlaw2.RatLaws'. -/
def ratLawsCard : Claim7 := { stood := { row := ratLawsRow, standIns := [], harness := (true, "88027823a589b819a322c5aa2007d890c1438cb1ece11d0d7c0eed7323a490c9"), looks := false }, kinds := [], alts := [], laidByText := true, laidKinds := [.data, .pinned], laidTests := true, laidLooks := .later }
def RatLawsCardSaid : Prop := Claim7.holds Tryd.pinned (.plain (OpenSpec.ofChange ratLawsSpec)) ratLawsCard

/-- THE TIED CARD OF 'hornbeamlaw2.RatIterates'. -/
def ratIteratesCard : Claim7 := { stood := { row := ratIteratesRow, standIns := [], harness := (true, "88027823a589b819a322c5aa2007d890c1438cb1ece11d0d7c0eed7323a490c9"), looks := false }, kinds := [], alts := [], laidByText := true, laidKinds := [.data, .pinned], laidTests := true, laidLooks := .later }
def RatIteratesCardSaid : Prop := Claim7.holds Tryd.pinned (.plain (OpenSpec.ofChange ratIteratesSpec)) ratIteratesCard

/-- THE TIED CARD OF 'hornbeamlaw2.RatTells'. -/
def ratTellsCard : Claim7 := { stood := { row := ratTellsRow, standIns := [], harness := (true, "88027823a589b819a322c5aa2007d890c1438cb1ece11d0d7c0eed7323a490c9"), looks := false }, kinds := [], alts := [], laidByText := true, laidKinds := [.data, .pinned], laidTests := true, laidLooks := .later }
def RatTellsCardSaid : Prop := Claim7.holds Tryd.pinned (.plain (OpenSpec.ofChange ratTellsSpec)) ratTellsCard

/-- THE SECOND FORM's CARD OF 'hornbeamlaw2.RatMakes'. -/
def ratMakesUptoCard : Claim7 := { stood := { row := ratMakesUptoRow, standIns := [], harness := (true, "88027823a589b819a322c5aa2007d890c1438cb1ece11d0d7c0eed7323a490c9"), looks := false }, kinds := [], alts := [], laidByText := true, laidKinds := [.data, .pinned], laidTests := true, laidLooks := .later }
def RatMakesUptoCardSaid : Prop := Claim7.holds Tryd.pinned (.plain (OpenSpec.upto ratMakesSpec)) ratMakesUptoCard

/-- THE SECOND FORM's CARD OF 'hornbeamlaw2.RatTexts'. -/
def ratTextsUptoCard : Claim7 := { stood := { row := ratTextsUptoRow, standIns := [], harness := (true, "88027823a589b819a322c5aa2007d890c1438cb1ece11d0d7c0eed7323a490c9"), looks := false }, kinds := [], alts := [], laidByText := true, laidKinds := [.data, .pinned], laidTests := true, laidLooks := .later }
def RatTextsUptoCardSaid : Prop := Claim7.holds Tryd.pinned (.plain (OpenSpec.upto ratTextsSpec)) ratTextsUptoCard

/-- THE SECOND FORM's CARD OF 'hornbeamlaw2.RatRounds'. -/
def ratRoundsUptoCard : Claim7 := { stood := { row := ratRoundsUptoRow, standIns := [], harness := (true, "88027823a589b819a322c5aa2007d890c1438cb1ece11d0d7c0eed7323a490c9"), looks := false }, kinds := [], alts := [], laidByText := true, laidKinds := [.data, .pinned], laidTests := true, laidLooks := .later }
def RatRoundsUptoCardSaid : Prop := Claim7.holds Tryd.pinned (.plain (OpenSpec.upto ratRoundsSpec)) ratRoundsUptoCard

/-- THE SECOND FORM's CARD OF 'hornbeamlaw2.RatLaws'. -/
def ratLawsUptoCard : Claim7 := { stood := { row := ratLawsUptoRow, standIns := [], harness := (true, "88027823a589b819a322c5aa2007d890c1438cb1ece11d0d7c0eed7323a490c9"), looks := false }, kinds := [], alts := [], laidByText := true, laidKinds := [.data, .pinned], laidTests := true, laidLooks := .later }
def RatLawsUptoCardSaid : Prop := Claim7.holds Tryd.pinned (.plain (OpenSpec.upto ratLawsSpec)) ratLawsUptoCard

/-- THE SECOND FORM's CARD OF 'hornbeamlaw2.RatIterates'. -/
def ratIteratesUptoCard : Claim7 := { stood := { row := ratIteratesUptoRow, standIns := [], harness := (true, "88027823a589b819a322c5aa2007d890c1438cb1ece11d0d7c0eed7323a490c9"), looks := false }, kinds := [], alts := [], laidByText := true, laidKinds := [.data, .pinned], laidTests := true, laidLooks := .later }
def RatIteratesUptoCardSaid : Prop := Claim7.holds Tryd.pinned (.plain (OpenSpec.upto ratIteratesSpec)) ratIteratesUptoCard

/-- THE SECOND FORM's CARD OF 'hornbeamlaw2.RatTells'. -/
def ratTellsUptoCard : Claim7 := { stood := { row := ratTellsUptoRow, standIns := [], harness := (true, "88027823a589b819a322c5aa2007d890c1438cb1ece11d0d7c0eed7323a490c9"), looks := false }, kinds := [], alts := [], laidByText := true, laidKinds := [.data, .pinned], laidTests := true, laidLooks := .later }
def RatTellsUptoCardSaid : Prop := Claim7.holds Tryd.pinned (.plain (OpenSpec.upto ratTellsSpec)) ratTellsUptoCard
end Rows
end Go.Proofs.YtacflncmbnildaaDoor
