/-
  NARROWER THAN 'FOR EVERY INPUT', by the rows' own cells (each row's printed sentence says how): IeeeDecodes: laid · IeeeOrder: laid · IeeeBack: laid · IeeeNext: laid · IeeeBetween: laid.
  DERIVED. THE GIVEN ROWS OF THIS SEAT. 5 by the template 'for every input the law returns true; each argument reads behind the call as it read before'; 0 by the template 'total and deterministic' (their statements: YtanicapbdigjaaaDoorTotals.lean).
  GIVEN WITH THE SEED: the statements are not yours to turn. If you find one false, say at which input.
  Laid BY PROGRAM, IN A SANDBOX (cutbox-rows.mjs): the forced cells as the released guide's own fill.sh prints them over the translation a02256af3f496ff7… (all of the seat's roots in one cut). By AI agents, Wed Nov 11 2026. No macro, syntax, notation, axiom, sorry.
-/
import Derived.Test.YtanicapbdigjaaaDoorChecked
import GoSem.PinnedTables
import GoSem.Claim
import GoSem.ClaimJoined
import GoSem.ClaimMapViews
import Derived.JoinedTies
import Derived.KernelRfl
namespace Go.Proofs.YtanicapbdigjaaaDoor
/- THE CELL 'sum', in the pinned program and in every row, IS THE sha256 OF THE DUMP (.gsa) THAT YtanicapbdigjaaaDoorProg.lean LOADS. Nothing in Lean hashes anything: it is a label: what it is worth is what the hold of that sum in a sandbox is worth. -/
noncomputable def Tryd.pinned : Pinned := { name := "ytanicapbdigjaaadoor", sum := "a02256af3f496ff71754b2ddd6b75da60d6bbfbf39efb06c54676a2e3994d34d", checked := Tryd.checked }
namespace Rows
def none {H : Type} : Left H := { results := [], args := [] }

/- WHAT THE LISTED PACKAGE-LEVEL VARIABLES READ AS WHEN THE CALL BEGINS. Each datum BY PROGRAM (the guide's laid-datum.mjs) off the statement by which the dump's own 'gosem.cut.vars' lays the variable. In a bare row this is a premise. The card (YtanicapbdigjaaaDoorCards.lean) ties it to the program's text. -/
def laid_unicode_utf8_acceptRanges {H : Type} : DataW H := .agg [.agg [.lit (.int .u8 128), .lit (.int .u8 191)], .agg [.lit (.int .u8 160), .lit (.int .u8 191)], .agg [.lit (.int .u8 128), .lit (.int .u8 159)], .agg [.lit (.int .u8 144), .lit (.int .u8 191)], .agg [.lit (.int .u8 128), .lit (.int .u8 143)], .agg [.lit (.int .u8 0), .lit (.int .u8 0)], .agg [.lit (.int .u8 0), .lit (.int .u8 0)], .agg [.lit (.int .u8 0), .lit (.int .u8 0)], .agg [.lit (.int .u8 0), .lit (.int .u8 0)], .agg [.lit (.int .u8 0), .lit (.int .u8 0)], .agg [.lit (.int .u8 0), .lit (.int .u8 0)], .agg [.lit (.int .u8 0), .lit (.int .u8 0)], .agg [.lit (.int .u8 0), .lit (.int .u8 0)], .agg [.lit (.int .u8 0), .lit (.int .u8 0)], .agg [.lit (.int .u8 0), .lit (.int .u8 0)], .agg [.lit (.int .u8 0), .lit (.int .u8 0)]]
/-- One of Go's own tables, pinned by name: the form's constant. -/
def laid_unicode_utf8_first : DataW Unit := Go.Pinned.utf8First

/-- 'hornbeamlaw4.IeeeDecodes': WHATEVER THE INPUT: true; the input reads as it did. -/
def ieeeDecodesSpec : ChangeSpec := { name := "ieeeDecodes", fn := fun _ => fun
  | [d1, d2, d3, d4] => { results := [.lit (.bool true)], args := [d1, d2, d3, d4] }
  | _ => none }
def ieeeDecodesRow : OpenClaim := { program := "ytanicapbdigjaaadoor", sum := "a02256af3f496ff71754b2ddd6b75da60d6bbfbf39efb06c54676a2e3994d34d", func := "hornbeam/hornbeamlaw4.IeeeDecodes", spec := "ieeeDecodes", inPlace := ["internal/bytealg.IndexByteString", "internal/bytealg.IndexString"], named := ["unicode/utf8.first", "unicode/utf8.acceptRanges", "internal/bytealg.MaxLen"], apart := false, laid := [("unicode/utf8.acceptRanges", laid_unicode_utf8_acceptRanges), ("unicode/utf8.first", laid_unicode_utf8_first)] }
def IeeeDecodesSaid : Prop := ieeeDecodesRow.holds Tryd.pinned (OpenSpec.ofChange ieeeDecodesSpec)

/-- ITS FALSE NEIGHBOUR: 'it returns false'. Refute it at one input. -/
def ieeeDecodesWrong : ChangeSpec := { name := "ieeeDecodes", fn := fun _ => fun
  | [d1, d2, d3, d4] => { results := [.lit (.bool false)], args := [d1, d2, d3, d4] }
  | _ => none }
def IeeeDecodesWrongFalsely : Prop := ieeeDecodesRow.holds Tryd.pinned (OpenSpec.ofChange ieeeDecodesWrong)

/-- 'hornbeamlaw4.IeeeOrder': WHATEVER THE INPUT: true; the input reads as it did. -/
def ieeeOrderSpec : ChangeSpec := { name := "ieeeOrder", fn := fun _ => fun
  | [d1, d2, d3] => { results := [.lit (.bool true)], args := [d1, d2, d3] }
  | _ => none }
def ieeeOrderRow : OpenClaim := { program := "ytanicapbdigjaaadoor", sum := "a02256af3f496ff71754b2ddd6b75da60d6bbfbf39efb06c54676a2e3994d34d", func := "hornbeam/hornbeamlaw4.IeeeOrder", spec := "ieeeOrder", inPlace := ["internal/bytealg.IndexByteString", "internal/bytealg.IndexString"], named := ["unicode/utf8.first", "unicode/utf8.acceptRanges", "internal/bytealg.MaxLen"], apart := false, laid := [("unicode/utf8.acceptRanges", laid_unicode_utf8_acceptRanges), ("unicode/utf8.first", laid_unicode_utf8_first)] }
def IeeeOrderSaid : Prop := ieeeOrderRow.holds Tryd.pinned (OpenSpec.ofChange ieeeOrderSpec)

/-- ITS FALSE NEIGHBOUR: 'it returns false'. Refute it at one input. -/
def ieeeOrderWrong : ChangeSpec := { name := "ieeeOrder", fn := fun _ => fun
  | [d1, d2, d3] => { results := [.lit (.bool false)], args := [d1, d2, d3] }
  | _ => none }
def IeeeOrderWrongFalsely : Prop := ieeeOrderRow.holds Tryd.pinned (OpenSpec.ofChange ieeeOrderWrong)

/-- 'hornbeamlaw4.IeeeBack': WHATEVER THE INPUT: true; the input reads as it did. -/
def ieeeBackSpec : ChangeSpec := { name := "ieeeBack", fn := fun _ => fun
  | [d1, d2] => { results := [.lit (.bool true)], args := [d1, d2] }
  | _ => none }
def ieeeBackRow : OpenClaim := { program := "ytanicapbdigjaaadoor", sum := "a02256af3f496ff71754b2ddd6b75da60d6bbfbf39efb06c54676a2e3994d34d", func := "hornbeam/hornbeamlaw4.IeeeBack", spec := "ieeeBack", inPlace := ["internal/bytealg.IndexByteString", "internal/bytealg.IndexString"], named := ["unicode/utf8.first", "unicode/utf8.acceptRanges", "internal/bytealg.MaxLen"], apart := false, laid := [("unicode/utf8.acceptRanges", laid_unicode_utf8_acceptRanges), ("unicode/utf8.first", laid_unicode_utf8_first)] }
def IeeeBackSaid : Prop := ieeeBackRow.holds Tryd.pinned (OpenSpec.ofChange ieeeBackSpec)

/-- ITS FALSE NEIGHBOUR: 'it returns false'. Refute it at one input. -/
def ieeeBackWrong : ChangeSpec := { name := "ieeeBack", fn := fun _ => fun
  | [d1, d2] => { results := [.lit (.bool false)], args := [d1, d2] }
  | _ => none }
def IeeeBackWrongFalsely : Prop := ieeeBackRow.holds Tryd.pinned (OpenSpec.ofChange ieeeBackWrong)

/-- 'hornbeamlaw4.IeeeNext': WHATEVER THE INPUT: true; the input reads as it did. -/
def ieeeNextSpec : ChangeSpec := { name := "ieeeNext", fn := fun _ => fun
  | [d1, d2, d3] => { results := [.lit (.bool true)], args := [d1, d2, d3] }
  | _ => none }
def ieeeNextRow : OpenClaim := { program := "ytanicapbdigjaaadoor", sum := "a02256af3f496ff71754b2ddd6b75da60d6bbfbf39efb06c54676a2e3994d34d", func := "hornbeam/hornbeamlaw4.IeeeNext", spec := "ieeeNext", inPlace := ["internal/bytealg.IndexByteString", "internal/bytealg.IndexString"], named := ["unicode/utf8.first", "unicode/utf8.acceptRanges", "internal/bytealg.MaxLen"], apart := false, laid := [("unicode/utf8.acceptRanges", laid_unicode_utf8_acceptRanges), ("unicode/utf8.first", laid_unicode_utf8_first)] }
def IeeeNextSaid : Prop := ieeeNextRow.holds Tryd.pinned (OpenSpec.ofChange ieeeNextSpec)

/-- ITS FALSE NEIGHBOUR: 'it returns false'. Refute it at one input. -/
def ieeeNextWrong : ChangeSpec := { name := "ieeeNext", fn := fun _ => fun
  | [d1, d2, d3] => { results := [.lit (.bool false)], args := [d1, d2, d3] }
  | _ => none }
def IeeeNextWrongFalsely : Prop := ieeeNextRow.holds Tryd.pinned (OpenSpec.ofChange ieeeNextWrong)

/-- 'hornbeamlaw4.IeeeBetween': WHATEVER THE INPUT: true; the input reads as it did. -/
def ieeeBetweenSpec : ChangeSpec := { name := "ieeeBetween", fn := fun _ => fun
  | [d1, d2] => { results := [.lit (.bool true)], args := [d1, d2] }
  | _ => none }
def ieeeBetweenRow : OpenClaim := { program := "ytanicapbdigjaaadoor", sum := "a02256af3f496ff71754b2ddd6b75da60d6bbfbf39efb06c54676a2e3994d34d", func := "hornbeam/hornbeamlaw4.IeeeBetween", spec := "ieeeBetween", inPlace := ["internal/bytealg.IndexByteString", "internal/bytealg.IndexString"], named := ["unicode/utf8.first", "unicode/utf8.acceptRanges", "internal/bytealg.MaxLen"], apart := false, laid := [("unicode/utf8.acceptRanges", laid_unicode_utf8_acceptRanges), ("unicode/utf8.first", laid_unicode_utf8_first)] }
def IeeeBetweenSaid : Prop := ieeeBetweenRow.holds Tryd.pinned (OpenSpec.ofChange ieeeBetweenSpec)

/-- ITS FALSE NEIGHBOUR: 'it returns false'. Refute it at one input. -/
def ieeeBetweenWrong : ChangeSpec := { name := "ieeeBetween", fn := fun _ => fun
  | [d1, d2] => { results := [.lit (.bool false)], args := [d1, d2] }
  | _ => none }
def IeeeBetweenWrongFalsely : Prop := ieeeBetweenRow.holds Tryd.pinned (OpenSpec.ofChange ieeeBetweenWrong)

/- THE SECOND FORM. 'bulk': how many values and letters a reading holds, each counted each time it is reached (what is shared counts as often as it is met; a slice's spare places count too). A statement '..UptoSaid' is the law's where the arguments, and the package variables that the reading takes, are together of bulk at most 1048576: NARROWER than '..Said'. Prove '..Said' where nothing that the law and all that it calls make is longer than what came in: it says more and counts as full. Else prove '..UptoSaid'. A law counts once. -/
mutual
def uptoBulk {H : Type} : DataW H → Nat
  | .lit (.string bytes) => bytes.length + 1
  | .lit _ => 1
  | .nil => 1
  | .ptr d => uptoBulk d + 1
  | .slice elems spare => uptoBulkAll elems + uptoBulkAll spare + 1
  | .agg parts => uptoBulkAll parts + 1
  | .iface _ d => uptoBulk d + 1
  | .map entries => uptoBulkEntries entries + 1
  | .held _ => 1
def uptoBulkAll {H : Type} : List (DataW H) → Nat
  | [] => 0
  | d :: r => uptoBulk d + uptoBulkAll r
def uptoBulkEntries {H : Type} : List (Lit × DataW H) → Nat
  | [] => 0
  | x :: r => uptoBulkEntry x + uptoBulkEntries r
def uptoBulkEntry {H : Type} : Lit × DataW H → Nat
  | (.string bytes, d) => bytes.length + uptoBulk d + 1
  | (_, d) => uptoBulk d + 1
 end
def uptoSmall : (H : Type) → List (DataW H) → Bool := fun _ ds => decide (uptoBulkAll ds ≤ 1048576)
def OpenSpec.upto (s : _root_.Go.ChangeSpec) : _root_.Go.OpenSpec := { _root_.Go.OpenSpec.ofChange s with cond := some uptoSmall }

/-- 'hornbeamlaw4.IeeeDecodes', WHERE WHAT IT READS IS OF BULK AT MOST 1048576: true; the input reads as it did. -/
def ieeeDecodesUptoRow : OpenClaim := { program := "ytanicapbdigjaaadoor", sum := "a02256af3f496ff71754b2ddd6b75da60d6bbfbf39efb06c54676a2e3994d34d", func := "hornbeam/hornbeamlaw4.IeeeDecodes", spec := "ieeeDecodes", inPlace := ["internal/bytealg.IndexByteString", "internal/bytealg.IndexString"], named := ["unicode/utf8.first", "unicode/utf8.acceptRanges", "internal/bytealg.MaxLen"], apart := false, laid := [("unicode/utf8.acceptRanges", laid_unicode_utf8_acceptRanges), ("unicode/utf8.first", laid_unicode_utf8_first)], narrowed := true }
def IeeeDecodesUptoSaid : Prop := ieeeDecodesUptoRow.holds Tryd.pinned (OpenSpec.upto ieeeDecodesSpec)

/-- 'hornbeamlaw4.IeeeOrder', WHERE WHAT IT READS IS OF BULK AT MOST 1048576: true; the input reads as it did. -/
def ieeeOrderUptoRow : OpenClaim := { program := "ytanicapbdigjaaadoor", sum := "a02256af3f496ff71754b2ddd6b75da60d6bbfbf39efb06c54676a2e3994d34d", func := "hornbeam/hornbeamlaw4.IeeeOrder", spec := "ieeeOrder", inPlace := ["internal/bytealg.IndexByteString", "internal/bytealg.IndexString"], named := ["unicode/utf8.first", "unicode/utf8.acceptRanges", "internal/bytealg.MaxLen"], apart := false, laid := [("unicode/utf8.acceptRanges", laid_unicode_utf8_acceptRanges), ("unicode/utf8.first", laid_unicode_utf8_first)], narrowed := true }
def IeeeOrderUptoSaid : Prop := ieeeOrderUptoRow.holds Tryd.pinned (OpenSpec.upto ieeeOrderSpec)

/-- 'hornbeamlaw4.IeeeBack', WHERE WHAT IT READS IS OF BULK AT MOST 1048576: true; the input reads as it did. -/
def ieeeBackUptoRow : OpenClaim := { program := "ytanicapbdigjaaadoor", sum := "a02256af3f496ff71754b2ddd6b75da60d6bbfbf39efb06c54676a2e3994d34d", func := "hornbeam/hornbeamlaw4.IeeeBack", spec := "ieeeBack", inPlace := ["internal/bytealg.IndexByteString", "internal/bytealg.IndexString"], named := ["unicode/utf8.first", "unicode/utf8.acceptRanges", "internal/bytealg.MaxLen"], apart := false, laid := [("unicode/utf8.acceptRanges", laid_unicode_utf8_acceptRanges), ("unicode/utf8.first", laid_unicode_utf8_first)], narrowed := true }
def IeeeBackUptoSaid : Prop := ieeeBackUptoRow.holds Tryd.pinned (OpenSpec.upto ieeeBackSpec)

/-- 'hornbeamlaw4.IeeeNext', WHERE WHAT IT READS IS OF BULK AT MOST 1048576: true; the input reads as it did. -/
def ieeeNextUptoRow : OpenClaim := { program := "ytanicapbdigjaaadoor", sum := "a02256af3f496ff71754b2ddd6b75da60d6bbfbf39efb06c54676a2e3994d34d", func := "hornbeam/hornbeamlaw4.IeeeNext", spec := "ieeeNext", inPlace := ["internal/bytealg.IndexByteString", "internal/bytealg.IndexString"], named := ["unicode/utf8.first", "unicode/utf8.acceptRanges", "internal/bytealg.MaxLen"], apart := false, laid := [("unicode/utf8.acceptRanges", laid_unicode_utf8_acceptRanges), ("unicode/utf8.first", laid_unicode_utf8_first)], narrowed := true }
def IeeeNextUptoSaid : Prop := ieeeNextUptoRow.holds Tryd.pinned (OpenSpec.upto ieeeNextSpec)

/-- 'hornbeamlaw4.IeeeBetween', WHERE WHAT IT READS IS OF BULK AT MOST 1048576: true; the input reads as it did. -/
def ieeeBetweenUptoRow : OpenClaim := { program := "ytanicapbdigjaaadoor", sum := "a02256af3f496ff71754b2ddd6b75da60d6bbfbf39efb06c54676a2e3994d34d", func := "hornbeam/hornbeamlaw4.IeeeBetween", spec := "ieeeBetween", inPlace := ["internal/bytealg.IndexByteString", "internal/bytealg.IndexString"], named := ["unicode/utf8.first", "unicode/utf8.acceptRanges", "internal/bytealg.MaxLen"], apart := false, laid := [("unicode/utf8.acceptRanges", laid_unicode_utf8_acceptRanges), ("unicode/utf8.first", laid_unicode_utf8_first)], narrowed := true }
def IeeeBetweenUptoSaid : Prop := ieeeBetweenUptoRow.holds Tryd.pinned (OpenSpec.upto ieeeBetweenSpec)

end Rows
end Go.Proofs.YtanicapbdigjaaaDoor
