/-
  NARROWER THAN 'FOR EVERY INPUT', by the rows' own cells (each row's printed sentence says how): PredWalks: loops, laid · TreeUps: loops, laid · TreeAstray: loops, laid · ValueReplaces: laid.
  DERIVED. THE GIVEN ROWS OF THIS SEAT. 4 by the template 'for every input the law returns true; each argument reads behind the call as it read before'; 0 by the template 'total and deterministic' (their statements: YtlmjkbdodecbmaaDoorTotals.lean).
  GIVEN WITH THE SEED: the statements are not yours to turn. If you find one false, say at which input.
  Laid BY PROGRAM, IN A SANDBOX (cutbox-rows.mjs): the forced cells as the released guide's own fill.sh prints them over the translation 1d2758e71b51b438… (all of the seat's roots in one cut). By AI agents, Wed Nov 11 2026. No macro, syntax, notation, axiom, sorry.
-/
import Derived.Test.YtlmjkbdodecbmaaDoorChecked
import GoSem.PinnedTables
import GoSem.Claim
import GoSem.ClaimJoined
import GoSem.ClaimMapViews
import Derived.JoinedTies
import Derived.KernelRfl
namespace Go.Proofs.YtlmjkbdodecbmaaDoor
/- THE CELL 'sum', in the pinned program and in every row, IS THE sha256 OF THE DUMP (.gsa) THAT YtlmjkbdodecbmaaDoorProg.lean LOADS. Nothing in Lean hashes anything: it is a label: what it is worth is what the hold of that sum in a sandbox is worth. -/
noncomputable def Tryd.pinned : Pinned := { name := "ytlmjkbdodecbmaadoor", sum := "1d2758e71b51b43890f48715300901b0efc1ef643ba378f1630f2b75d1a0770b", checked := Tryd.checked }
namespace Rows
def none {H : Type} : Left H := { results := [], args := [] }

/- WHAT THE LISTED PACKAGE-LEVEL VARIABLES READ AS WHEN THE CALL BEGINS. Each datum BY PROGRAM (the guide's laid-datum.mjs) off the statement by which the dump's own 'gosem.cut.vars' lays the variable. In a bare row this is a premise. The card (YtlmjkbdodecbmaaDoorCards.lean) ties it to the program's text. -/
def laid_unicode_utf8_acceptRanges {H : Type} : DataW H := .agg [.agg [.lit (.int .u8 128), .lit (.int .u8 191)], .agg [.lit (.int .u8 160), .lit (.int .u8 191)], .agg [.lit (.int .u8 128), .lit (.int .u8 159)], .agg [.lit (.int .u8 144), .lit (.int .u8 191)], .agg [.lit (.int .u8 128), .lit (.int .u8 143)], .agg [.lit (.int .u8 0), .lit (.int .u8 0)], .agg [.lit (.int .u8 0), .lit (.int .u8 0)], .agg [.lit (.int .u8 0), .lit (.int .u8 0)], .agg [.lit (.int .u8 0), .lit (.int .u8 0)], .agg [.lit (.int .u8 0), .lit (.int .u8 0)], .agg [.lit (.int .u8 0), .lit (.int .u8 0)], .agg [.lit (.int .u8 0), .lit (.int .u8 0)], .agg [.lit (.int .u8 0), .lit (.int .u8 0)], .agg [.lit (.int .u8 0), .lit (.int .u8 0)], .agg [.lit (.int .u8 0), .lit (.int .u8 0)], .agg [.lit (.int .u8 0), .lit (.int .u8 0)]]
/-- One of Go's own tables, pinned by name: the form's constant. -/
def laid_unicode_utf8_first : DataW Unit := Go.Pinned.utf8First

/-- 'hornbeamlaw13.PredWalks': WHATEVER THE INPUT: true; the input reads as it did. -/
def predWalksSpec : ChangeSpec := { name := "predWalks", fn := fun _ => fun
  | [d1, d2] => { results := [.lit (.bool true)], args := [d1, d2] }
  | _ => none }
def predWalksRow : OpenClaim := { program := "ytlmjkbdodecbmaadoor", sum := "1d2758e71b51b43890f48715300901b0efc1ef643ba378f1630f2b75d1a0770b", func := "hornbeam/hornbeamlaw13.PredWalks", spec := "predWalks", inPlace := ["internal/bytealg.IndexByteString", "internal/bytealg.IndexString"], unfollowed := true, recurses := true, named := ["internal/bytealg.MaxLen", "unicode/utf8.first", "unicode/utf8.acceptRanges"], loops := true, apart := false, laid := [("unicode/utf8.acceptRanges", laid_unicode_utf8_acceptRanges), ("unicode/utf8.first", laid_unicode_utf8_first)] }
def PredWalksSaid : Prop := predWalksRow.holds Tryd.pinned (OpenSpec.ofChange predWalksSpec)

/-- ITS FALSE NEIGHBOUR: 'it returns false'. Refute it at one input. -/
def predWalksWrong : ChangeSpec := { name := "predWalks", fn := fun _ => fun
  | [d1, d2] => { results := [.lit (.bool false)], args := [d1, d2] }
  | _ => none }
def PredWalksWrongFalsely : Prop := predWalksRow.holds Tryd.pinned (OpenSpec.ofChange predWalksWrong)

/-- 'hornbeamlaw14.TreeUps': WHATEVER THE INPUT: true; the input reads as it did. -/
def treeUpsSpec : ChangeSpec := { name := "treeUps", fn := fun _ => fun
  | [d1, d2] => { results := [.lit (.bool true)], args := [d1, d2] }
  | _ => none }
def treeUpsRow : OpenClaim := { program := "ytlmjkbdodecbmaadoor", sum := "1d2758e71b51b43890f48715300901b0efc1ef643ba378f1630f2b75d1a0770b", func := "hornbeam/hornbeamlaw14.TreeUps", spec := "treeUps", inPlace := ["internal/bytealg.IndexByteString", "internal/bytealg.IndexString"], unfollowed := true, recurses := true, named := ["internal/bytealg.MaxLen", "unicode/utf8.first", "unicode/utf8.acceptRanges"], loops := true, apart := false, laid := [("unicode/utf8.acceptRanges", laid_unicode_utf8_acceptRanges), ("unicode/utf8.first", laid_unicode_utf8_first)] }
def TreeUpsSaid : Prop := treeUpsRow.holds Tryd.pinned (OpenSpec.ofChange treeUpsSpec)

/-- ITS FALSE NEIGHBOUR: 'it returns false'. Refute it at one input. -/
def treeUpsWrong : ChangeSpec := { name := "treeUps", fn := fun _ => fun
  | [d1, d2] => { results := [.lit (.bool false)], args := [d1, d2] }
  | _ => none }
def TreeUpsWrongFalsely : Prop := treeUpsRow.holds Tryd.pinned (OpenSpec.ofChange treeUpsWrong)

/-- 'hornbeamlaw14.TreeAstray': WHATEVER THE INPUT: true; the input reads as it did. -/
def treeAstraySpec : ChangeSpec := { name := "treeAstray", fn := fun _ => fun
  | [d1, d2, d3, d4, d5] => { results := [.lit (.bool true)], args := [d1, d2, d3, d4, d5] }
  | _ => none }
def treeAstrayRow : OpenClaim := { program := "ytlmjkbdodecbmaadoor", sum := "1d2758e71b51b43890f48715300901b0efc1ef643ba378f1630f2b75d1a0770b", func := "hornbeam/hornbeamlaw14.TreeAstray", spec := "treeAstray", inPlace := ["internal/bytealg.IndexByteString", "internal/bytealg.IndexString"], unfollowed := true, recurses := true, named := ["internal/bytealg.MaxLen", "unicode/utf8.first", "unicode/utf8.acceptRanges"], loops := true, apart := false, laid := [("unicode/utf8.acceptRanges", laid_unicode_utf8_acceptRanges), ("unicode/utf8.first", laid_unicode_utf8_first)] }
def TreeAstraySaid : Prop := treeAstrayRow.holds Tryd.pinned (OpenSpec.ofChange treeAstraySpec)

/-- ITS FALSE NEIGHBOUR: 'it returns false'. Refute it at one input. -/
def treeAstrayWrong : ChangeSpec := { name := "treeAstray", fn := fun _ => fun
  | [d1, d2, d3, d4, d5] => { results := [.lit (.bool false)], args := [d1, d2, d3, d4, d5] }
  | _ => none }
def TreeAstrayWrongFalsely : Prop := treeAstrayRow.holds Tryd.pinned (OpenSpec.ofChange treeAstrayWrong)

/-- 'hornbeamlaw12.ValueReplaces': WHATEVER THE INPUT: true; the input reads as it did. -/
def valueReplacesSpec : ChangeSpec := { name := "valueReplaces", fn := fun _ => fun
  | [d1, d2] => { results := [.lit (.bool true)], args := [d1, d2] }
  | _ => none }
def valueReplacesRow : OpenClaim := { program := "ytlmjkbdodecbmaadoor", sum := "1d2758e71b51b43890f48715300901b0efc1ef643ba378f1630f2b75d1a0770b", func := "hornbeam/hornbeamlaw12.ValueReplaces", spec := "valueReplaces", inPlace := ["internal/bytealg.IndexByteString", "internal/bytealg.IndexString"], named := ["internal/bytealg.MaxLen", "unicode/utf8.first", "unicode/utf8.acceptRanges"], apart := false, laid := [("unicode/utf8.acceptRanges", laid_unicode_utf8_acceptRanges), ("unicode/utf8.first", laid_unicode_utf8_first)] }
def ValueReplacesSaid : Prop := valueReplacesRow.holds Tryd.pinned (OpenSpec.ofChange valueReplacesSpec)

/-- ITS FALSE NEIGHBOUR: 'it returns false'. Refute it at one input. -/
def valueReplacesWrong : ChangeSpec := { name := "valueReplaces", fn := fun _ => fun
  | [d1, d2] => { results := [.lit (.bool false)], args := [d1, d2] }
  | _ => none }
def ValueReplacesWrongFalsely : Prop := valueReplacesRow.holds Tryd.pinned (OpenSpec.ofChange valueReplacesWrong)

/- THE SECOND FORM. 'bulk': how many values and letters a reading holds, each counted each time it is reached (what is shared counts as often as it is met; a slice's spare places count too). A statement '..UptoSaid' is the law's where the arguments, and the package variables that the reading takes, are together of bulk at most 1048576: NARROWER than '..Said'. Prove '..Said' where nothing that the law and all that it calls make is longer than what came in: it says more and counts as full. Else prove '..UptoSaid'. A law counts once. -/
mutual
def uptoBulk {H : Type} : DataW H → Nat
  | .lit (.string bytes) => bytes.length + 1
  | .lit _ => 1
  | .nil => 1
  | .ptr d => uptoBulk d + 1
  | .slice elems spare => uptoBulkAll elems + uptoBulkAll spare + 1
  | .agg parts => uptoBulkAll parts + 1
  | .iface _ d => uptoBulk d + 1
  | .map entries => uptoBulkEntries entries + 1
  | .held _ => 1
def uptoBulkAll {H : Type} : List (DataW H) → Nat
  | [] => 0
  | d :: r => uptoBulk d + uptoBulkAll r
def uptoBulkEntries {H : Type} : List (Lit × DataW H) → Nat
  | [] => 0
  | x :: r => uptoBulkEntry x + uptoBulkEntries r
def uptoBulkEntry {H : Type} : Lit × DataW H → Nat
  | (.string bytes, d) => bytes.length + uptoBulk d + 1
  | (_, d) => uptoBulk d + 1
 end
def uptoSmall : (H : Type) → List (DataW H) → Bool := fun _ ds => decide (uptoBulkAll ds ≤ 1048576)
def OpenSpec.upto (s : _root_.Go.ChangeSpec) : _root_.Go.OpenSpec := { _root_.Go.OpenSpec.ofChange s with cond := some uptoSmall }

/-- 'hornbeamlaw13.PredWalks', WHERE WHAT IT READS IS OF BULK AT MOST 1048576: true; the input reads as it did. -/
def predWalksUptoRow : OpenClaim := { program := "ytlmjkbdodecbmaadoor", sum := "1d2758e71b51b43890f48715300901b0efc1ef643ba378f1630f2b75d1a0770b", func := "hornbeam/hornbeamlaw13.PredWalks", spec := "predWalks", inPlace := ["internal/bytealg.IndexByteString", "internal/bytealg.IndexString"], unfollowed := true, recurses := true, named := ["internal/bytealg.MaxLen", "unicode/utf8.first", "unicode/utf8.acceptRanges"], loops := true, apart := false, laid := [("unicode/utf8.acceptRanges", laid_unicode_utf8_acceptRanges), ("unicode/utf8.first", laid_unicode_utf8_first)], narrowed := true }
def PredWalksUptoSaid : Prop := predWalksUptoRow.holds Tryd.pinned (OpenSpec.upto predWalksSpec)

/-- 'hornbeamlaw14.TreeUps', WHERE WHAT IT READS IS OF BULK AT MOST 1048576: true; the input reads as it did. -/
def treeUpsUptoRow : OpenClaim := { program := "ytlmjkbdodecbmaadoor", sum := "1d2758e71b51b43890f48715300901b0efc1ef643ba378f1630f2b75d1a0770b", func := "hornbeam/hornbeamlaw14.TreeUps", spec := "treeUps", inPlace := ["internal/bytealg.IndexByteString", "internal/bytealg.IndexString"], unfollowed := true, recurses := true, named := ["internal/bytealg.MaxLen", "unicode/utf8.first", "unicode/utf8.acceptRanges"], loops := true, apart := false, laid := [("unicode/utf8.acceptRanges", laid_unicode_utf8_acceptRanges), ("unicode/utf8.first", laid_unicode_utf8_first)], narrowed := true }
def TreeUpsUptoSaid : Prop := treeUpsUptoRow.holds Tryd.pinned (OpenSpec.upto treeUpsSpec)

/-- 'hornbeamlaw14.TreeAstray', WHERE WHAT IT READS IS OF BULK AT MOST 1048576: true; the input reads as it did. -/
def treeAstrayUptoRow : OpenClaim := { program := "ytlmjkbdodecbmaadoor", sum := "1d2758e71b51b43890f48715300901b0efc1ef643ba378f1630f2b75d1a0770b", func := "hornbeam/hornbeamlaw14.TreeAstray", spec := "treeAstray", inPlace := ["internal/bytealg.IndexByteString", "internal/bytealg.IndexString"], unfollowed := true, recurses := true, named := ["internal/bytealg.MaxLen", "unicode/utf8.first", "unicode/utf8.acceptRanges"], loops := true, apart := false, laid := [("unicode/utf8.acceptRanges", laid_unicode_utf8_acceptRanges), ("unicode/utf8.first", laid_unicode_utf8_first)], narrowed := true }
def TreeAstrayUptoSaid : Prop := treeAstrayUptoRow.holds Tryd.pinned (OpenSpec.upto treeAstraySpec)

/-- 'hornbeamlaw12.ValueReplaces', WHERE WHAT IT READS IS OF BULK AT MOST 1048576: true; the input reads as it did. -/
def valueReplacesUptoRow : OpenClaim := { program := "ytlmjkbdodecbmaadoor", sum := "1d2758e71b51b43890f48715300901b0efc1ef643ba378f1630f2b75d1a0770b", func := "hornbeam/hornbeamlaw12.ValueReplaces", spec := "valueReplaces", inPlace := ["internal/bytealg.IndexByteString", "internal/bytealg.IndexString"], named := ["internal/bytealg.MaxLen", "unicode/utf8.first", "unicode/utf8.acceptRanges"], apart := false, laid := [("unicode/utf8.acceptRanges", laid_unicode_utf8_acceptRanges), ("unicode/utf8.first", laid_unicode_utf8_first)], narrowed := true }
def ValueReplacesUptoSaid : Prop := valueReplacesUptoRow.holds Tryd.pinned (OpenSpec.upto valueReplacesSpec)

end Rows
end Go.Proofs.YtlmjkbdodecbmaaDoor
