/-
  No cell of these rows narrows 'for every input' (looked for: loops, veiled, ifaces, maps, wideKeys, modest, calm, conditions, laid).
  DERIVED. THE GIVEN ROWS OF THIS SEAT. 4 by the template 'for every input the law returns true; each argument reads behind the call as it read before'; 0 by the template 'total and deterministic' (their statements: YtjcldnkgidfifaaTotals.lean).
  GIVEN WITH THE SEED: the statements are not yours to turn. If you find one false, say at which input.
  Laid BY PROGRAM, IN A SANDBOX (cutbox-rows.mjs): the forced cells as the released guide's own fill.sh prints them over the translation be32b130fba59337… (all of the seat's roots in one cut). By AI agents, Wed Nov 11 2026. No macro, syntax, notation, axiom, sorry.
-/
import Derived.Test.YtjcldnkgidfifaaChecked
import GoSem.Claim
import GoSem.ClaimJoined
import GoSem.ClaimMapViews
import Derived.JoinedTies
import Derived.KernelRfl
namespace Go.Proofs.Ytjcldnkgidfifaa
/- THE CELL 'sum', in the pinned program and in every row, IS THE sha256 OF THE DUMP (.gsa) THAT YtjcldnkgidfifaaProg.lean LOADS. Nothing in Lean hashes anything: it is a label: what it is worth is what the hold of that sum in a sandbox is worth. -/
noncomputable def Try.pinned : Pinned := { name := "ytjcldnkgidfifaa", sum := "be32b130fba59337d7cbdce4e5aa5058952600873e0a40a6468700510d0d2400", checked := Try.checked }
namespace Rows
def none {H : Type} : Left H := { results := [], args := [] }

/-- 'hornbeamlaw11.MsgWrites': WHATEVER THE INPUT: true; the input reads as it did. -/
def msgWritesSpec : ChangeSpec := { name := "msgWrites", fn := fun _ => fun
  | [d] => { results := [.lit (.bool true)], args := [d] }
  | _ => none }
def msgWritesRow : OpenClaim := { program := "ytjcldnkgidfifaa", sum := "be32b130fba59337d7cbdce4e5aa5058952600873e0a40a6468700510d0d2400", func := "hornbeam/hornbeamlaw11.MsgWrites", spec := "msgWrites", unfollowed := true, recurses := true, apart := false }
def MsgWritesSaid : Prop := msgWritesRow.holds Try.pinned (OpenSpec.ofChange msgWritesSpec)

/-- ITS FALSE NEIGHBOUR: 'it returns false'. Refute it at one input. -/
def msgWritesWrong : ChangeSpec := { name := "msgWrites", fn := fun _ => fun
  | [d] => { results := [.lit (.bool false)], args := [d] }
  | _ => none }
def MsgWritesWrongFalsely : Prop := msgWritesRow.holds Try.pinned (OpenSpec.ofChange msgWritesWrong)

/-- 'hornbeamlaw11.MsgWithin': WHATEVER THE INPUT: true; the input reads as it did. -/
def msgWithinSpec : ChangeSpec := { name := "msgWithin", fn := fun _ => fun
  | [d1, d2] => { results := [.lit (.bool true)], args := [d1, d2] }
  | _ => none }
def msgWithinRow : OpenClaim := { program := "ytjcldnkgidfifaa", sum := "be32b130fba59337d7cbdce4e5aa5058952600873e0a40a6468700510d0d2400", func := "hornbeam/hornbeamlaw11.MsgWithin", spec := "msgWithin", unfollowed := true, recurses := true, apart := false }
def MsgWithinSaid : Prop := msgWithinRow.holds Try.pinned (OpenSpec.ofChange msgWithinSpec)

/-- ITS FALSE NEIGHBOUR: 'it returns false'. Refute it at one input. -/
def msgWithinWrong : ChangeSpec := { name := "msgWithin", fn := fun _ => fun
  | [d1, d2] => { results := [.lit (.bool false)], args := [d1, d2] }
  | _ => none }
def MsgWithinWrongFalsely : Prop := msgWithinRow.holds Try.pinned (OpenSpec.ofChange msgWithinWrong)

/-- 'hornbeamlaw11.MsgBack': WHATEVER THE INPUT: true; the input reads as it did. -/
def msgBackSpec : ChangeSpec := { name := "msgBack", fn := fun _ => fun
  | [d1, d2, d3, d4] => { results := [.lit (.bool true)], args := [d1, d2, d3, d4] }
  | _ => none }
def msgBackRow : OpenClaim := { program := "ytjcldnkgidfifaa", sum := "be32b130fba59337d7cbdce4e5aa5058952600873e0a40a6468700510d0d2400", func := "hornbeam/hornbeamlaw11.MsgBack", spec := "msgBack", unfollowed := true, recurses := true, apart := false }
def MsgBackSaid : Prop := msgBackRow.holds Try.pinned (OpenSpec.ofChange msgBackSpec)

/-- ITS FALSE NEIGHBOUR: 'it returns false'. Refute it at one input. -/
def msgBackWrong : ChangeSpec := { name := "msgBack", fn := fun _ => fun
  | [d1, d2, d3, d4] => { results := [.lit (.bool false)], args := [d1, d2, d3, d4] }
  | _ => none }
def MsgBackWrongFalsely : Prop := msgBackRow.holds Try.pinned (OpenSpec.ofChange msgBackWrong)

/-- 'hornbeamlaw11.MsgNone': WHATEVER THE INPUT: true; the input reads as it did. -/
def msgNoneSpec : ChangeSpec := { name := "msgNone", fn := fun _ => fun
  | [d1, d2] => { results := [.lit (.bool true)], args := [d1, d2] }
  | _ => none }
def msgNoneRow : OpenClaim := { program := "ytjcldnkgidfifaa", sum := "be32b130fba59337d7cbdce4e5aa5058952600873e0a40a6468700510d0d2400", func := "hornbeam/hornbeamlaw11.MsgNone", spec := "msgNone", unfollowed := true, recurses := true, apart := false }
def MsgNoneSaid : Prop := msgNoneRow.holds Try.pinned (OpenSpec.ofChange msgNoneSpec)

/-- ITS FALSE NEIGHBOUR: 'it returns false'. Refute it at one input. -/
def msgNoneWrong : ChangeSpec := { name := "msgNone", fn := fun _ => fun
  | [d1, d2] => { results := [.lit (.bool false)], args := [d1, d2] }
  | _ => none }
def MsgNoneWrongFalsely : Prop := msgNoneRow.holds Try.pinned (OpenSpec.ofChange msgNoneWrong)

/- THE SECOND FORM. 'bulk': how many values and letters a reading holds, each counted each time it is reached (what is shared counts as often as it is met; a slice's spare places count too). A statement '..UptoSaid' is the law's where the arguments, and the package variables that the reading takes, are together of bulk at most 1048576: NARROWER than '..Said'. Prove '..Said' where nothing that the law and all that it calls make is longer than what came in: it says more and counts as full. Else prove '..UptoSaid'. A law counts once. -/
mutual
def uptoBulk {H : Type} : DataW H → Nat
  | .lit (.string bytes) => bytes.length + 1
  | .lit _ => 1
  | .nil => 1
  | .ptr d => uptoBulk d + 1
  | .slice elems spare => uptoBulkAll elems + uptoBulkAll spare + 1
  | .agg parts => uptoBulkAll parts + 1
  | .iface _ d => uptoBulk d + 1
  | .map entries => uptoBulkEntries entries + 1
  | .held _ => 1
def uptoBulkAll {H : Type} : List (DataW H) → Nat
  | [] => 0
  | d :: r => uptoBulk d + uptoBulkAll r
def uptoBulkEntries {H : Type} : List (Lit × DataW H) → Nat
  | [] => 0
  | x :: r => uptoBulkEntry x + uptoBulkEntries r
def uptoBulkEntry {H : Type} : Lit × DataW H → Nat
  | (.string bytes, d) => bytes.length + uptoBulk d + 1
  | (_, d) => uptoBulk d + 1
 end
def uptoSmall : (H : Type) → List (DataW H) → Bool := fun _ ds => decide (uptoBulkAll ds ≤ 1048576)
def OpenSpec.upto (s : _root_.Go.ChangeSpec) : _root_.Go.OpenSpec := { _root_.Go.OpenSpec.ofChange s with cond := some uptoSmall }

/-- 'hornbeamlaw11.MsgWrites', WHERE WHAT IT READS IS OF BULK AT MOST 1048576: true; the input reads as it did. -/
def msgWritesUptoRow : OpenClaim := { program := "ytjcldnkgidfifaa", sum := "be32b130fba59337d7cbdce4e5aa5058952600873e0a40a6468700510d0d2400", func := "hornbeam/hornbeamlaw11.MsgWrites", spec := "msgWrites", unfollowed := true, recurses := true, apart := false, narrowed := true }
def MsgWritesUptoSaid : Prop := msgWritesUptoRow.holds Try.pinned (OpenSpec.upto msgWritesSpec)

/-- 'hornbeamlaw11.MsgWithin', WHERE WHAT IT READS IS OF BULK AT MOST 1048576: true; the input reads as it did. -/
def msgWithinUptoRow : OpenClaim := { program := "ytjcldnkgidfifaa", sum := "be32b130fba59337d7cbdce4e5aa5058952600873e0a40a6468700510d0d2400", func := "hornbeam/hornbeamlaw11.MsgWithin", spec := "msgWithin", unfollowed := true, recurses := true, apart := false, narrowed := true }
def MsgWithinUptoSaid : Prop := msgWithinUptoRow.holds Try.pinned (OpenSpec.upto msgWithinSpec)

/-- 'hornbeamlaw11.MsgBack', WHERE WHAT IT READS IS OF BULK AT MOST 1048576: true; the input reads as it did. -/
def msgBackUptoRow : OpenClaim := { program := "ytjcldnkgidfifaa", sum := "be32b130fba59337d7cbdce4e5aa5058952600873e0a40a6468700510d0d2400", func := "hornbeam/hornbeamlaw11.MsgBack", spec := "msgBack", unfollowed := true, recurses := true, apart := false, narrowed := true }
def MsgBackUptoSaid : Prop := msgBackUptoRow.holds Try.pinned (OpenSpec.upto msgBackSpec)

/-- 'hornbeamlaw11.MsgNone', WHERE WHAT IT READS IS OF BULK AT MOST 1048576: true; the input reads as it did. -/
def msgNoneUptoRow : OpenClaim := { program := "ytjcldnkgidfifaa", sum := "be32b130fba59337d7cbdce4e5aa5058952600873e0a40a6468700510d0d2400", func := "hornbeam/hornbeamlaw11.MsgNone", spec := "msgNone", unfollowed := true, recurses := true, apart := false, narrowed := true }
def MsgNoneUptoSaid : Prop := msgNoneUptoRow.holds Try.pinned (OpenSpec.upto msgNoneSpec)

end Rows
end Go.Proofs.Ytjcldnkgidfifaa
