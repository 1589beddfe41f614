/-
  NARROWER THAN 'FOR EVERY INPUT', by the rows' own cells (each row's printed sentence says how): OwensPlays: laid · OwensLocked: laid · OwensShut: laid · OwensNil: laid · OwensPlain: laid.
  DERIVED. THE GIVEN ROWS OF THIS SEAT. 5 by the template 'for every input the law returns true; each argument reads behind the call as it read before'; 0 by the template 'total and deterministic' (their statements: YtjaipefmifbghaaGreatDoorTotals.lean).
  GIVEN WITH THE SEED: the statements are not yours to turn. If you find one false, say at which input.
  Laid BY PROGRAM, IN A SANDBOX (cutbox-rows.mjs): the forced cells as the released guide's own fill.sh prints them over the translation 8301c1354b854ff1… (all of the seat's roots in one cut). By AI agents, Wed Nov 11 2026. No macro, syntax, notation, axiom, sorry.
-/
import Derived.Test.YtjaipefmifbghaaGreatDoorChecked
import GoSem.PinnedTables
import GoSem.Claim
import GoSem.ClaimJoined
import GoSem.ClaimMapViews
import Derived.JoinedTies
import Derived.KernelRfl
namespace Go.Proofs.YtjaipefmifbghaaGreatDoor
/- THE CELL 'sum', in the pinned program and in every row, IS THE sha256 OF THE DUMP (.gsa) THAT YtjaipefmifbghaaGreatDoorProg.lean LOADS. Nothing in Lean hashes anything: it is a label: what it is worth is what the hold of that sum in a sandbox is worth. -/
noncomputable def Tryz.pinned : Pinned := { name := "ytjaipefmifbghaagreatdoor", sum := "8301c1354b854ff1e0cbad722f558f3dba231a5e433aafe2baa0fe8d4437badc", checked := Tryz.checked }
namespace Rows
def none {H : Type} : Left H := { results := [], args := [] }

/- WHAT THE LISTED PACKAGE-LEVEL VARIABLES READ AS WHEN THE CALL BEGINS. Each datum BY PROGRAM (the guide's laid-datum.mjs) off the statement by which the dump's own 'gosem.cut.vars' lays the variable. In a bare row this is a premise. The card (YtjaipefmifbghaaGreatDoorCards.lean) ties it to the program's text. -/
def laid_unicode_utf8_acceptRanges {H : Type} : DataW H := .agg [.agg [.lit (.int .u8 128), .lit (.int .u8 191)], .agg [.lit (.int .u8 160), .lit (.int .u8 191)], .agg [.lit (.int .u8 128), .lit (.int .u8 159)], .agg [.lit (.int .u8 144), .lit (.int .u8 191)], .agg [.lit (.int .u8 128), .lit (.int .u8 143)], .agg [.lit (.int .u8 0), .lit (.int .u8 0)], .agg [.lit (.int .u8 0), .lit (.int .u8 0)], .agg [.lit (.int .u8 0), .lit (.int .u8 0)], .agg [.lit (.int .u8 0), .lit (.int .u8 0)], .agg [.lit (.int .u8 0), .lit (.int .u8 0)], .agg [.lit (.int .u8 0), .lit (.int .u8 0)], .agg [.lit (.int .u8 0), .lit (.int .u8 0)], .agg [.lit (.int .u8 0), .lit (.int .u8 0)], .agg [.lit (.int .u8 0), .lit (.int .u8 0)], .agg [.lit (.int .u8 0), .lit (.int .u8 0)], .agg [.lit (.int .u8 0), .lit (.int .u8 0)]]
/-- One of Go's own tables, pinned by name: the form's constant. -/
def laid_unicode_utf8_first : DataW Unit := Go.Pinned.utf8First

/-- 'palinglaw17.OwensPlays': WHATEVER THE INPUT: true; the input reads as it did. -/
def owensPlaysSpec : ChangeSpec := { name := "owensPlays", fn := fun _ => fun
  | [d1, d2] => { results := [.lit (.bool true)], args := [d1, d2] }
  | _ => none }
def owensPlaysRow : OpenClaim := { program := "ytjaipefmifbghaagreatdoor", sum := "8301c1354b854ff1e0cbad722f558f3dba231a5e433aafe2baa0fe8d4437badc", func := "paling/palinglaw17.OwensPlays", spec := "owensPlays", named := ["unicode/utf8.first", "unicode/utf8.acceptRanges"], apart := false, laid := [("unicode/utf8.acceptRanges", laid_unicode_utf8_acceptRanges), ("unicode/utf8.first", laid_unicode_utf8_first)] }
def OwensPlaysSaid : Prop := owensPlaysRow.holds Tryz.pinned (OpenSpec.ofChange owensPlaysSpec)

/-- ITS FALSE NEIGHBOUR: 'it returns false'. Refute it at one input. -/
def owensPlaysWrong : ChangeSpec := { name := "owensPlays", fn := fun _ => fun
  | [d1, d2] => { results := [.lit (.bool false)], args := [d1, d2] }
  | _ => none }
def OwensPlaysWrongFalsely : Prop := owensPlaysRow.holds Tryz.pinned (OpenSpec.ofChange owensPlaysWrong)

/-- 'palinglaw17.OwensLocked': WHATEVER THE INPUT: true; the input reads as it did. -/
def owensLockedSpec : ChangeSpec := { name := "owensLocked", fn := fun _ => fun
  | [d1, d2] => { results := [.lit (.bool true)], args := [d1, d2] }
  | _ => none }
def owensLockedRow : OpenClaim := { program := "ytjaipefmifbghaagreatdoor", sum := "8301c1354b854ff1e0cbad722f558f3dba231a5e433aafe2baa0fe8d4437badc", func := "paling/palinglaw17.OwensLocked", spec := "owensLocked", named := ["unicode/utf8.first", "unicode/utf8.acceptRanges"], apart := false, laid := [("unicode/utf8.acceptRanges", laid_unicode_utf8_acceptRanges), ("unicode/utf8.first", laid_unicode_utf8_first)] }
def OwensLockedSaid : Prop := owensLockedRow.holds Tryz.pinned (OpenSpec.ofChange owensLockedSpec)

/-- ITS FALSE NEIGHBOUR: 'it returns false'. Refute it at one input. -/
def owensLockedWrong : ChangeSpec := { name := "owensLocked", fn := fun _ => fun
  | [d1, d2] => { results := [.lit (.bool false)], args := [d1, d2] }
  | _ => none }
def OwensLockedWrongFalsely : Prop := owensLockedRow.holds Tryz.pinned (OpenSpec.ofChange owensLockedWrong)

/-- 'palinglaw17.OwensShut': WHATEVER THE INPUT: true; the input reads as it did. -/
def owensShutSpec : ChangeSpec := { name := "owensShut", fn := fun _ => fun
  | [d1, d2] => { results := [.lit (.bool true)], args := [d1, d2] }
  | _ => none }
def owensShutRow : OpenClaim := { program := "ytjaipefmifbghaagreatdoor", sum := "8301c1354b854ff1e0cbad722f558f3dba231a5e433aafe2baa0fe8d4437badc", func := "paling/palinglaw17.OwensShut", spec := "owensShut", named := ["unicode/utf8.first", "unicode/utf8.acceptRanges"], apart := false, laid := [("unicode/utf8.acceptRanges", laid_unicode_utf8_acceptRanges), ("unicode/utf8.first", laid_unicode_utf8_first)] }
def OwensShutSaid : Prop := owensShutRow.holds Tryz.pinned (OpenSpec.ofChange owensShutSpec)

/-- ITS FALSE NEIGHBOUR: 'it returns false'. Refute it at one input. -/
def owensShutWrong : ChangeSpec := { name := "owensShut", fn := fun _ => fun
  | [d1, d2] => { results := [.lit (.bool false)], args := [d1, d2] }
  | _ => none }
def OwensShutWrongFalsely : Prop := owensShutRow.holds Tryz.pinned (OpenSpec.ofChange owensShutWrong)

/-- 'palinglaw17.OwensNil': WHATEVER THE INPUT: true; the input reads as it did. -/
def owensNilSpec : ChangeSpec := { name := "owensNil", fn := fun _ => fun
  | [d1, d2, d3, d4] => { results := [.lit (.bool true)], args := [d1, d2, d3, d4] }
  | _ => none }
def owensNilRow : OpenClaim := { program := "ytjaipefmifbghaagreatdoor", sum := "8301c1354b854ff1e0cbad722f558f3dba231a5e433aafe2baa0fe8d4437badc", func := "paling/palinglaw17.OwensNil", spec := "owensNil", named := ["unicode/utf8.first", "unicode/utf8.acceptRanges"], apart := false, laid := [("unicode/utf8.acceptRanges", laid_unicode_utf8_acceptRanges), ("unicode/utf8.first", laid_unicode_utf8_first)] }
def OwensNilSaid : Prop := owensNilRow.holds Tryz.pinned (OpenSpec.ofChange owensNilSpec)

/-- ITS FALSE NEIGHBOUR: 'it returns false'. Refute it at one input. -/
def owensNilWrong : ChangeSpec := { name := "owensNil", fn := fun _ => fun
  | [d1, d2, d3, d4] => { results := [.lit (.bool false)], args := [d1, d2, d3, d4] }
  | _ => none }
def OwensNilWrongFalsely : Prop := owensNilRow.holds Tryz.pinned (OpenSpec.ofChange owensNilWrong)

/-- 'palinglaw17.OwensPlain': WHATEVER THE INPUT: true; the input reads as it did. -/
def owensPlainSpec : ChangeSpec := { name := "owensPlain", fn := fun _ => fun
  | [d1, d2] => { results := [.lit (.bool true)], args := [d1, d2] }
  | _ => none }
def owensPlainRow : OpenClaim := { program := "ytjaipefmifbghaagreatdoor", sum := "8301c1354b854ff1e0cbad722f558f3dba231a5e433aafe2baa0fe8d4437badc", func := "paling/palinglaw17.OwensPlain", spec := "owensPlain", named := ["unicode/utf8.first", "unicode/utf8.acceptRanges"], apart := false, laid := [("unicode/utf8.acceptRanges", laid_unicode_utf8_acceptRanges), ("unicode/utf8.first", laid_unicode_utf8_first)] }
def OwensPlainSaid : Prop := owensPlainRow.holds Tryz.pinned (OpenSpec.ofChange owensPlainSpec)

/-- ITS FALSE NEIGHBOUR: 'it returns false'. Refute it at one input. -/
def owensPlainWrong : ChangeSpec := { name := "owensPlain", fn := fun _ => fun
  | [d1, d2] => { results := [.lit (.bool false)], args := [d1, d2] }
  | _ => none }
def OwensPlainWrongFalsely : Prop := owensPlainRow.holds Tryz.pinned (OpenSpec.ofChange owensPlainWrong)

/- THE SECOND FORM. 'bulk': how many values and letters a reading holds, each counted each time it is reached (what is shared counts as often as it is met; a slice's spare places count too). A statement '..UptoSaid' is the law's where the arguments, and the package variables that the reading takes, are together of bulk at most 1048576: NARROWER than '..Said'. Prove '..Said' where nothing that the law and all that it calls make is longer than what came in: it says more and counts as full. Else prove '..UptoSaid'. A law counts once. -/
mutual
def uptoBulk {H : Type} : DataW H → Nat
  | .lit (.string bytes) => bytes.length + 1
  | .lit _ => 1
  | .nil => 1
  | .ptr d => uptoBulk d + 1
  | .slice elems spare => uptoBulkAll elems + uptoBulkAll spare + 1
  | .agg parts => uptoBulkAll parts + 1
  | .iface _ d => uptoBulk d + 1
  | .map entries => uptoBulkEntries entries + 1
  | .held _ => 1
def uptoBulkAll {H : Type} : List (DataW H) → Nat
  | [] => 0
  | d :: r => uptoBulk d + uptoBulkAll r
def uptoBulkEntries {H : Type} : List (Lit × DataW H) → Nat
  | [] => 0
  | x :: r => uptoBulkEntry x + uptoBulkEntries r
def uptoBulkEntry {H : Type} : Lit × DataW H → Nat
  | (.string bytes, d) => bytes.length + uptoBulk d + 1
  | (_, d) => uptoBulk d + 1
 end
def uptoSmall : (H : Type) → List (DataW H) → Bool := fun _ ds => decide (uptoBulkAll ds ≤ 1048576)
def OpenSpec.upto (s : _root_.Go.ChangeSpec) : _root_.Go.OpenSpec := { _root_.Go.OpenSpec.ofChange s with cond := some uptoSmall }

/-- 'palinglaw17.OwensPlays', WHERE WHAT IT READS IS OF BULK AT MOST 1048576: true; the input reads as it did. -/
def owensPlaysUptoRow : OpenClaim := { program := "ytjaipefmifbghaagreatdoor", sum := "8301c1354b854ff1e0cbad722f558f3dba231a5e433aafe2baa0fe8d4437badc", func := "paling/palinglaw17.OwensPlays", spec := "owensPlays", named := ["unicode/utf8.first", "unicode/utf8.acceptRanges"], apart := false, laid := [("unicode/utf8.acceptRanges", laid_unicode_utf8_acceptRanges), ("unicode/utf8.first", laid_unicode_utf8_first)], narrowed := true }
def OwensPlaysUptoSaid : Prop := owensPlaysUptoRow.holds Tryz.pinned (OpenSpec.upto owensPlaysSpec)

/-- 'palinglaw17.OwensLocked', WHERE WHAT IT READS IS OF BULK AT MOST 1048576: true; the input reads as it did. -/
def owensLockedUptoRow : OpenClaim := { program := "ytjaipefmifbghaagreatdoor", sum := "8301c1354b854ff1e0cbad722f558f3dba231a5e433aafe2baa0fe8d4437badc", func := "paling/palinglaw17.OwensLocked", spec := "owensLocked", named := ["unicode/utf8.first", "unicode/utf8.acceptRanges"], apart := false, laid := [("unicode/utf8.acceptRanges", laid_unicode_utf8_acceptRanges), ("unicode/utf8.first", laid_unicode_utf8_first)], narrowed := true }
def OwensLockedUptoSaid : Prop := owensLockedUptoRow.holds Tryz.pinned (OpenSpec.upto owensLockedSpec)

/-- 'palinglaw17.OwensShut', WHERE WHAT IT READS IS OF BULK AT MOST 1048576: true; the input reads as it did. -/
def owensShutUptoRow : OpenClaim := { program := "ytjaipefmifbghaagreatdoor", sum := "8301c1354b854ff1e0cbad722f558f3dba231a5e433aafe2baa0fe8d4437badc", func := "paling/palinglaw17.OwensShut", spec := "owensShut", named := ["unicode/utf8.first", "unicode/utf8.acceptRanges"], apart := false, laid := [("unicode/utf8.acceptRanges", laid_unicode_utf8_acceptRanges), ("unicode/utf8.first", laid_unicode_utf8_first)], narrowed := true }
def OwensShutUptoSaid : Prop := owensShutUptoRow.holds Tryz.pinned (OpenSpec.upto owensShutSpec)

/-- 'palinglaw17.OwensNil', WHERE WHAT IT READS IS OF BULK AT MOST 1048576: true; the input reads as it did. -/
def owensNilUptoRow : OpenClaim := { program := "ytjaipefmifbghaagreatdoor", sum := "8301c1354b854ff1e0cbad722f558f3dba231a5e433aafe2baa0fe8d4437badc", func := "paling/palinglaw17.OwensNil", spec := "owensNil", named := ["unicode/utf8.first", "unicode/utf8.acceptRanges"], apart := false, laid := [("unicode/utf8.acceptRanges", laid_unicode_utf8_acceptRanges), ("unicode/utf8.first", laid_unicode_utf8_first)], narrowed := true }
def OwensNilUptoSaid : Prop := owensNilUptoRow.holds Tryz.pinned (OpenSpec.upto owensNilSpec)

/-- 'palinglaw17.OwensPlain', WHERE WHAT IT READS IS OF BULK AT MOST 1048576: true; the input reads as it did. -/
def owensPlainUptoRow : OpenClaim := { program := "ytjaipefmifbghaagreatdoor", sum := "8301c1354b854ff1e0cbad722f558f3dba231a5e433aafe2baa0fe8d4437badc", func := "paling/palinglaw17.OwensPlain", spec := "owensPlain", named := ["unicode/utf8.first", "unicode/utf8.acceptRanges"], apart := false, laid := [("unicode/utf8.acceptRanges", laid_unicode_utf8_acceptRanges), ("unicode/utf8.first", laid_unicode_utf8_first)], narrowed := true }
def OwensPlainUptoSaid : Prop := owensPlainUptoRow.holds Tryz.pinned (OpenSpec.upto owensPlainSpec)

end Rows
end Go.Proofs.YtjaipefmifbghaaGreatDoor
