/-
  NARROWER THAN 'FOR EVERY INPUT', by the rows' own cells (each row's printed sentence says how): CoreStops: laid · CoreMakes: laid · CoreCompares: laid · CoreTells: laid · CoreEach: laid · CoreTwo: laid · CoreNil: laid.
  DERIVED. THE GIVEN ROWS OF THIS SEAT. 7 by the template 'for every input the law returns true; each argument reads behind the call as it read before'; 0 by the template 'total and deterministic' (their statements: YtlmgfhonaegnlaaDoorTotals.lean).
  GIVEN WITH THE SEED: the statements are not yours to turn. If you find one false, say at which input.
  Laid BY PROGRAM, IN A SANDBOX (cutbox-rows.mjs): the forced cells as the released guide's own fill.sh prints them over the translation fbac2cb81865e832… (all of the seat's roots in one cut). By AI agents, Wed Nov 11 2026. No macro, syntax, notation, axiom, sorry.
-/
import Derived.Test.YtlmgfhonaegnlaaDoorChecked
import GoSem.PinnedTables
import GoSem.Claim
import GoSem.ClaimJoined
import GoSem.ClaimMapViews
import Derived.JoinedTies
import Derived.KernelRfl
namespace Go.Proofs.YtlmgfhonaegnlaaDoor
/- THE CELL 'sum', in the pinned program and in every row, IS THE sha256 OF THE DUMP (.gsa) THAT YtlmgfhonaegnlaaDoorProg.lean LOADS. Nothing in Lean hashes anything: it is a label: what it is worth is what the hold of that sum in a sandbox is worth. -/
noncomputable def Tryd.pinned : Pinned := { name := "ytlmgfhonaegnlaadoor", sum := "fbac2cb81865e832de553f2fec1246add9f09f748413168caa07c634b28c2546", checked := Tryd.checked }
namespace Rows
def none {H : Type} : Left H := { results := [], args := [] }

/- WHAT THE LISTED PACKAGE-LEVEL VARIABLES READ AS WHEN THE CALL BEGINS. Each datum BY PROGRAM (the guide's laid-datum.mjs) off the statement by which the dump's own 'gosem.cut.vars' lays the variable. In a bare row this is a premise. The card (YtlmgfhonaegnlaaDoorCards.lean) ties it to the program's text. -/
def laid_unicode_utf8_acceptRanges {H : Type} : DataW H := .agg [.agg [.lit (.int .u8 128), .lit (.int .u8 191)], .agg [.lit (.int .u8 160), .lit (.int .u8 191)], .agg [.lit (.int .u8 128), .lit (.int .u8 159)], .agg [.lit (.int .u8 144), .lit (.int .u8 191)], .agg [.lit (.int .u8 128), .lit (.int .u8 143)], .agg [.lit (.int .u8 0), .lit (.int .u8 0)], .agg [.lit (.int .u8 0), .lit (.int .u8 0)], .agg [.lit (.int .u8 0), .lit (.int .u8 0)], .agg [.lit (.int .u8 0), .lit (.int .u8 0)], .agg [.lit (.int .u8 0), .lit (.int .u8 0)], .agg [.lit (.int .u8 0), .lit (.int .u8 0)], .agg [.lit (.int .u8 0), .lit (.int .u8 0)], .agg [.lit (.int .u8 0), .lit (.int .u8 0)], .agg [.lit (.int .u8 0), .lit (.int .u8 0)], .agg [.lit (.int .u8 0), .lit (.int .u8 0)], .agg [.lit (.int .u8 0), .lit (.int .u8 0)]]
/-- One of Go's own tables, pinned by name: the form's constant. -/
def laid_unicode_utf8_first : DataW Unit := Go.Pinned.utf8First

/-- 'palinglaw14.CoreStops': WHATEVER THE INPUT: true; the input reads as it did. -/
def coreStopsSpec : ChangeSpec := { name := "coreStops", fn := fun _ => fun
  | [d1, d2, d3] => { results := [.lit (.bool true)], args := [d1, d2, d3] }
  | _ => none }
def coreStopsRow : OpenClaim := { program := "ytlmgfhonaegnlaadoor", sum := "fbac2cb81865e832de553f2fec1246add9f09f748413168caa07c634b28c2546", func := "paling/palinglaw14.CoreStops", spec := "coreStops", named := ["unicode/utf8.first", "unicode/utf8.acceptRanges"], apart := false, laid := [("unicode/utf8.acceptRanges", laid_unicode_utf8_acceptRanges), ("unicode/utf8.first", laid_unicode_utf8_first)] }
def CoreStopsSaid : Prop := coreStopsRow.holds Tryd.pinned (OpenSpec.ofChange coreStopsSpec)

/-- ITS FALSE NEIGHBOUR: 'it returns false'. Refute it at one input. -/
def coreStopsWrong : ChangeSpec := { name := "coreStops", fn := fun _ => fun
  | [d1, d2, d3] => { results := [.lit (.bool false)], args := [d1, d2, d3] }
  | _ => none }
def CoreStopsWrongFalsely : Prop := coreStopsRow.holds Tryd.pinned (OpenSpec.ofChange coreStopsWrong)

/-- 'palinglaw14.CoreMakes': WHATEVER THE INPUT: true; the input reads as it did. -/
def coreMakesSpec : ChangeSpec := { name := "coreMakes", fn := fun _ => fun
  | [d1, d2] => { results := [.lit (.bool true)], args := [d1, d2] }
  | _ => none }
def coreMakesRow : OpenClaim := { program := "ytlmgfhonaegnlaadoor", sum := "fbac2cb81865e832de553f2fec1246add9f09f748413168caa07c634b28c2546", func := "paling/palinglaw14.CoreMakes", spec := "coreMakes", named := ["unicode/utf8.first", "unicode/utf8.acceptRanges"], apart := false, laid := [("unicode/utf8.acceptRanges", laid_unicode_utf8_acceptRanges), ("unicode/utf8.first", laid_unicode_utf8_first)] }
def CoreMakesSaid : Prop := coreMakesRow.holds Tryd.pinned (OpenSpec.ofChange coreMakesSpec)

/-- ITS FALSE NEIGHBOUR: 'it returns false'. Refute it at one input. -/
def coreMakesWrong : ChangeSpec := { name := "coreMakes", fn := fun _ => fun
  | [d1, d2] => { results := [.lit (.bool false)], args := [d1, d2] }
  | _ => none }
def CoreMakesWrongFalsely : Prop := coreMakesRow.holds Tryd.pinned (OpenSpec.ofChange coreMakesWrong)

/-- 'palinglaw14.CoreCompares': WHATEVER THE INPUT: true; the input reads as it did. -/
def coreComparesSpec : ChangeSpec := { name := "coreCompares", fn := fun _ => fun
  | [d1, d2, d3, d4] => { results := [.lit (.bool true)], args := [d1, d2, d3, d4] }
  | _ => none }
def coreComparesRow : OpenClaim := { program := "ytlmgfhonaegnlaadoor", sum := "fbac2cb81865e832de553f2fec1246add9f09f748413168caa07c634b28c2546", func := "paling/palinglaw14.CoreCompares", spec := "coreCompares", named := ["unicode/utf8.first", "unicode/utf8.acceptRanges"], apart := false, laid := [("unicode/utf8.acceptRanges", laid_unicode_utf8_acceptRanges), ("unicode/utf8.first", laid_unicode_utf8_first)] }
def CoreComparesSaid : Prop := coreComparesRow.holds Tryd.pinned (OpenSpec.ofChange coreComparesSpec)

/-- ITS FALSE NEIGHBOUR: 'it returns false'. Refute it at one input. -/
def coreComparesWrong : ChangeSpec := { name := "coreCompares", fn := fun _ => fun
  | [d1, d2, d3, d4] => { results := [.lit (.bool false)], args := [d1, d2, d3, d4] }
  | _ => none }
def CoreComparesWrongFalsely : Prop := coreComparesRow.holds Tryd.pinned (OpenSpec.ofChange coreComparesWrong)

/-- 'palinglaw14.CoreTells': WHATEVER THE INPUT: true; the input reads as it did. -/
def coreTellsSpec : ChangeSpec := { name := "coreTells", fn := fun _ => fun
  | [d1, d2, d3, d4, d5] => { results := [.lit (.bool true)], args := [d1, d2, d3, d4, d5] }
  | _ => none }
def coreTellsRow : OpenClaim := { program := "ytlmgfhonaegnlaadoor", sum := "fbac2cb81865e832de553f2fec1246add9f09f748413168caa07c634b28c2546", func := "paling/palinglaw14.CoreTells", spec := "coreTells", named := ["unicode/utf8.first", "unicode/utf8.acceptRanges"], apart := false, laid := [("unicode/utf8.acceptRanges", laid_unicode_utf8_acceptRanges), ("unicode/utf8.first", laid_unicode_utf8_first)] }
def CoreTellsSaid : Prop := coreTellsRow.holds Tryd.pinned (OpenSpec.ofChange coreTellsSpec)

/-- ITS FALSE NEIGHBOUR: 'it returns false'. Refute it at one input. -/
def coreTellsWrong : ChangeSpec := { name := "coreTells", fn := fun _ => fun
  | [d1, d2, d3, d4, d5] => { results := [.lit (.bool false)], args := [d1, d2, d3, d4, d5] }
  | _ => none }
def CoreTellsWrongFalsely : Prop := coreTellsRow.holds Tryd.pinned (OpenSpec.ofChange coreTellsWrong)

/-- 'palinglaw14.CoreEach': WHATEVER THE INPUT: true; the input reads as it did. -/
def coreEachSpec : ChangeSpec := { name := "coreEach", fn := fun _ => fun
  | [d1, d2, d3] => { results := [.lit (.bool true)], args := [d1, d2, d3] }
  | _ => none }
def coreEachRow : OpenClaim := { program := "ytlmgfhonaegnlaadoor", sum := "fbac2cb81865e832de553f2fec1246add9f09f748413168caa07c634b28c2546", func := "paling/palinglaw14.CoreEach", spec := "coreEach", named := ["unicode/utf8.first", "unicode/utf8.acceptRanges"], apart := false, laid := [("unicode/utf8.acceptRanges", laid_unicode_utf8_acceptRanges), ("unicode/utf8.first", laid_unicode_utf8_first)] }
def CoreEachSaid : Prop := coreEachRow.holds Tryd.pinned (OpenSpec.ofChange coreEachSpec)

/-- ITS FALSE NEIGHBOUR: 'it returns false'. Refute it at one input. -/
def coreEachWrong : ChangeSpec := { name := "coreEach", fn := fun _ => fun
  | [d1, d2, d3] => { results := [.lit (.bool false)], args := [d1, d2, d3] }
  | _ => none }
def CoreEachWrongFalsely : Prop := coreEachRow.holds Tryd.pinned (OpenSpec.ofChange coreEachWrong)

/-- 'palinglaw14.CoreTwo': WHATEVER THE INPUT: true; the input reads as it did. -/
def coreTwoSpec : ChangeSpec := { name := "coreTwo", fn := fun _ => fun
  | [d1, d2, d3, d4, d5] => { results := [.lit (.bool true)], args := [d1, d2, d3, d4, d5] }
  | _ => none }
def coreTwoRow : OpenClaim := { program := "ytlmgfhonaegnlaadoor", sum := "fbac2cb81865e832de553f2fec1246add9f09f748413168caa07c634b28c2546", func := "paling/palinglaw14.CoreTwo", spec := "coreTwo", named := ["unicode/utf8.first", "unicode/utf8.acceptRanges"], apart := false, laid := [("unicode/utf8.acceptRanges", laid_unicode_utf8_acceptRanges), ("unicode/utf8.first", laid_unicode_utf8_first)] }
def CoreTwoSaid : Prop := coreTwoRow.holds Tryd.pinned (OpenSpec.ofChange coreTwoSpec)

/-- ITS FALSE NEIGHBOUR: 'it returns false'. Refute it at one input. -/
def coreTwoWrong : ChangeSpec := { name := "coreTwo", fn := fun _ => fun
  | [d1, d2, d3, d4, d5] => { results := [.lit (.bool false)], args := [d1, d2, d3, d4, d5] }
  | _ => none }
def CoreTwoWrongFalsely : Prop := coreTwoRow.holds Tryd.pinned (OpenSpec.ofChange coreTwoWrong)

/-- 'palinglaw14.CoreNil': WHATEVER THE INPUT: true; the input reads as it did. -/
def coreNilSpec : ChangeSpec := { name := "coreNil", fn := fun _ => fun
  | [d1, d2, d3] => { results := [.lit (.bool true)], args := [d1, d2, d3] }
  | _ => none }
def coreNilRow : OpenClaim := { program := "ytlmgfhonaegnlaadoor", sum := "fbac2cb81865e832de553f2fec1246add9f09f748413168caa07c634b28c2546", func := "paling/palinglaw14.CoreNil", spec := "coreNil", named := ["unicode/utf8.first", "unicode/utf8.acceptRanges"], apart := false, laid := [("unicode/utf8.acceptRanges", laid_unicode_utf8_acceptRanges), ("unicode/utf8.first", laid_unicode_utf8_first)] }
def CoreNilSaid : Prop := coreNilRow.holds Tryd.pinned (OpenSpec.ofChange coreNilSpec)

/-- ITS FALSE NEIGHBOUR: 'it returns false'. Refute it at one input. -/
def coreNilWrong : ChangeSpec := { name := "coreNil", fn := fun _ => fun
  | [d1, d2, d3] => { results := [.lit (.bool false)], args := [d1, d2, d3] }
  | _ => none }
def CoreNilWrongFalsely : Prop := coreNilRow.holds Tryd.pinned (OpenSpec.ofChange coreNilWrong)

/- THE SECOND FORM. 'bulk': how many values and letters a reading holds, each counted each time it is reached (what is shared counts as often as it is met; a slice's spare places count too). A statement '..UptoSaid' is the law's where the arguments, and the package variables that the reading takes, are together of bulk at most 1048576: NARROWER than '..Said'. Prove '..Said' where nothing that the law and all that it calls make is longer than what came in: it says more and counts as full. Else prove '..UptoSaid'. A law counts once. -/
mutual
def uptoBulk {H : Type} : DataW H → Nat
  | .lit (.string bytes) => bytes.length + 1
  | .lit _ => 1
  | .nil => 1
  | .ptr d => uptoBulk d + 1
  | .slice elems spare => uptoBulkAll elems + uptoBulkAll spare + 1
  | .agg parts => uptoBulkAll parts + 1
  | .iface _ d => uptoBulk d + 1
  | .map entries => uptoBulkEntries entries + 1
  | .held _ => 1
def uptoBulkAll {H : Type} : List (DataW H) → Nat
  | [] => 0
  | d :: r => uptoBulk d + uptoBulkAll r
def uptoBulkEntries {H : Type} : List (Lit × DataW H) → Nat
  | [] => 0
  | x :: r => uptoBulkEntry x + uptoBulkEntries r
def uptoBulkEntry {H : Type} : Lit × DataW H → Nat
  | (.string bytes, d) => bytes.length + uptoBulk d + 1
  | (_, d) => uptoBulk d + 1
 end
def uptoSmall : (H : Type) → List (DataW H) → Bool := fun _ ds => decide (uptoBulkAll ds ≤ 1048576)
def OpenSpec.upto (s : _root_.Go.ChangeSpec) : _root_.Go.OpenSpec := { _root_.Go.OpenSpec.ofChange s with cond := some uptoSmall }

/-- 'palinglaw14.CoreStops', WHERE WHAT IT READS IS OF BULK AT MOST 1048576: true; the input reads as it did. -/
def coreStopsUptoRow : OpenClaim := { program := "ytlmgfhonaegnlaadoor", sum := "fbac2cb81865e832de553f2fec1246add9f09f748413168caa07c634b28c2546", func := "paling/palinglaw14.CoreStops", spec := "coreStops", named := ["unicode/utf8.first", "unicode/utf8.acceptRanges"], apart := false, laid := [("unicode/utf8.acceptRanges", laid_unicode_utf8_acceptRanges), ("unicode/utf8.first", laid_unicode_utf8_first)], narrowed := true }
def CoreStopsUptoSaid : Prop := coreStopsUptoRow.holds Tryd.pinned (OpenSpec.upto coreStopsSpec)

/-- 'palinglaw14.CoreMakes', WHERE WHAT IT READS IS OF BULK AT MOST 1048576: true; the input reads as it did. -/
def coreMakesUptoRow : OpenClaim := { program := "ytlmgfhonaegnlaadoor", sum := "fbac2cb81865e832de553f2fec1246add9f09f748413168caa07c634b28c2546", func := "paling/palinglaw14.CoreMakes", spec := "coreMakes", named := ["unicode/utf8.first", "unicode/utf8.acceptRanges"], apart := false, laid := [("unicode/utf8.acceptRanges", laid_unicode_utf8_acceptRanges), ("unicode/utf8.first", laid_unicode_utf8_first)], narrowed := true }
def CoreMakesUptoSaid : Prop := coreMakesUptoRow.holds Tryd.pinned (OpenSpec.upto coreMakesSpec)

/-- 'palinglaw14.CoreCompares', WHERE WHAT IT READS IS OF BULK AT MOST 1048576: true; the input reads as it did. -/
def coreComparesUptoRow : OpenClaim := { program := "ytlmgfhonaegnlaadoor", sum := "fbac2cb81865e832de553f2fec1246add9f09f748413168caa07c634b28c2546", func := "paling/palinglaw14.CoreCompares", spec := "coreCompares", named := ["unicode/utf8.first", "unicode/utf8.acceptRanges"], apart := false, laid := [("unicode/utf8.acceptRanges", laid_unicode_utf8_acceptRanges), ("unicode/utf8.first", laid_unicode_utf8_first)], narrowed := true }
def CoreComparesUptoSaid : Prop := coreComparesUptoRow.holds Tryd.pinned (OpenSpec.upto coreComparesSpec)

/-- 'palinglaw14.CoreTells', WHERE WHAT IT READS IS OF BULK AT MOST 1048576: true; the input reads as it did. -/
def coreTellsUptoRow : OpenClaim := { program := "ytlmgfhonaegnlaadoor", sum := "fbac2cb81865e832de553f2fec1246add9f09f748413168caa07c634b28c2546", func := "paling/palinglaw14.CoreTells", spec := "coreTells", named := ["unicode/utf8.first", "unicode/utf8.acceptRanges"], apart := false, laid := [("unicode/utf8.acceptRanges", laid_unicode_utf8_acceptRanges), ("unicode/utf8.first", laid_unicode_utf8_first)], narrowed := true }
def CoreTellsUptoSaid : Prop := coreTellsUptoRow.holds Tryd.pinned (OpenSpec.upto coreTellsSpec)

/-- 'palinglaw14.CoreEach', WHERE WHAT IT READS IS OF BULK AT MOST 1048576: true; the input reads as it did. -/
def coreEachUptoRow : OpenClaim := { program := "ytlmgfhonaegnlaadoor", sum := "fbac2cb81865e832de553f2fec1246add9f09f748413168caa07c634b28c2546", func := "paling/palinglaw14.CoreEach", spec := "coreEach", named := ["unicode/utf8.first", "unicode/utf8.acceptRanges"], apart := false, laid := [("unicode/utf8.acceptRanges", laid_unicode_utf8_acceptRanges), ("unicode/utf8.first", laid_unicode_utf8_first)], narrowed := true }
def CoreEachUptoSaid : Prop := coreEachUptoRow.holds Tryd.pinned (OpenSpec.upto coreEachSpec)

/-- 'palinglaw14.CoreTwo', WHERE WHAT IT READS IS OF BULK AT MOST 1048576: true; the input reads as it did. -/
def coreTwoUptoRow : OpenClaim := { program := "ytlmgfhonaegnlaadoor", sum := "fbac2cb81865e832de553f2fec1246add9f09f748413168caa07c634b28c2546", func := "paling/palinglaw14.CoreTwo", spec := "coreTwo", named := ["unicode/utf8.first", "unicode/utf8.acceptRanges"], apart := false, laid := [("unicode/utf8.acceptRanges", laid_unicode_utf8_acceptRanges), ("unicode/utf8.first", laid_unicode_utf8_first)], narrowed := true }
def CoreTwoUptoSaid : Prop := coreTwoUptoRow.holds Tryd.pinned (OpenSpec.upto coreTwoSpec)

/-- 'palinglaw14.CoreNil', WHERE WHAT IT READS IS OF BULK AT MOST 1048576: true; the input reads as it did. -/
def coreNilUptoRow : OpenClaim := { program := "ytlmgfhonaegnlaadoor", sum := "fbac2cb81865e832de553f2fec1246add9f09f748413168caa07c634b28c2546", func := "paling/palinglaw14.CoreNil", spec := "coreNil", named := ["unicode/utf8.first", "unicode/utf8.acceptRanges"], apart := false, laid := [("unicode/utf8.acceptRanges", laid_unicode_utf8_acceptRanges), ("unicode/utf8.first", laid_unicode_utf8_first)], narrowed := true }
def CoreNilUptoSaid : Prop := coreNilUptoRow.holds Tryd.pinned (OpenSpec.upto coreNilSpec)

end Rows
end Go.Proofs.YtlmgfhonaegnlaaDoor
