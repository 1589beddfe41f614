/-
  NARROWER THAN 'FOR EVERY INPUT', by the rows' own cells (each row's printed sentence says how): TsoOwn: laid · TsoFences: laid · TsoRuns: laid · TsoEager: laid · TsoAlone: laid.
  DERIVED. THE GIVEN ROWS OF THIS SEAT. 5 by the template 'for every input the law returns true; each argument reads behind the call as it read before'; 0 by the template 'total and deterministic' (their statements: YtphcaohldmdglaaDoorTotals.lean).
  GIVEN WITH THE SEED: the statements are not yours to turn. If you find one false, say at which input.
  Laid BY PROGRAM, IN A SANDBOX (cutbox-rows.mjs): the forced cells as the released guide's own fill.sh prints them over the translation 62ce5ab756c3c9f6… (all of the seat's roots in one cut). By AI agents, Wed Nov 11 2026. No macro, syntax, notation, axiom, sorry.
-/
import Derived.Test.YtphcaohldmdglaaDoorChecked
import GoSem.PinnedTables
import GoSem.Claim
import GoSem.ClaimJoined
import GoSem.ClaimMapViews
import Derived.JoinedTies
import Derived.KernelRfl
namespace Go.Proofs.YtphcaohldmdglaaDoor
/- THE CELL 'sum', in the pinned program and in every row, IS THE sha256 OF THE DUMP (.gsa) THAT YtphcaohldmdglaaDoorProg.lean LOADS. Nothing in Lean hashes anything: it is a label: what it is worth is what the hold of that sum in a sandbox is worth. -/
noncomputable def Tryd.pinned : Pinned := { name := "ytphcaohldmdglaadoor", sum := "62ce5ab756c3c9f662d0fafccd87cb9e4dce073a82ab09e4972704996a34a1be", checked := Tryd.checked }
namespace Rows
def none {H : Type} : Left H := { results := [], args := [] }

/- WHAT THE LISTED PACKAGE-LEVEL VARIABLES READ AS WHEN THE CALL BEGINS. Each datum BY PROGRAM (the guide's laid-datum.mjs) off the statement by which the dump's own 'gosem.cut.vars' lays the variable. In a bare row this is a premise. The card (YtphcaohldmdglaaDoorCards.lean) ties it to the program's text. -/
def laid_unicode_utf8_acceptRanges {H : Type} : DataW H := .agg [.agg [.lit (.int .u8 128), .lit (.int .u8 191)], .agg [.lit (.int .u8 160), .lit (.int .u8 191)], .agg [.lit (.int .u8 128), .lit (.int .u8 159)], .agg [.lit (.int .u8 144), .lit (.int .u8 191)], .agg [.lit (.int .u8 128), .lit (.int .u8 143)], .agg [.lit (.int .u8 0), .lit (.int .u8 0)], .agg [.lit (.int .u8 0), .lit (.int .u8 0)], .agg [.lit (.int .u8 0), .lit (.int .u8 0)], .agg [.lit (.int .u8 0), .lit (.int .u8 0)], .agg [.lit (.int .u8 0), .lit (.int .u8 0)], .agg [.lit (.int .u8 0), .lit (.int .u8 0)], .agg [.lit (.int .u8 0), .lit (.int .u8 0)], .agg [.lit (.int .u8 0), .lit (.int .u8 0)], .agg [.lit (.int .u8 0), .lit (.int .u8 0)], .agg [.lit (.int .u8 0), .lit (.int .u8 0)], .agg [.lit (.int .u8 0), .lit (.int .u8 0)]]
/-- One of Go's own tables, pinned by name: the form's constant. -/
def laid_unicode_utf8_first : DataW Unit := Go.Pinned.utf8First

/-- 'palinglaw16.TsoOwn': WHATEVER THE INPUT: true; the input reads as it did. -/
def tsoOwnSpec : ChangeSpec := { name := "tsoOwn", fn := fun _ => fun
  | [d1, d2] => { results := [.lit (.bool true)], args := [d1, d2] }
  | _ => none }
def tsoOwnRow : OpenClaim := { program := "ytphcaohldmdglaadoor", sum := "62ce5ab756c3c9f662d0fafccd87cb9e4dce073a82ab09e4972704996a34a1be", func := "paling/palinglaw16.TsoOwn", spec := "tsoOwn", named := ["unicode/utf8.first", "unicode/utf8.acceptRanges"], apart := false, laid := [("unicode/utf8.acceptRanges", laid_unicode_utf8_acceptRanges), ("unicode/utf8.first", laid_unicode_utf8_first)] }
def TsoOwnSaid : Prop := tsoOwnRow.holds Tryd.pinned (OpenSpec.ofChange tsoOwnSpec)

/-- ITS FALSE NEIGHBOUR: 'it returns false'. Refute it at one input. -/
def tsoOwnWrong : ChangeSpec := { name := "tsoOwn", fn := fun _ => fun
  | [d1, d2] => { results := [.lit (.bool false)], args := [d1, d2] }
  | _ => none }
def TsoOwnWrongFalsely : Prop := tsoOwnRow.holds Tryd.pinned (OpenSpec.ofChange tsoOwnWrong)

/-- 'palinglaw16.TsoFences': WHATEVER THE INPUT: true; the input reads as it did. -/
def tsoFencesSpec : ChangeSpec := { name := "tsoFences", fn := fun _ => fun
  | [d1, d2, d3] => { results := [.lit (.bool true)], args := [d1, d2, d3] }
  | _ => none }
def tsoFencesRow : OpenClaim := { program := "ytphcaohldmdglaadoor", sum := "62ce5ab756c3c9f662d0fafccd87cb9e4dce073a82ab09e4972704996a34a1be", func := "paling/palinglaw16.TsoFences", spec := "tsoFences", named := ["unicode/utf8.first", "unicode/utf8.acceptRanges"], apart := false, laid := [("unicode/utf8.acceptRanges", laid_unicode_utf8_acceptRanges), ("unicode/utf8.first", laid_unicode_utf8_first)] }
def TsoFencesSaid : Prop := tsoFencesRow.holds Tryd.pinned (OpenSpec.ofChange tsoFencesSpec)

/-- ITS FALSE NEIGHBOUR: 'it returns false'. Refute it at one input. -/
def tsoFencesWrong : ChangeSpec := { name := "tsoFences", fn := fun _ => fun
  | [d1, d2, d3] => { results := [.lit (.bool false)], args := [d1, d2, d3] }
  | _ => none }
def TsoFencesWrongFalsely : Prop := tsoFencesRow.holds Tryd.pinned (OpenSpec.ofChange tsoFencesWrong)

/-- 'palinglaw16.TsoRuns': WHATEVER THE INPUT: true; the input reads as it did. -/
def tsoRunsSpec : ChangeSpec := { name := "tsoRuns", fn := fun _ => fun
  | [d1, d2, d3] => { results := [.lit (.bool true)], args := [d1, d2, d3] }
  | _ => none }
def tsoRunsRow : OpenClaim := { program := "ytphcaohldmdglaadoor", sum := "62ce5ab756c3c9f662d0fafccd87cb9e4dce073a82ab09e4972704996a34a1be", func := "paling/palinglaw16.TsoRuns", spec := "tsoRuns", named := ["unicode/utf8.first", "unicode/utf8.acceptRanges"], apart := false, laid := [("unicode/utf8.acceptRanges", laid_unicode_utf8_acceptRanges), ("unicode/utf8.first", laid_unicode_utf8_first)] }
def TsoRunsSaid : Prop := tsoRunsRow.holds Tryd.pinned (OpenSpec.ofChange tsoRunsSpec)

/-- ITS FALSE NEIGHBOUR: 'it returns false'. Refute it at one input. -/
def tsoRunsWrong : ChangeSpec := { name := "tsoRuns", fn := fun _ => fun
  | [d1, d2, d3] => { results := [.lit (.bool false)], args := [d1, d2, d3] }
  | _ => none }
def TsoRunsWrongFalsely : Prop := tsoRunsRow.holds Tryd.pinned (OpenSpec.ofChange tsoRunsWrong)

/-- 'palinglaw16.TsoEager': WHATEVER THE INPUT: true; the input reads as it did. -/
def tsoEagerSpec : ChangeSpec := { name := "tsoEager", fn := fun _ => fun
  | [d1, d2] => { results := [.lit (.bool true)], args := [d1, d2] }
  | _ => none }
def tsoEagerRow : OpenClaim := { program := "ytphcaohldmdglaadoor", sum := "62ce5ab756c3c9f662d0fafccd87cb9e4dce073a82ab09e4972704996a34a1be", func := "paling/palinglaw16.TsoEager", spec := "tsoEager", named := ["unicode/utf8.first", "unicode/utf8.acceptRanges"], apart := false, laid := [("unicode/utf8.acceptRanges", laid_unicode_utf8_acceptRanges), ("unicode/utf8.first", laid_unicode_utf8_first)] }
def TsoEagerSaid : Prop := tsoEagerRow.holds Tryd.pinned (OpenSpec.ofChange tsoEagerSpec)

/-- ITS FALSE NEIGHBOUR: 'it returns false'. Refute it at one input. -/
def tsoEagerWrong : ChangeSpec := { name := "tsoEager", fn := fun _ => fun
  | [d1, d2] => { results := [.lit (.bool false)], args := [d1, d2] }
  | _ => none }
def TsoEagerWrongFalsely : Prop := tsoEagerRow.holds Tryd.pinned (OpenSpec.ofChange tsoEagerWrong)

/-- 'palinglaw16.TsoAlone': WHATEVER THE INPUT: true; the input reads as it did. -/
def tsoAloneSpec : ChangeSpec := { name := "tsoAlone", fn := fun _ => fun
  | [d1, d2] => { results := [.lit (.bool true)], args := [d1, d2] }
  | _ => none }
def tsoAloneRow : OpenClaim := { program := "ytphcaohldmdglaadoor", sum := "62ce5ab756c3c9f662d0fafccd87cb9e4dce073a82ab09e4972704996a34a1be", func := "paling/palinglaw16.TsoAlone", spec := "tsoAlone", named := ["unicode/utf8.first", "unicode/utf8.acceptRanges"], apart := false, laid := [("unicode/utf8.acceptRanges", laid_unicode_utf8_acceptRanges), ("unicode/utf8.first", laid_unicode_utf8_first)] }
def TsoAloneSaid : Prop := tsoAloneRow.holds Tryd.pinned (OpenSpec.ofChange tsoAloneSpec)

/-- ITS FALSE NEIGHBOUR: 'it returns false'. Refute it at one input. -/
def tsoAloneWrong : ChangeSpec := { name := "tsoAlone", fn := fun _ => fun
  | [d1, d2] => { results := [.lit (.bool false)], args := [d1, d2] }
  | _ => none }
def TsoAloneWrongFalsely : Prop := tsoAloneRow.holds Tryd.pinned (OpenSpec.ofChange tsoAloneWrong)

/- THE SECOND FORM. 'bulk': how many values and letters a reading holds, each counted each time it is reached (what is shared counts as often as it is met; a slice's spare places count too). A statement '..UptoSaid' is the law's where the arguments, and the package variables that the reading takes, are together of bulk at most 1048576: NARROWER than '..Said'. Prove '..Said' where nothing that the law and all that it calls make is longer than what came in: it says more and counts as full. Else prove '..UptoSaid'. A law counts once. -/
mutual
def uptoBulk {H : Type} : DataW H → Nat
  | .lit (.string bytes) => bytes.length + 1
  | .lit _ => 1
  | .nil => 1
  | .ptr d => uptoBulk d + 1
  | .slice elems spare => uptoBulkAll elems + uptoBulkAll spare + 1
  | .agg parts => uptoBulkAll parts + 1
  | .iface _ d => uptoBulk d + 1
  | .map entries => uptoBulkEntries entries + 1
  | .held _ => 1
def uptoBulkAll {H : Type} : List (DataW H) → Nat
  | [] => 0
  | d :: r => uptoBulk d + uptoBulkAll r
def uptoBulkEntries {H : Type} : List (Lit × DataW H) → Nat
  | [] => 0
  | x :: r => uptoBulkEntry x + uptoBulkEntries r
def uptoBulkEntry {H : Type} : Lit × DataW H → Nat
  | (.string bytes, d) => bytes.length + uptoBulk d + 1
  | (_, d) => uptoBulk d + 1
 end
def uptoSmall : (H : Type) → List (DataW H) → Bool := fun _ ds => decide (uptoBulkAll ds ≤ 1048576)
def OpenSpec.upto (s : _root_.Go.ChangeSpec) : _root_.Go.OpenSpec := { _root_.Go.OpenSpec.ofChange s with cond := some uptoSmall }

/-- 'palinglaw16.TsoOwn', WHERE WHAT IT READS IS OF BULK AT MOST 1048576: true; the input reads as it did. -/
def tsoOwnUptoRow : OpenClaim := { program := "ytphcaohldmdglaadoor", sum := "62ce5ab756c3c9f662d0fafccd87cb9e4dce073a82ab09e4972704996a34a1be", func := "paling/palinglaw16.TsoOwn", spec := "tsoOwn", named := ["unicode/utf8.first", "unicode/utf8.acceptRanges"], apart := false, laid := [("unicode/utf8.acceptRanges", laid_unicode_utf8_acceptRanges), ("unicode/utf8.first", laid_unicode_utf8_first)], narrowed := true }
def TsoOwnUptoSaid : Prop := tsoOwnUptoRow.holds Tryd.pinned (OpenSpec.upto tsoOwnSpec)

/-- 'palinglaw16.TsoFences', WHERE WHAT IT READS IS OF BULK AT MOST 1048576: true; the input reads as it did. -/
def tsoFencesUptoRow : OpenClaim := { program := "ytphcaohldmdglaadoor", sum := "62ce5ab756c3c9f662d0fafccd87cb9e4dce073a82ab09e4972704996a34a1be", func := "paling/palinglaw16.TsoFences", spec := "tsoFences", named := ["unicode/utf8.first", "unicode/utf8.acceptRanges"], apart := false, laid := [("unicode/utf8.acceptRanges", laid_unicode_utf8_acceptRanges), ("unicode/utf8.first", laid_unicode_utf8_first)], narrowed := true }
def TsoFencesUptoSaid : Prop := tsoFencesUptoRow.holds Tryd.pinned (OpenSpec.upto tsoFencesSpec)

/-- 'palinglaw16.TsoRuns', WHERE WHAT IT READS IS OF BULK AT MOST 1048576: true; the input reads as it did. -/
def tsoRunsUptoRow : OpenClaim := { program := "ytphcaohldmdglaadoor", sum := "62ce5ab756c3c9f662d0fafccd87cb9e4dce073a82ab09e4972704996a34a1be", func := "paling/palinglaw16.TsoRuns", spec := "tsoRuns", named := ["unicode/utf8.first", "unicode/utf8.acceptRanges"], apart := false, laid := [("unicode/utf8.acceptRanges", laid_unicode_utf8_acceptRanges), ("unicode/utf8.first", laid_unicode_utf8_first)], narrowed := true }
def TsoRunsUptoSaid : Prop := tsoRunsUptoRow.holds Tryd.pinned (OpenSpec.upto tsoRunsSpec)

/-- 'palinglaw16.TsoEager', WHERE WHAT IT READS IS OF BULK AT MOST 1048576: true; the input reads as it did. -/
def tsoEagerUptoRow : OpenClaim := { program := "ytphcaohldmdglaadoor", sum := "62ce5ab756c3c9f662d0fafccd87cb9e4dce073a82ab09e4972704996a34a1be", func := "paling/palinglaw16.TsoEager", spec := "tsoEager", named := ["unicode/utf8.first", "unicode/utf8.acceptRanges"], apart := false, laid := [("unicode/utf8.acceptRanges", laid_unicode_utf8_acceptRanges), ("unicode/utf8.first", laid_unicode_utf8_first)], narrowed := true }
def TsoEagerUptoSaid : Prop := tsoEagerUptoRow.holds Tryd.pinned (OpenSpec.upto tsoEagerSpec)

/-- 'palinglaw16.TsoAlone', WHERE WHAT IT READS IS OF BULK AT MOST 1048576: true; the input reads as it did. -/
def tsoAloneUptoRow : OpenClaim := { program := "ytphcaohldmdglaadoor", sum := "62ce5ab756c3c9f662d0fafccd87cb9e4dce073a82ab09e4972704996a34a1be", func := "paling/palinglaw16.TsoAlone", spec := "tsoAlone", named := ["unicode/utf8.first", "unicode/utf8.acceptRanges"], apart := false, laid := [("unicode/utf8.acceptRanges", laid_unicode_utf8_acceptRanges), ("unicode/utf8.first", laid_unicode_utf8_first)], narrowed := true }
def TsoAloneUptoSaid : Prop := tsoAloneUptoRow.holds Tryd.pinned (OpenSpec.upto tsoAloneSpec)

end Rows
end Go.Proofs.YtphcaohldmdglaaDoor
