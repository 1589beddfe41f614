/-
  DERIVED. GIVEN WITH THE SEED: THE CARDS: each row of YtfimjmkhmfnaeaaDoorRows.lean that lists a variable, with what it lists TIED to the program's text (the seventh form; the later family's looks); each row that meets fmt, with fmt's text TOLD by the authors' own Lean function (tested against real Go, not proved from fmt's source: count such statements apart). THE CARD IS WHAT COUNTS. Prove the row's statement (the work); the ties are given (YtfimjmkhmfnaeaaDoorTie.lean); close each card by the builder's one call (the guide's Derived/Test/ToyasCard.lean, 'card_holds'). Laid BY PROGRAM, IN A SANDBOX (cutbox-door.mjs). By AI agents, Wed Nov 11 2026. No macro, syntax, notation, axiom, sorry.
-/
import Derived.Test.YtfimjmkhmfnaeaaDoorRows
import GoSem.ClaimSeven
namespace Go.Proofs.YtfimjmkhmfnaeaaDoor
namespace Rows

/-- THE TIED CARD OF 'palinglaw15.ScRuns'. -/
def scRunsCard : Claim7 := { stood := { row := scRunsRow, standIns := [], harness := (true, "fa61de84e15c5321f80b124f5a10a4787ae79523a3d7c21d399a9a7a659dee16"), looks := true }, kinds := [], alts := [], laidByText := true, laidKinds := [.data, .pinned], laidTests := true, laidLooks := .later }
def ScRunsCardSaid : Prop := Claim7.holds Tryd.pinned (.plain (OpenSpec.ofChange scRunsSpec)) scRunsCard

/-- THE TIED CARD OF 'palinglaw15.ScCopies'. -/
def scCopiesCard : Claim7 := { stood := { row := scCopiesRow, standIns := [], harness := (true, "fa61de84e15c5321f80b124f5a10a4787ae79523a3d7c21d399a9a7a659dee16"), looks := true }, kinds := [], alts := [], laidByText := true, laidKinds := [.data, .pinned], laidTests := true, laidLooks := .later }
def ScCopiesCardSaid : Prop := Claim7.holds Tryd.pinned (.plain (OpenSpec.ofChange scCopiesSpec)) scCopiesCard

/-- THE TIED CARD OF 'palinglaw15.ScNil'. -/
def scNilCard : Claim7 := { stood := { row := scNilRow, standIns := [], harness := (true, "fa61de84e15c5321f80b124f5a10a4787ae79523a3d7c21d399a9a7a659dee16"), looks := true }, kinds := [], alts := [], laidByText := true, laidKinds := [.data, .pinned], laidTests := true, laidLooks := .later }
def ScNilCardSaid : Prop := Claim7.holds Tryd.pinned (.plain (OpenSpec.ofChange scNilSpec)) scNilCard

/-- THE TIED CARD OF 'palinglaw15.ScAt'. -/
def scAtCard : Claim7 := { stood := { row := scAtRow, standIns := [], harness := (true, "fa61de84e15c5321f80b124f5a10a4787ae79523a3d7c21d399a9a7a659dee16"), looks := true }, kinds := [], alts := [], laidByText := true, laidKinds := [.data, .pinned], laidTests := true, laidLooks := .later }
def ScAtCardSaid : Prop := Claim7.holds Tryd.pinned (.plain (OpenSpec.ofChange scAtSpec)) scAtCard

/-- THE SECOND FORM's CARD OF 'palinglaw15.ScRuns'. -/
def scRunsUptoCard : Claim7 := { stood := { row := scRunsUptoRow, standIns := [], harness := (true, "fa61de84e15c5321f80b124f5a10a4787ae79523a3d7c21d399a9a7a659dee16"), looks := true }, kinds := [], alts := [], laidByText := true, laidKinds := [.data, .pinned], laidTests := true, laidLooks := .later }
def ScRunsUptoCardSaid : Prop := Claim7.holds Tryd.pinned (.plain (OpenSpec.upto scRunsSpec)) scRunsUptoCard

/-- THE SECOND FORM's CARD OF 'palinglaw15.ScCopies'. -/
def scCopiesUptoCard : Claim7 := { stood := { row := scCopiesUptoRow, standIns := [], harness := (true, "fa61de84e15c5321f80b124f5a10a4787ae79523a3d7c21d399a9a7a659dee16"), looks := true }, kinds := [], alts := [], laidByText := true, laidKinds := [.data, .pinned], laidTests := true, laidLooks := .later }
def ScCopiesUptoCardSaid : Prop := Claim7.holds Tryd.pinned (.plain (OpenSpec.upto scCopiesSpec)) scCopiesUptoCard

/-- THE SECOND FORM's CARD OF 'palinglaw15.ScNil'. -/
def scNilUptoCard : Claim7 := { stood := { row := scNilUptoRow, standIns := [], harness := (true, "fa61de84e15c5321f80b124f5a10a4787ae79523a3d7c21d399a9a7a659dee16"), looks := true }, kinds := [], alts := [], laidByText := true, laidKinds := [.data, .pinned], laidTests := true, laidLooks := .later }
def ScNilUptoCardSaid : Prop := Claim7.holds Tryd.pinned (.plain (OpenSpec.upto scNilSpec)) scNilUptoCard

/-- THE SECOND FORM's CARD OF 'palinglaw15.ScAt'. -/
def scAtUptoCard : Claim7 := { stood := { row := scAtUptoRow, standIns := [], harness := (true, "fa61de84e15c5321f80b124f5a10a4787ae79523a3d7c21d399a9a7a659dee16"), looks := true }, kinds := [], alts := [], laidByText := true, laidKinds := [.data, .pinned], laidTests := true, laidLooks := .later }
def ScAtUptoCardSaid : Prop := Claim7.holds Tryd.pinned (.plain (OpenSpec.upto scAtSpec)) scAtUptoCard
end Rows
end Go.Proofs.YtfimjmkhmfnaeaaDoor
