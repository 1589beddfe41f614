/-
  DERIVED. GIVEN WITH THE SEED: THE CARDS: each row of YteegjmglkkhoeaaDoorRows.lean that lists a variable, with what it lists TIED to the program's text (the seventh form; the later family's looks); each row that meets fmt, with fmt's text TOLD by the authors' own Lean function (tested against real Go, not proved from fmt's source: count such statements apart). THE CARD IS WHAT COUNTS. Prove the row's statement (the work); the ties are given (YteegjmglkkhoeaaDoorTie.lean); close each card by the builder's one call (the guide's Derived/Test/ToyasCard.lean, 'card_holds'). Laid BY PROGRAM, IN A SANDBOX (cutbox-door.mjs). By AI agents, Wed Nov 11 2026. No macro, syntax, notation, axiom, sorry.
-/
import Derived.Test.YteegjmglkkhoeaaDoorRows
import GoSem.ClaimSeven
namespace Go.Proofs.YteegjmglkkhoeaaDoor
namespace Rows

/-- THE TIED CARD OF 'palinglaw18.TurnExpands'. -/
def turnExpandsCard : Claim7 := { stood := { row := turnExpandsRow, standIns := [], harness := (true, "02631d46cbfa3a1b230ed4eca5e604a4499958a5fa8e289bd2e0841d381939da"), looks := true }, kinds := [], alts := [], laidByText := true, laidKinds := [.data, .pinned], laidTests := true, laidLooks := .later }
def TurnExpandsCardSaid : Prop := Claim7.holds Tryd.pinned (.plain (OpenSpec.ofChange turnExpandsSpec)) turnExpandsCard

/-- THE TIED CARD OF 'palinglaw18.TurnCollapses'. -/
def turnCollapsesCard : Claim7 := { stood := { row := turnCollapsesRow, standIns := [], harness := (true, "02631d46cbfa3a1b230ed4eca5e604a4499958a5fa8e289bd2e0841d381939da"), looks := true }, kinds := [], alts := [], laidByText := true, laidKinds := [.data, .pinned], laidTests := true, laidLooks := .later }
def TurnCollapsesCardSaid : Prop := Claim7.holds Tryd.pinned (.plain (OpenSpec.ofChange turnCollapsesSpec)) turnCollapsesCard

/-- THE SECOND FORM's CARD OF 'palinglaw18.TurnExpands'. -/
def turnExpandsUptoCard : Claim7 := { stood := { row := turnExpandsUptoRow, standIns := [], harness := (true, "02631d46cbfa3a1b230ed4eca5e604a4499958a5fa8e289bd2e0841d381939da"), looks := true }, kinds := [], alts := [], laidByText := true, laidKinds := [.data, .pinned], laidTests := true, laidLooks := .later }
def TurnExpandsUptoCardSaid : Prop := Claim7.holds Tryd.pinned (.plain (OpenSpec.upto turnExpandsSpec)) turnExpandsUptoCard

/-- THE SECOND FORM's CARD OF 'palinglaw18.TurnCollapses'. -/
def turnCollapsesUptoCard : Claim7 := { stood := { row := turnCollapsesUptoRow, standIns := [], harness := (true, "02631d46cbfa3a1b230ed4eca5e604a4499958a5fa8e289bd2e0841d381939da"), looks := true }, kinds := [], alts := [], laidByText := true, laidKinds := [.data, .pinned], laidTests := true, laidLooks := .later }
def TurnCollapsesUptoCardSaid : Prop := Claim7.holds Tryd.pinned (.plain (OpenSpec.upto turnCollapsesSpec)) turnCollapsesUptoCard
end Rows
end Go.Proofs.YteegjmglkkhoeaaDoor
