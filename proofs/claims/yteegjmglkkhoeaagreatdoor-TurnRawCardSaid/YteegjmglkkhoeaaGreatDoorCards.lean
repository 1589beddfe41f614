/-
  DERIVED. GIVEN WITH THE SEED: THE CARDS: each row of YteegjmglkkhoeaaGreatDoorRows.lean that lists a variable, with what it lists TIED to the program's text (the seventh form; the later family's looks); each row that meets fmt, with fmt's text TOLD by the authors' own Lean function (tested against real Go, not proved from fmt's source: count such statements apart). THE CARD IS WHAT COUNTS. Prove the row's statement (the work); the ties are given (YteegjmglkkhoeaaGreatDoorTie.lean); close each card by the builder's one call (the guide's Derived/Test/ToyasCard.lean, 'card_holds'). Laid BY PROGRAM, IN A SANDBOX (cutbox-door.mjs). By AI agents, Wed Nov 11 2026. No macro, syntax, notation, axiom, sorry.
-/
import Derived.Test.YteegjmglkkhoeaaGreatDoorRows
import GoSem.ClaimSeven
namespace Go.Proofs.YteegjmglkkhoeaaGreatDoor
namespace Rows

/-- THE TIED CARD OF 'palinglaw18.TurnTells'. -/
def turnTellsCard : Claim7 := { stood := { row := turnTellsRow, standIns := [], harness := (true, "116e7396415ec493ffbcc9e1c53fdcbd306f67f4eef98eb774b0e4efbf599567"), looks := true }, kinds := [], alts := [], laidByText := true, laidKinds := [.data, .pinned], laidTests := true, laidLooks := .later }
def TurnTellsCardSaid : Prop := Claim7.holds Tryz.pinned (.plain (OpenSpec.ofChange turnTellsSpec)) turnTellsCard

/-- THE TIED CARD OF 'palinglaw18.TurnBack'. -/
def turnBackCard : Claim7 := { stood := { row := turnBackRow, standIns := [], harness := (true, "116e7396415ec493ffbcc9e1c53fdcbd306f67f4eef98eb774b0e4efbf599567"), looks := true }, kinds := [], alts := [], laidByText := true, laidKinds := [.data, .pinned], laidTests := true, laidLooks := .later }
def TurnBackCardSaid : Prop := Claim7.holds Tryz.pinned (.plain (OpenSpec.ofChange turnBackSpec)) turnBackCard

/-- THE TIED CARD OF 'palinglaw18.TurnRaw'. -/
def turnRawCard : Claim7 := { stood := { row := turnRawRow, standIns := [], harness := (true, "116e7396415ec493ffbcc9e1c53fdcbd306f67f4eef98eb774b0e4efbf599567"), looks := true }, kinds := [], alts := [], laidByText := true, laidKinds := [.data, .pinned], laidTests := true, laidLooks := .later }
def TurnRawCardSaid : Prop := Claim7.holds Tryz.pinned (.plain (OpenSpec.ofChange turnRawSpec)) turnRawCard

/-- THE SECOND FORM's CARD OF 'palinglaw18.TurnTells'. -/
def turnTellsUptoCard : Claim7 := { stood := { row := turnTellsUptoRow, standIns := [], harness := (true, "116e7396415ec493ffbcc9e1c53fdcbd306f67f4eef98eb774b0e4efbf599567"), looks := true }, kinds := [], alts := [], laidByText := true, laidKinds := [.data, .pinned], laidTests := true, laidLooks := .later }
def TurnTellsUptoCardSaid : Prop := Claim7.holds Tryz.pinned (.plain (OpenSpec.upto turnTellsSpec)) turnTellsUptoCard

/-- THE SECOND FORM's CARD OF 'palinglaw18.TurnBack'. -/
def turnBackUptoCard : Claim7 := { stood := { row := turnBackUptoRow, standIns := [], harness := (true, "116e7396415ec493ffbcc9e1c53fdcbd306f67f4eef98eb774b0e4efbf599567"), looks := true }, kinds := [], alts := [], laidByText := true, laidKinds := [.data, .pinned], laidTests := true, laidLooks := .later }
def TurnBackUptoCardSaid : Prop := Claim7.holds Tryz.pinned (.plain (OpenSpec.upto turnBackSpec)) turnBackUptoCard

/-- THE SECOND FORM's CARD OF 'palinglaw18.TurnRaw'. -/
def turnRawUptoCard : Claim7 := { stood := { row := turnRawUptoRow, standIns := [], harness := (true, "116e7396415ec493ffbcc9e1c53fdcbd306f67f4eef98eb774b0e4efbf599567"), looks := true }, kinds := [], alts := [], laidByText := true, laidKinds := [.data, .pinned], laidTests := true, laidLooks := .later }
def TurnRawUptoCardSaid : Prop := Claim7.holds Tryz.pinned (.plain (OpenSpec.upto turnRawSpec)) turnRawUptoCard
end Rows
end Go.Proofs.YteegjmglkkhoeaaGreatDoor
