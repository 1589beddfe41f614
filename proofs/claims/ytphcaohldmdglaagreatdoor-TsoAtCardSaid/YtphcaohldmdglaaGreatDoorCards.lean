/-
  DERIVED. GIVEN WITH THE SEED: THE CARDS: each row of YtphcaohldmdglaaGreatDoorRows.lean that lists a variable, with what it lists TIED to the program's text (the seventh form; the later family's looks); each row that meets fmt, with fmt's text TOLD by the authors' own Lean function (tested against real Go, not proved from fmt's source: count such statements apart). THE CARD IS WHAT COUNTS. Prove the row's statement (the work); the ties are given (YtphcaohldmdglaaGreatDoorTie.lean); close each card by the builder's one call (the guide's Derived/Test/ToyasCard.lean, 'card_holds'). Laid BY PROGRAM, IN A SANDBOX (cutbox-door.mjs). By AI agents, Wed Nov 11 2026. No macro, syntax, notation, axiom, sorry.
-/
import Derived.Test.YtphcaohldmdglaaGreatDoorRows
import GoSem.ClaimSeven
namespace Go.Proofs.YtphcaohldmdglaaGreatDoor
namespace Rows

/-- THE TIED CARD OF 'palinglaw16.TsoPlays'. -/
def tsoPlaysCard : Claim7 := { stood := { row := tsoPlaysRow, standIns := [], harness := (true, "d9d1ba2201e61730b9b2f76f701ffef4a9993f241d7dff07a8979ba253795556"), looks := true }, kinds := [], alts := [], laidByText := true, laidKinds := [.data, .pinned], laidTests := true, laidLooks := .later }
def TsoPlaysCardSaid : Prop := Claim7.holds Tryz.pinned (.plain (OpenSpec.ofChange tsoPlaysSpec)) tsoPlaysCard

/-- THE TIED CARD OF 'palinglaw16.TsoNil'. -/
def tsoNilCard : Claim7 := { stood := { row := tsoNilRow, standIns := [], harness := (true, "d9d1ba2201e61730b9b2f76f701ffef4a9993f241d7dff07a8979ba253795556"), looks := true }, kinds := [], alts := [], laidByText := true, laidKinds := [.data, .pinned], laidTests := true, laidLooks := .later }
def TsoNilCardSaid : Prop := Claim7.holds Tryz.pinned (.plain (OpenSpec.ofChange tsoNilSpec)) tsoNilCard

/-- THE TIED CARD OF 'palinglaw16.TsoAt'. -/
def tsoAtCard : Claim7 := { stood := { row := tsoAtRow, standIns := [], harness := (true, "d9d1ba2201e61730b9b2f76f701ffef4a9993f241d7dff07a8979ba253795556"), looks := true }, kinds := [], alts := [], laidByText := true, laidKinds := [.data, .pinned], laidTests := true, laidLooks := .later }
def TsoAtCardSaid : Prop := Claim7.holds Tryz.pinned (.plain (OpenSpec.ofChange tsoAtSpec)) tsoAtCard

/-- THE SECOND FORM's CARD OF 'palinglaw16.TsoPlays'. -/
def tsoPlaysUptoCard : Claim7 := { stood := { row := tsoPlaysUptoRow, standIns := [], harness := (true, "d9d1ba2201e61730b9b2f76f701ffef4a9993f241d7dff07a8979ba253795556"), looks := true }, kinds := [], alts := [], laidByText := true, laidKinds := [.data, .pinned], laidTests := true, laidLooks := .later }
def TsoPlaysUptoCardSaid : Prop := Claim7.holds Tryz.pinned (.plain (OpenSpec.upto tsoPlaysSpec)) tsoPlaysUptoCard

/-- THE SECOND FORM's CARD OF 'palinglaw16.TsoNil'. -/
def tsoNilUptoCard : Claim7 := { stood := { row := tsoNilUptoRow, standIns := [], harness := (true, "d9d1ba2201e61730b9b2f76f701ffef4a9993f241d7dff07a8979ba253795556"), looks := true }, kinds := [], alts := [], laidByText := true, laidKinds := [.data, .pinned], laidTests := true, laidLooks := .later }
def TsoNilUptoCardSaid : Prop := Claim7.holds Tryz.pinned (.plain (OpenSpec.upto tsoNilSpec)) tsoNilUptoCard

/-- THE SECOND FORM's CARD OF 'palinglaw16.TsoAt'. -/
def tsoAtUptoCard : Claim7 := { stood := { row := tsoAtUptoRow, standIns := [], harness := (true, "d9d1ba2201e61730b9b2f76f701ffef4a9993f241d7dff07a8979ba253795556"), looks := true }, kinds := [], alts := [], laidByText := true, laidKinds := [.data, .pinned], laidTests := true, laidLooks := .later }
def TsoAtUptoCardSaid : Prop := Claim7.holds Tryz.pinned (.plain (OpenSpec.upto tsoAtSpec)) tsoAtUptoCard
end Rows
end Go.Proofs.YtphcaohldmdglaaGreatDoor
