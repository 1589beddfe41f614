/-
  DERIVED. GIVEN WITH THE SEED: THE CARDS: each row of YtjaipefmifbghaaGreatDoorRows.lean that lists a variable, with what it lists TIED to the program's text (the seventh form; the later family's looks); each row that meets fmt, with fmt's text TOLD by the authors' own Lean function (tested against real Go, not proved from fmt's source: count such statements apart). THE CARD IS WHAT COUNTS. Prove the row's statement (the work); the ties are given (YtjaipefmifbghaaGreatDoorTie.lean); close each card by the builder's one call (the guide's Derived/Test/ToyasCard.lean, 'card_holds'). Laid BY PROGRAM, IN A SANDBOX (cutbox-door.mjs). By AI agents, Wed Nov 11 2026. No macro, syntax, notation, axiom, sorry.
-/
import Derived.Test.YtjaipefmifbghaaGreatDoorRows
import GoSem.ClaimSeven
namespace Go.Proofs.YtjaipefmifbghaaGreatDoor
namespace Rows

/-- THE TIED CARD OF 'palinglaw17.OwensPlays'. -/
def owensPlaysCard : Claim7 := { stood := { row := owensPlaysRow, standIns := [], harness := (true, "3816a3eaa6343697ea995782c08bd21d9f9ce81daf4b7dbcb25b9f01a6f10d37"), looks := true }, kinds := [], alts := [], laidByText := true, laidKinds := [.data, .pinned], laidTests := true, laidLooks := .later }
def OwensPlaysCardSaid : Prop := Claim7.holds Tryz.pinned (.plain (OpenSpec.ofChange owensPlaysSpec)) owensPlaysCard

/-- THE TIED CARD OF 'palinglaw17.OwensLocked'. -/
def owensLockedCard : Claim7 := { stood := { row := owensLockedRow, standIns := [], harness := (true, "3816a3eaa6343697ea995782c08bd21d9f9ce81daf4b7dbcb25b9f01a6f10d37"), looks := true }, kinds := [], alts := [], laidByText := true, laidKinds := [.data, .pinned], laidTests := true, laidLooks := .later }
def OwensLockedCardSaid : Prop := Claim7.holds Tryz.pinned (.plain (OpenSpec.ofChange owensLockedSpec)) owensLockedCard

/-- THE TIED CARD OF 'palinglaw17.OwensShut'. -/
def owensShutCard : Claim7 := { stood := { row := owensShutRow, standIns := [], harness := (true, "3816a3eaa6343697ea995782c08bd21d9f9ce81daf4b7dbcb25b9f01a6f10d37"), looks := true }, kinds := [], alts := [], laidByText := true, laidKinds := [.data, .pinned], laidTests := true, laidLooks := .later }
def OwensShutCardSaid : Prop := Claim7.holds Tryz.pinned (.plain (OpenSpec.ofChange owensShutSpec)) owensShutCard

/-- THE TIED CARD OF 'palinglaw17.OwensNil'. -/
def owensNilCard : Claim7 := { stood := { row := owensNilRow, standIns := [], harness := (true, "3816a3eaa6343697ea995782c08bd21d9f9ce81daf4b7dbcb25b9f01a6f10d37"), looks := true }, kinds := [], alts := [], laidByText := true, laidKinds := [.data, .pinned], laidTests := true, laidLooks := .later }
def OwensNilCardSaid : Prop := Claim7.holds Tryz.pinned (.plain (OpenSpec.ofChange owensNilSpec)) owensNilCard

/-- THE TIED CARD OF 'palinglaw17.OwensPlain'. -/
def owensPlainCard : Claim7 := { stood := { row := owensPlainRow, standIns := [], harness := (true, "3816a3eaa6343697ea995782c08bd21d9f9ce81daf4b7dbcb25b9f01a6f10d37"), looks := true }, kinds := [], alts := [], laidByText := true, laidKinds := [.data, .pinned], laidTests := true, laidLooks := .later }
def OwensPlainCardSaid : Prop := Claim7.holds Tryz.pinned (.plain (OpenSpec.ofChange owensPlainSpec)) owensPlainCard

/-- THE SECOND FORM's CARD OF 'palinglaw17.OwensPlays'. -/
def owensPlaysUptoCard : Claim7 := { stood := { row := owensPlaysUptoRow, standIns := [], harness := (true, "3816a3eaa6343697ea995782c08bd21d9f9ce81daf4b7dbcb25b9f01a6f10d37"), looks := true }, kinds := [], alts := [], laidByText := true, laidKinds := [.data, .pinned], laidTests := true, laidLooks := .later }
def OwensPlaysUptoCardSaid : Prop := Claim7.holds Tryz.pinned (.plain (OpenSpec.upto owensPlaysSpec)) owensPlaysUptoCard

/-- THE SECOND FORM's CARD OF 'palinglaw17.OwensLocked'. -/
def owensLockedUptoCard : Claim7 := { stood := { row := owensLockedUptoRow, standIns := [], harness := (true, "3816a3eaa6343697ea995782c08bd21d9f9ce81daf4b7dbcb25b9f01a6f10d37"), looks := true }, kinds := [], alts := [], laidByText := true, laidKinds := [.data, .pinned], laidTests := true, laidLooks := .later }
def OwensLockedUptoCardSaid : Prop := Claim7.holds Tryz.pinned (.plain (OpenSpec.upto owensLockedSpec)) owensLockedUptoCard

/-- THE SECOND FORM's CARD OF 'palinglaw17.OwensShut'. -/
def owensShutUptoCard : Claim7 := { stood := { row := owensShutUptoRow, standIns := [], harness := (true, "3816a3eaa6343697ea995782c08bd21d9f9ce81daf4b7dbcb25b9f01a6f10d37"), looks := true }, kinds := [], alts := [], laidByText := true, laidKinds := [.data, .pinned], laidTests := true, laidLooks := .later }
def OwensShutUptoCardSaid : Prop := Claim7.holds Tryz.pinned (.plain (OpenSpec.upto owensShutSpec)) owensShutUptoCard

/-- THE SECOND FORM's CARD OF 'palinglaw17.OwensNil'. -/
def owensNilUptoCard : Claim7 := { stood := { row := owensNilUptoRow, standIns := [], harness := (true, "3816a3eaa6343697ea995782c08bd21d9f9ce81daf4b7dbcb25b9f01a6f10d37"), looks := true }, kinds := [], alts := [], laidByText := true, laidKinds := [.data, .pinned], laidTests := true, laidLooks := .later }
def OwensNilUptoCardSaid : Prop := Claim7.holds Tryz.pinned (.plain (OpenSpec.upto owensNilSpec)) owensNilUptoCard

/-- THE SECOND FORM's CARD OF 'palinglaw17.OwensPlain'. -/
def owensPlainUptoCard : Claim7 := { stood := { row := owensPlainUptoRow, standIns := [], harness := (true, "3816a3eaa6343697ea995782c08bd21d9f9ce81daf4b7dbcb25b9f01a6f10d37"), looks := true }, kinds := [], alts := [], laidByText := true, laidKinds := [.data, .pinned], laidTests := true, laidLooks := .later }
def OwensPlainUptoCardSaid : Prop := Claim7.holds Tryz.pinned (.plain (OpenSpec.upto owensPlainSpec)) owensPlainUptoCard
end Rows
end Go.Proofs.YtjaipefmifbghaaGreatDoor
