/-
  DERIVED. GIVEN WITH THE SEED: THE CARDS: each row of YtfimjmkhmfnaeaaGreatDoorRows.lean that lists a variable, with what it lists TIED to the program's text (the seventh form; the later family's looks); each row that meets fmt, with fmt's text TOLD by the authors' own Lean function (tested against real Go, not proved from fmt's source: count such statements apart). THE CARD IS WHAT COUNTS. Prove the row's statement (the work); the ties are given (YtfimjmkhmfnaeaaGreatDoorTie.lean); close each card by the builder's one call (the guide's Derived/Test/ToyasCard.lean, 'card_holds'). Laid BY PROGRAM, IN A SANDBOX (cutbox-door.mjs). By AI agents, Wed Nov 11 2026. No macro, syntax, notation, axiom, sorry.
-/
import Derived.Test.YtfimjmkhmfnaeaaGreatDoorRows
import GoSem.ClaimSeven
namespace Go.Proofs.YtfimjmkhmfnaeaaGreatDoor
namespace Rows

/-- THE TIED CARD OF 'palinglaw15.ScPlays'. -/
def scPlaysCard : Claim7 := { stood := { row := scPlaysRow, standIns := [], harness := (true, "65723b09683dc6c6219482e235e0d3e16266147f4c7a35ebc6158e94ed85d0f3"), looks := true }, kinds := [], alts := [], laidByText := true, laidKinds := [.data, .pinned], laidTests := true, laidLooks := .later }
def ScPlaysCardSaid : Prop := Claim7.holds Tryz.pinned (.plain (OpenSpec.ofChange scPlaysSpec)) scPlaysCard

/-- THE TIED CARD OF 'palinglaw15.ScRaw'. -/
def scRawCard : Claim7 := { stood := { row := scRawRow, standIns := [], harness := (true, "65723b09683dc6c6219482e235e0d3e16266147f4c7a35ebc6158e94ed85d0f3"), looks := true }, kinds := [], alts := [], laidByText := true, laidKinds := [.data, .pinned], laidTests := true, laidLooks := .later }
def ScRawCardSaid : Prop := Claim7.holds Tryz.pinned (.plain (OpenSpec.ofChange scRawSpec)) scRawCard

/-- THE SECOND FORM's CARD OF 'palinglaw15.ScPlays'. -/
def scPlaysUptoCard : Claim7 := { stood := { row := scPlaysUptoRow, standIns := [], harness := (true, "65723b09683dc6c6219482e235e0d3e16266147f4c7a35ebc6158e94ed85d0f3"), looks := true }, kinds := [], alts := [], laidByText := true, laidKinds := [.data, .pinned], laidTests := true, laidLooks := .later }
def ScPlaysUptoCardSaid : Prop := Claim7.holds Tryz.pinned (.plain (OpenSpec.upto scPlaysSpec)) scPlaysUptoCard

/-- THE SECOND FORM's CARD OF 'palinglaw15.ScRaw'. -/
def scRawUptoCard : Claim7 := { stood := { row := scRawUptoRow, standIns := [], harness := (true, "65723b09683dc6c6219482e235e0d3e16266147f4c7a35ebc6158e94ed85d0f3"), looks := true }, kinds := [], alts := [], laidByText := true, laidKinds := [.data, .pinned], laidTests := true, laidLooks := .later }
def ScRawUptoCardSaid : Prop := Claim7.holds Tryz.pinned (.plain (OpenSpec.upto scRawSpec)) scRawUptoCard
end Rows
end Go.Proofs.YtfimjmkhmfnaeaaGreatDoor
