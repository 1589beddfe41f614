/-
  DERIVED. GIVEN WITH THE SEED: THE CARDS: each row of YtpeifhiphfpajaaDoorRows.lean that lists a variable, with what it lists TIED to the program's text (the seventh form; the later family's looks); each row that meets fmt, with fmt's text TOLD by the authors' own Lean function (tested against real Go, not proved from fmt's source: count such statements apart). THE CARD IS WHAT COUNTS. Prove the row's statement (the work); the ties are given (YtpeifhiphfpajaaDoorTie.lean); close each card by the builder's one call (the guide's Derived/Test/ToyasCard.lean, 'card_holds'). Laid BY PROGRAM, IN A SANDBOX (cutbox-door.mjs). By AI agents, Wed Nov 11 2026. No macro, syntax, notation, axiom, sorry.
-/
import Derived.Test.YtpeifhiphfpajaaDoorRows
import GoSem.ClaimSeven
namespace Go.Proofs.YtpeifhiphfpajaaDoor
namespace Rows

/-- THE TIED CARD OF 'palinglaw28.TrailPlaces'. -/
def trailPlacesCard : Claim7 := { stood := { row := trailPlacesRow, standIns := [], harness := (true, "4a4b4c3abd885bb2c94d17d5323686bca9ee630528068b90a13dce18c420b3dc"), looks := true }, kinds := [], alts := [], laidByText := true, laidKinds := [.data, .pinned], laidTests := true, laidLooks := .later }
def TrailPlacesCardSaid : Prop := Claim7.holds Tryd.pinned (.plain (OpenSpec.ofChange trailPlacesSpec)) trailPlacesCard

/-- THE TIED CARD OF 'palinglaw28.TrailReads'. -/
def trailReadsCard : Claim7 := { stood := { row := trailReadsRow, standIns := [], harness := (true, "4a4b4c3abd885bb2c94d17d5323686bca9ee630528068b90a13dce18c420b3dc"), looks := true }, kinds := [], alts := [], laidByText := true, laidKinds := [.data, .pinned], laidTests := true, laidLooks := .later }
def TrailReadsCardSaid : Prop := Claim7.holds Tryd.pinned (.plain (OpenSpec.ofChange trailReadsSpec)) trailReadsCard

/-- THE SECOND FORM's CARD OF 'palinglaw28.TrailPlaces'. -/
def trailPlacesUptoCard : Claim7 := { stood := { row := trailPlacesUptoRow, standIns := [], harness := (true, "4a4b4c3abd885bb2c94d17d5323686bca9ee630528068b90a13dce18c420b3dc"), looks := true }, kinds := [], alts := [], laidByText := true, laidKinds := [.data, .pinned], laidTests := true, laidLooks := .later }
def TrailPlacesUptoCardSaid : Prop := Claim7.holds Tryd.pinned (.plain (OpenSpec.upto trailPlacesSpec)) trailPlacesUptoCard

/-- THE SECOND FORM's CARD OF 'palinglaw28.TrailReads'. -/
def trailReadsUptoCard : Claim7 := { stood := { row := trailReadsUptoRow, standIns := [], harness := (true, "4a4b4c3abd885bb2c94d17d5323686bca9ee630528068b90a13dce18c420b3dc"), looks := true }, kinds := [], alts := [], laidByText := true, laidKinds := [.data, .pinned], laidTests := true, laidLooks := .later }
def TrailReadsUptoCardSaid : Prop := Claim7.holds Tryd.pinned (.plain (OpenSpec.upto trailReadsSpec)) trailReadsUptoCard
end Rows
end Go.Proofs.YtpeifhiphfpajaaDoor
