/-
  DERIVED. GIVEN WITH THE SEED: THE CARDS: each row of YtpeifhiphfpajaaGreatDoorRows.lean that lists a variable, with what it lists TIED to the program's text (the seventh form; the later family's looks); each row that meets fmt, with fmt's text TOLD by the authors' own Lean function (tested against real Go, not proved from fmt's source: count such statements apart). THE CARD IS WHAT COUNTS. Prove the row's statement (the work); the ties are given (YtpeifhiphfpajaaGreatDoorTie.lean); close each card by the builder's one call (the guide's Derived/Test/ToyasCard.lean, 'card_holds'). Laid BY PROGRAM, IN A SANDBOX (cutbox-door.mjs). By AI agents, Wed Nov 11 2026. No macro, syntax, notation, axiom, sorry.
-/
import Derived.Test.YtpeifhiphfpajaaGreatDoorRows
import GoSem.ClaimSeven
namespace Go.Proofs.YtpeifhiphfpajaaGreatDoor
namespace Rows

/-- THE TIED CARD OF 'palinglaw28.TrailTells'. -/
def trailTellsCard : Claim7 := { stood := { row := trailTellsRow, standIns := [], harness := (true, "6f7c5d8afb88d1f4b002a348648dd0c560d5a3f34a7428652c3dd301d7af63ce"), looks := true }, kinds := [], alts := [], laidByText := true, laidKinds := [.data, .pinned], laidTests := true, laidLooks := .later }
def TrailTellsCardSaid : Prop := Claim7.holds Tryz.pinned (.plain (OpenSpec.ofChange trailTellsSpec)) trailTellsCard

/-- THE TIED CARD OF 'palinglaw28.TrailSteps'. -/
def trailStepsCard : Claim7 := { stood := { row := trailStepsRow, standIns := [], harness := (true, "6f7c5d8afb88d1f4b002a348648dd0c560d5a3f34a7428652c3dd301d7af63ce"), looks := true }, kinds := [], alts := [], laidByText := true, laidKinds := [.data, .pinned], laidTests := true, laidLooks := .later }
def TrailStepsCardSaid : Prop := Claim7.holds Tryz.pinned (.plain (OpenSpec.ofChange trailStepsSpec)) trailStepsCard

/-- THE TIED CARD OF 'palinglaw28.TrailNone'. -/
def trailNoneCard : Claim7 := { stood := { row := trailNoneRow, standIns := [], harness := (true, "6f7c5d8afb88d1f4b002a348648dd0c560d5a3f34a7428652c3dd301d7af63ce"), looks := true }, kinds := [], alts := [], laidByText := true, laidKinds := [.data, .pinned], laidTests := true, laidLooks := .later }
def TrailNoneCardSaid : Prop := Claim7.holds Tryz.pinned (.plain (OpenSpec.ofChange trailNoneSpec)) trailNoneCard

/-- THE SECOND FORM's CARD OF 'palinglaw28.TrailTells'. -/
def trailTellsUptoCard : Claim7 := { stood := { row := trailTellsUptoRow, standIns := [], harness := (true, "6f7c5d8afb88d1f4b002a348648dd0c560d5a3f34a7428652c3dd301d7af63ce"), looks := true }, kinds := [], alts := [], laidByText := true, laidKinds := [.data, .pinned], laidTests := true, laidLooks := .later }
def TrailTellsUptoCardSaid : Prop := Claim7.holds Tryz.pinned (.plain (OpenSpec.upto trailTellsSpec)) trailTellsUptoCard

/-- THE SECOND FORM's CARD OF 'palinglaw28.TrailSteps'. -/
def trailStepsUptoCard : Claim7 := { stood := { row := trailStepsUptoRow, standIns := [], harness := (true, "6f7c5d8afb88d1f4b002a348648dd0c560d5a3f34a7428652c3dd301d7af63ce"), looks := true }, kinds := [], alts := [], laidByText := true, laidKinds := [.data, .pinned], laidTests := true, laidLooks := .later }
def TrailStepsUptoCardSaid : Prop := Claim7.holds Tryz.pinned (.plain (OpenSpec.upto trailStepsSpec)) trailStepsUptoCard

/-- THE SECOND FORM's CARD OF 'palinglaw28.TrailNone'. -/
def trailNoneUptoCard : Claim7 := { stood := { row := trailNoneUptoRow, standIns := [], harness := (true, "6f7c5d8afb88d1f4b002a348648dd0c560d5a3f34a7428652c3dd301d7af63ce"), looks := true }, kinds := [], alts := [], laidByText := true, laidKinds := [.data, .pinned], laidTests := true, laidLooks := .later }
def TrailNoneUptoCardSaid : Prop := Claim7.holds Tryz.pinned (.plain (OpenSpec.upto trailNoneSpec)) trailNoneUptoCard
end Rows
end Go.Proofs.YtpeifhiphfpajaaGreatDoor
