/-
  DERIVED. GIVEN WITH THE SEED: THE CARDS: each row of YtnphhelbianjpaaGreatDoorRows.lean that lists a variable, with what it lists TIED to the program's text (the seventh form; the later family's looks); each row that meets fmt, with fmt's text TOLD by the authors' own Lean function (tested against real Go, not proved from fmt's source: count such statements apart). THE CARD IS WHAT COUNTS. Prove the row's statement (the work); the ties are given (YtnphhelbianjpaaGreatDoorTie.lean); close each card by the builder's one call (the guide's Derived/Test/ToyasCard.lean, 'card_holds'). Laid BY PROGRAM, IN A SANDBOX (cutbox-door.mjs). By AI agents, Wed Nov 11 2026. No macro, syntax, notation, axiom, sorry.
-/
import Derived.Test.YtnphhelbianjpaaGreatDoorRows
import GoSem.ClaimSeven
namespace Go.Proofs.YtnphhelbianjpaaGreatDoor
namespace Rows

/-- THE TIED CARD OF 'palinglaw30.LiftTells'. -/
def liftTellsCard : Claim7 := { stood := { row := liftTellsRow, standIns := [], harness := (true, "df299dca1aab642ff3a243c8437b0179f17e09f28740bcb4047537aa152c3cdc"), looks := true }, kinds := [], alts := [], laidByText := true, laidKinds := [.data, .pinned], laidTests := true, laidLooks := .later }
def LiftTellsCardSaid : Prop := Claim7.holds Tryz.pinned (.plain (OpenSpec.ofChange liftTellsSpec)) liftTellsCard

/-- THE TIED CARD OF 'palinglaw30.LiftHolds'. -/
def liftHoldsCard : Claim7 := { stood := { row := liftHoldsRow, standIns := [], harness := (true, "df299dca1aab642ff3a243c8437b0179f17e09f28740bcb4047537aa152c3cdc"), looks := true }, kinds := [], alts := [], laidByText := true, laidKinds := [.data, .pinned], laidTests := true, laidLooks := .later }
def LiftHoldsCardSaid : Prop := Claim7.holds Tryz.pinned (.plain (OpenSpec.ofChange liftHoldsSpec)) liftHoldsCard

/-- THE SECOND FORM's CARD OF 'palinglaw30.LiftTells'. -/
def liftTellsUptoCard : Claim7 := { stood := { row := liftTellsUptoRow, standIns := [], harness := (true, "df299dca1aab642ff3a243c8437b0179f17e09f28740bcb4047537aa152c3cdc"), looks := true }, kinds := [], alts := [], laidByText := true, laidKinds := [.data, .pinned], laidTests := true, laidLooks := .later }
def LiftTellsUptoCardSaid : Prop := Claim7.holds Tryz.pinned (.plain (OpenSpec.upto liftTellsSpec)) liftTellsUptoCard

/-- THE SECOND FORM's CARD OF 'palinglaw30.LiftHolds'. -/
def liftHoldsUptoCard : Claim7 := { stood := { row := liftHoldsUptoRow, standIns := [], harness := (true, "df299dca1aab642ff3a243c8437b0179f17e09f28740bcb4047537aa152c3cdc"), looks := true }, kinds := [], alts := [], laidByText := true, laidKinds := [.data, .pinned], laidTests := true, laidLooks := .later }
def LiftHoldsUptoCardSaid : Prop := Claim7.holds Tryz.pinned (.plain (OpenSpec.upto liftHoldsSpec)) liftHoldsUptoCard
end Rows
end Go.Proofs.YtnphhelbianjpaaGreatDoor
