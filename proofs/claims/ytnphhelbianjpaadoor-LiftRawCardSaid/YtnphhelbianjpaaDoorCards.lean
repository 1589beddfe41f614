/-
  DERIVED. GIVEN WITH THE SEED: THE CARDS: each row of YtnphhelbianjpaaDoorRows.lean that lists a variable, with what it lists TIED to the program's text (the seventh form; the later family's looks); each row that meets fmt, with fmt's text TOLD by the authors' own Lean function (tested against real Go, not proved from fmt's source: count such statements apart). THE CARD IS WHAT COUNTS. Prove the row's statement (the work); the ties are given (YtnphhelbianjpaaDoorTie.lean); close each card by the builder's one call (the guide's Derived/Test/ToyasCard.lean, 'card_holds'). Laid BY PROGRAM, IN A SANDBOX (cutbox-door.mjs). By AI agents, Wed Nov 11 2026. No macro, syntax, notation, axiom, sorry.
-/
import Derived.Test.YtnphhelbianjpaaDoorRows
import GoSem.ClaimSeven
namespace Go.Proofs.YtnphhelbianjpaaDoor
namespace Rows

/-- THE TIED CARD OF 'palinglaw30.LiftGrows'. -/
def liftGrowsCard : Claim7 := { stood := { row := liftGrowsRow, standIns := [], harness := (true, "e77ad4c106a5ace424bbc868013e1d0cd1e380a05634147a0ade4f4bc488fc59"), looks := true }, kinds := [], alts := [], laidByText := true, laidKinds := [.data, .pinned], laidTests := true, laidLooks := .later }
def LiftGrowsCardSaid : Prop := Claim7.holds Tryd.pinned (.plain (OpenSpec.ofChange liftGrowsSpec)) liftGrowsCard

/-- THE TIED CARD OF 'palinglaw30.LiftRaw'. -/
def liftRawCard : Claim7 := { stood := { row := liftRawRow, standIns := [], harness := (true, "e77ad4c106a5ace424bbc868013e1d0cd1e380a05634147a0ade4f4bc488fc59"), looks := true }, kinds := [], alts := [], laidByText := true, laidKinds := [.data, .pinned], laidTests := true, laidLooks := .later }
def LiftRawCardSaid : Prop := Claim7.holds Tryd.pinned (.plain (OpenSpec.ofChange liftRawSpec)) liftRawCard

/-- THE SECOND FORM's CARD OF 'palinglaw30.LiftGrows'. -/
def liftGrowsUptoCard : Claim7 := { stood := { row := liftGrowsUptoRow, standIns := [], harness := (true, "e77ad4c106a5ace424bbc868013e1d0cd1e380a05634147a0ade4f4bc488fc59"), looks := true }, kinds := [], alts := [], laidByText := true, laidKinds := [.data, .pinned], laidTests := true, laidLooks := .later }
def LiftGrowsUptoCardSaid : Prop := Claim7.holds Tryd.pinned (.plain (OpenSpec.upto liftGrowsSpec)) liftGrowsUptoCard

/-- THE SECOND FORM's CARD OF 'palinglaw30.LiftRaw'. -/
def liftRawUptoCard : Claim7 := { stood := { row := liftRawUptoRow, standIns := [], harness := (true, "e77ad4c106a5ace424bbc868013e1d0cd1e380a05634147a0ade4f4bc488fc59"), looks := true }, kinds := [], alts := [], laidByText := true, laidKinds := [.data, .pinned], laidTests := true, laidLooks := .later }
def LiftRawUptoCardSaid : Prop := Claim7.holds Tryd.pinned (.plain (OpenSpec.upto liftRawSpec)) liftRawUptoCard
end Rows
end Go.Proofs.YtnphhelbianjpaaDoor
