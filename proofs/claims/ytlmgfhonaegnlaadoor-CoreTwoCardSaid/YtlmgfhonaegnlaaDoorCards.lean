/-
  DERIVED. GIVEN WITH THE SEED: THE CARDS: each row of YtlmgfhonaegnlaaDoorRows.lean that lists a variable, with what it lists TIED to the program's text (the seventh form; the later family's looks); each row that meets fmt, with fmt's text TOLD by the authors' own Lean function (tested against real Go, not proved from fmt's source: count such statements apart). THE CARD IS WHAT COUNTS. Prove the row's statement (the work); the ties are given (YtlmgfhonaegnlaaDoorTie.lean); close each card by the builder's one call (the guide's Derived/Test/ToyasCard.lean, 'card_holds'). Laid BY PROGRAM, IN A SANDBOX (cutbox-door.mjs). By AI agents, Wed Nov 11 2026. No macro, syntax, notation, axiom, sorry.
-/
import Derived.Test.YtlmgfhonaegnlaaDoorRows
import GoSem.ClaimSeven
namespace Go.Proofs.YtlmgfhonaegnlaaDoor
namespace Rows

/-- THE TIED CARD OF 'palinglaw14.CoreStops'. -/
def coreStopsCard : Claim7 := { stood := { row := coreStopsRow, standIns := [], harness := (true, "795d8d4e4142a25e5c9b8948e5273008fd9e6e99b15cad91b88e9f7dcdd697eb"), looks := true }, kinds := [], alts := [], laidByText := true, laidKinds := [.data, .pinned], laidTests := true, laidLooks := .later }
def CoreStopsCardSaid : Prop := Claim7.holds Tryd.pinned (.plain (OpenSpec.ofChange coreStopsSpec)) coreStopsCard

/-- THE TIED CARD OF 'palinglaw14.CoreMakes'. -/
def coreMakesCard : Claim7 := { stood := { row := coreMakesRow, standIns := [], harness := (true, "795d8d4e4142a25e5c9b8948e5273008fd9e6e99b15cad91b88e9f7dcdd697eb"), looks := true }, kinds := [], alts := [], laidByText := true, laidKinds := [.data, .pinned], laidTests := true, laidLooks := .later }
def CoreMakesCardSaid : Prop := Claim7.holds Tryd.pinned (.plain (OpenSpec.ofChange coreMakesSpec)) coreMakesCard

/-- THE TIED CARD OF 'palinglaw14.CoreCompares'. -/
def coreComparesCard : Claim7 := { stood := { row := coreComparesRow, standIns := [], harness := (true, "795d8d4e4142a25e5c9b8948e5273008fd9e6e99b15cad91b88e9f7dcdd697eb"), looks := true }, kinds := [], alts := [], laidByText := true, laidKinds := [.data, .pinned], laidTests := true, laidLooks := .later }
def CoreComparesCardSaid : Prop := Claim7.holds Tryd.pinned (.plain (OpenSpec.ofChange coreComparesSpec)) coreComparesCard

/-- THE TIED CARD OF 'palinglaw14.CoreTells'. -/
def coreTellsCard : Claim7 := { stood := { row := coreTellsRow, standIns := [], harness := (true, "795d8d4e4142a25e5c9b8948e5273008fd9e6e99b15cad91b88e9f7dcdd697eb"), looks := true }, kinds := [], alts := [], laidByText := true, laidKinds := [.data, .pinned], laidTests := true, laidLooks := .later }
def CoreTellsCardSaid : Prop := Claim7.holds Tryd.pinned (.plain (OpenSpec.ofChange coreTellsSpec)) coreTellsCard

/-- THE TIED CARD OF 'palinglaw14.CoreEach'. -/
def coreEachCard : Claim7 := { stood := { row := coreEachRow, standIns := [], harness := (true, "795d8d4e4142a25e5c9b8948e5273008fd9e6e99b15cad91b88e9f7dcdd697eb"), looks := true }, kinds := [], alts := [], laidByText := true, laidKinds := [.data, .pinned], laidTests := true, laidLooks := .later }
def CoreEachCardSaid : Prop := Claim7.holds Tryd.pinned (.plain (OpenSpec.ofChange coreEachSpec)) coreEachCard

/-- THE TIED CARD OF 'palinglaw14.CoreTwo'. -/
def coreTwoCard : Claim7 := { stood := { row := coreTwoRow, standIns := [], harness := (true, "795d8d4e4142a25e5c9b8948e5273008fd9e6e99b15cad91b88e9f7dcdd697eb"), looks := true }, kinds := [], alts := [], laidByText := true, laidKinds := [.data, .pinned], laidTests := true, laidLooks := .later }
def CoreTwoCardSaid : Prop := Claim7.holds Tryd.pinned (.plain (OpenSpec.ofChange coreTwoSpec)) coreTwoCard

/-- THE TIED CARD OF 'palinglaw14.CoreNil'. -/
def coreNilCard : Claim7 := { stood := { row := coreNilRow, standIns := [], harness := (true, "795d8d4e4142a25e5c9b8948e5273008fd9e6e99b15cad91b88e9f7dcdd697eb"), looks := true }, kinds := [], alts := [], laidByText := true, laidKinds := [.data, .pinned], laidTests := true, laidLooks := .later }
def CoreNilCardSaid : Prop := Claim7.holds Tryd.pinned (.plain (OpenSpec.ofChange coreNilSpec)) coreNilCard

/-- THE SECOND FORM's CARD OF 'palinglaw14.CoreStops'. -/
def coreStopsUptoCard : Claim7 := { stood := { row := coreStopsUptoRow, standIns := [], harness := (true, "795d8d4e4142a25e5c9b8948e5273008fd9e6e99b15cad91b88e9f7dcdd697eb"), looks := true }, kinds := [], alts := [], laidByText := true, laidKinds := [.data, .pinned], laidTests := true, laidLooks := .later }
def CoreStopsUptoCardSaid : Prop := Claim7.holds Tryd.pinned (.plain (OpenSpec.upto coreStopsSpec)) coreStopsUptoCard

/-- THE SECOND FORM's CARD OF 'palinglaw14.CoreMakes'. -/
def coreMakesUptoCard : Claim7 := { stood := { row := coreMakesUptoRow, standIns := [], harness := (true, "795d8d4e4142a25e5c9b8948e5273008fd9e6e99b15cad91b88e9f7dcdd697eb"), looks := true }, kinds := [], alts := [], laidByText := true, laidKinds := [.data, .pinned], laidTests := true, laidLooks := .later }
def CoreMakesUptoCardSaid : Prop := Claim7.holds Tryd.pinned (.plain (OpenSpec.upto coreMakesSpec)) coreMakesUptoCard

/-- THE SECOND FORM's CARD OF 'palinglaw14.CoreCompares'. -/
def coreComparesUptoCard : Claim7 := { stood := { row := coreComparesUptoRow, standIns := [], harness := (true, "795d8d4e4142a25e5c9b8948e5273008fd9e6e99b15cad91b88e9f7dcdd697eb"), looks := true }, kinds := [], alts := [], laidByText := true, laidKinds := [.data, .pinned], laidTests := true, laidLooks := .later }
def CoreComparesUptoCardSaid : Prop := Claim7.holds Tryd.pinned (.plain (OpenSpec.upto coreComparesSpec)) coreComparesUptoCard

/-- THE SECOND FORM's CARD OF 'palinglaw14.CoreTells'. -/
def coreTellsUptoCard : Claim7 := { stood := { row := coreTellsUptoRow, standIns := [], harness := (true, "795d8d4e4142a25e5c9b8948e5273008fd9e6e99b15cad91b88e9f7dcdd697eb"), looks := true }, kinds := [], alts := [], laidByText := true, laidKinds := [.data, .pinned], laidTests := true, laidLooks := .later }
def CoreTellsUptoCardSaid : Prop := Claim7.holds Tryd.pinned (.plain (OpenSpec.upto coreTellsSpec)) coreTellsUptoCard

/-- THE SECOND FORM's CARD OF 'palinglaw14.CoreEach'. -/
def coreEachUptoCard : Claim7 := { stood := { row := coreEachUptoRow, standIns := [], harness := (true, "795d8d4e4142a25e5c9b8948e5273008fd9e6e99b15cad91b88e9f7dcdd697eb"), looks := true }, kinds := [], alts := [], laidByText := true, laidKinds := [.data, .pinned], laidTests := true, laidLooks := .later }
def CoreEachUptoCardSaid : Prop := Claim7.holds Tryd.pinned (.plain (OpenSpec.upto coreEachSpec)) coreEachUptoCard

/-- THE SECOND FORM's CARD OF 'palinglaw14.CoreTwo'. -/
def coreTwoUptoCard : Claim7 := { stood := { row := coreTwoUptoRow, standIns := [], harness := (true, "795d8d4e4142a25e5c9b8948e5273008fd9e6e99b15cad91b88e9f7dcdd697eb"), looks := true }, kinds := [], alts := [], laidByText := true, laidKinds := [.data, .pinned], laidTests := true, laidLooks := .later }
def CoreTwoUptoCardSaid : Prop := Claim7.holds Tryd.pinned (.plain (OpenSpec.upto coreTwoSpec)) coreTwoUptoCard

/-- THE SECOND FORM's CARD OF 'palinglaw14.CoreNil'. -/
def coreNilUptoCard : Claim7 := { stood := { row := coreNilUptoRow, standIns := [], harness := (true, "795d8d4e4142a25e5c9b8948e5273008fd9e6e99b15cad91b88e9f7dcdd697eb"), looks := true }, kinds := [], alts := [], laidByText := true, laidKinds := [.data, .pinned], laidTests := true, laidLooks := .later }
def CoreNilUptoCardSaid : Prop := Claim7.holds Tryd.pinned (.plain (OpenSpec.upto coreNilSpec)) coreNilUptoCard
end Rows
end Go.Proofs.YtlmgfhonaegnlaaDoor
