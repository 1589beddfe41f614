/-
  DERIVED. GIVEN WITH THE SEED: THE CARDS: each row of YtphcaohldmdglaaDoorRows.lean that lists a variable, with what it lists TIED to the program's text (the seventh form; the later family's looks); each row that meets fmt, with fmt's text TOLD by the authors' own Lean function (tested against real Go, not proved from fmt's source: count such statements apart). THE CARD IS WHAT COUNTS. Prove the row's statement (the work); the ties are given (YtphcaohldmdglaaDoorTie.lean); close each card by the builder's one call (the guide's Derived/Test/ToyasCard.lean, 'card_holds'). Laid BY PROGRAM, IN A SANDBOX (cutbox-door.mjs). By AI agents, Wed Nov 11 2026. No macro, syntax, notation, axiom, sorry.
-/
import Derived.Test.YtphcaohldmdglaaDoorRows
import GoSem.ClaimSeven
namespace Go.Proofs.YtphcaohldmdglaaDoor
namespace Rows

/-- THE TIED CARD OF 'palinglaw16.TsoOwn'. -/
def tsoOwnCard : Claim7 := { stood := { row := tsoOwnRow, standIns := [], harness := (true, "77d8081ab180b394ee6131ffd9a0eb00118ac5a686f2514976256b0a978e6c3c"), looks := true }, kinds := [], alts := [], laidByText := true, laidKinds := [.data, .pinned], laidTests := true, laidLooks := .later }
def TsoOwnCardSaid : Prop := Claim7.holds Tryd.pinned (.plain (OpenSpec.ofChange tsoOwnSpec)) tsoOwnCard

/-- THE TIED CARD OF 'palinglaw16.TsoFences'. -/
def tsoFencesCard : Claim7 := { stood := { row := tsoFencesRow, standIns := [], harness := (true, "77d8081ab180b394ee6131ffd9a0eb00118ac5a686f2514976256b0a978e6c3c"), looks := true }, kinds := [], alts := [], laidByText := true, laidKinds := [.data, .pinned], laidTests := true, laidLooks := .later }
def TsoFencesCardSaid : Prop := Claim7.holds Tryd.pinned (.plain (OpenSpec.ofChange tsoFencesSpec)) tsoFencesCard

/-- THE TIED CARD OF 'palinglaw16.TsoRuns'. -/
def tsoRunsCard : Claim7 := { stood := { row := tsoRunsRow, standIns := [], harness := (true, "77d8081ab180b394ee6131ffd9a0eb00118ac5a686f2514976256b0a978e6c3c"), looks := true }, kinds := [], alts := [], laidByText := true, laidKinds := [.data, .pinned], laidTests := true, laidLooks := .later }
def TsoRunsCardSaid : Prop := Claim7.holds Tryd.pinned (.plain (OpenSpec.ofChange tsoRunsSpec)) tsoRunsCard

/-- THE TIED CARD OF 'palinglaw16.TsoEager'. -/
def tsoEagerCard : Claim7 := { stood := { row := tsoEagerRow, standIns := [], harness := (true, "77d8081ab180b394ee6131ffd9a0eb00118ac5a686f2514976256b0a978e6c3c"), looks := true }, kinds := [], alts := [], laidByText := true, laidKinds := [.data, .pinned], laidTests := true, laidLooks := .later }
def TsoEagerCardSaid : Prop := Claim7.holds Tryd.pinned (.plain (OpenSpec.ofChange tsoEagerSpec)) tsoEagerCard

/-- THE TIED CARD OF 'palinglaw16.TsoAlone'. -/
def tsoAloneCard : Claim7 := { stood := { row := tsoAloneRow, standIns := [], harness := (true, "77d8081ab180b394ee6131ffd9a0eb00118ac5a686f2514976256b0a978e6c3c"), looks := true }, kinds := [], alts := [], laidByText := true, laidKinds := [.data, .pinned], laidTests := true, laidLooks := .later }
def TsoAloneCardSaid : Prop := Claim7.holds Tryd.pinned (.plain (OpenSpec.ofChange tsoAloneSpec)) tsoAloneCard

/-- THE SECOND FORM's CARD OF 'palinglaw16.TsoOwn'. -/
def tsoOwnUptoCard : Claim7 := { stood := { row := tsoOwnUptoRow, standIns := [], harness := (true, "77d8081ab180b394ee6131ffd9a0eb00118ac5a686f2514976256b0a978e6c3c"), looks := true }, kinds := [], alts := [], laidByText := true, laidKinds := [.data, .pinned], laidTests := true, laidLooks := .later }
def TsoOwnUptoCardSaid : Prop := Claim7.holds Tryd.pinned (.plain (OpenSpec.upto tsoOwnSpec)) tsoOwnUptoCard

/-- THE SECOND FORM's CARD OF 'palinglaw16.TsoFences'. -/
def tsoFencesUptoCard : Claim7 := { stood := { row := tsoFencesUptoRow, standIns := [], harness := (true, "77d8081ab180b394ee6131ffd9a0eb00118ac5a686f2514976256b0a978e6c3c"), looks := true }, kinds := [], alts := [], laidByText := true, laidKinds := [.data, .pinned], laidTests := true, laidLooks := .later }
def TsoFencesUptoCardSaid : Prop := Claim7.holds Tryd.pinned (.plain (OpenSpec.upto tsoFencesSpec)) tsoFencesUptoCard

/-- THE SECOND FORM's CARD OF 'palinglaw16.TsoRuns'. -/
def tsoRunsUptoCard : Claim7 := { stood := { row := tsoRunsUptoRow, standIns := [], harness := (true, "77d8081ab180b394ee6131ffd9a0eb00118ac5a686f2514976256b0a978e6c3c"), looks := true }, kinds := [], alts := [], laidByText := true, laidKinds := [.data, .pinned], laidTests := true, laidLooks := .later }
def TsoRunsUptoCardSaid : Prop := Claim7.holds Tryd.pinned (.plain (OpenSpec.upto tsoRunsSpec)) tsoRunsUptoCard

/-- THE SECOND FORM's CARD OF 'palinglaw16.TsoEager'. -/
def tsoEagerUptoCard : Claim7 := { stood := { row := tsoEagerUptoRow, standIns := [], harness := (true, "77d8081ab180b394ee6131ffd9a0eb00118ac5a686f2514976256b0a978e6c3c"), looks := true }, kinds := [], alts := [], laidByText := true, laidKinds := [.data, .pinned], laidTests := true, laidLooks := .later }
def TsoEagerUptoCardSaid : Prop := Claim7.holds Tryd.pinned (.plain (OpenSpec.upto tsoEagerSpec)) tsoEagerUptoCard

/-- THE SECOND FORM's CARD OF 'palinglaw16.TsoAlone'. -/
def tsoAloneUptoCard : Claim7 := { stood := { row := tsoAloneUptoRow, standIns := [], harness := (true, "77d8081ab180b394ee6131ffd9a0eb00118ac5a686f2514976256b0a978e6c3c"), looks := true }, kinds := [], alts := [], laidByText := true, laidKinds := [.data, .pinned], laidTests := true, laidLooks := .later }
def TsoAloneUptoCardSaid : Prop := Claim7.holds Tryd.pinned (.plain (OpenSpec.upto tsoAloneSpec)) tsoAloneUptoCard
end Rows
end Go.Proofs.YtphcaohldmdglaaDoor
