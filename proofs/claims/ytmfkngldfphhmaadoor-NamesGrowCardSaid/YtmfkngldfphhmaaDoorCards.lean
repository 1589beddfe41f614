/-
  DERIVED. GIVEN WITH THE SEED: THE CARDS: each row of YtmfkngldfphhmaaDoorRows.lean that lists a variable, with what it lists TIED to the program's text (the seventh form; the later family's looks); each row that meets fmt, with fmt's text TOLD by the authors' own Lean function (tested against real Go, not proved from fmt's source: count such statements apart). THE CARD IS WHAT COUNTS. Prove the row's statement (the work); the ties are given (YtmfkngldfphhmaaDoorTie.lean); close each card by the builder's one call (the guide's Derived/Test/ToyasCard.lean, 'card_holds'). Laid BY PROGRAM, IN A SANDBOX (cutbox-door.mjs). By AI agents, Wed Nov 11 2026. No macro, syntax, notation, axiom, sorry.
-/
import Derived.Test.YtmfkngldfphhmaaDoorRows
import GoSem.ClaimSeven
namespace Go.Proofs.YtmfkngldfphhmaaDoor
namespace Rows

/-- THE TIED CARD OF 'palinglaw4.NamesTell'. -/
def namesTellCard : Claim7 := { stood := { row := namesTellRow, standIns := [], harness := (true, "a9ddf95167f25c9cce8c8213e276f90daea5b6014fc5884ce24bb3b910b732df"), looks := false }, kinds := [], alts := [], laidByText := true, laidKinds := [.data, .pinned], laidTests := true, laidLooks := .later }
def NamesTellCardSaid : Prop := Claim7.holds Tryd.pinned (.plain (OpenSpec.ofChange namesTellSpec)) namesTellCard

/-- THE TIED CARD OF 'palinglaw4.NamesGrow'. -/
def namesGrowCard : Claim7 := { stood := { row := namesGrowRow, standIns := [], harness := (true, "a9ddf95167f25c9cce8c8213e276f90daea5b6014fc5884ce24bb3b910b732df"), looks := false }, kinds := [], alts := [], laidByText := true, laidKinds := [.data, .pinned], laidTests := true, laidLooks := .later }
def NamesGrowCardSaid : Prop := Claim7.holds Tryd.pinned (.plain (OpenSpec.ofChange namesGrowSpec)) namesGrowCard

/-- THE TIED CARD OF 'palinglaw4.NamesLong'. -/
def namesLongCard : Claim7 := { stood := { row := namesLongRow, standIns := [], harness := (true, "a9ddf95167f25c9cce8c8213e276f90daea5b6014fc5884ce24bb3b910b732df"), looks := false }, kinds := [], alts := [], laidByText := true, laidKinds := [.data, .pinned], laidTests := true, laidLooks := .later }
def NamesLongCardSaid : Prop := Claim7.holds Tryd.pinned (.plain (OpenSpec.ofChange namesLongSpec)) namesLongCard

/-- THE TIED CARD OF 'palinglaw4.NamesTexts'. -/
def namesTextsCard : Claim7 := { stood := { row := namesTextsRow, standIns := [], harness := (true, "a9ddf95167f25c9cce8c8213e276f90daea5b6014fc5884ce24bb3b910b732df"), looks := false }, kinds := [], alts := [], laidByText := true, laidKinds := [.data, .pinned], laidTests := true, laidLooks := .later }
def NamesTextsCardSaid : Prop := Claim7.holds Tryd.pinned (.plain (OpenSpec.ofChange namesTextsSpec)) namesTextsCard

/-- THE TIED CARD OF 'palinglaw4.NamesBack'. -/
def namesBackCard : Claim7 := { stood := { row := namesBackRow, standIns := [], harness := (true, "a9ddf95167f25c9cce8c8213e276f90daea5b6014fc5884ce24bb3b910b732df"), looks := false }, kinds := [], alts := [], laidByText := true, laidKinds := [.data, .pinned], laidTests := true, laidLooks := .later }
def NamesBackCardSaid : Prop := Claim7.holds Tryd.pinned (.plain (OpenSpec.ofChange namesBackSpec)) namesBackCard

/-- THE SECOND FORM's CARD OF 'palinglaw4.NamesTell'. -/
def namesTellUptoCard : Claim7 := { stood := { row := namesTellUptoRow, standIns := [], harness := (true, "a9ddf95167f25c9cce8c8213e276f90daea5b6014fc5884ce24bb3b910b732df"), looks := false }, kinds := [], alts := [], laidByText := true, laidKinds := [.data, .pinned], laidTests := true, laidLooks := .later }
def NamesTellUptoCardSaid : Prop := Claim7.holds Tryd.pinned (.plain (OpenSpec.upto namesTellSpec)) namesTellUptoCard

/-- THE SECOND FORM's CARD OF 'palinglaw4.NamesGrow'. -/
def namesGrowUptoCard : Claim7 := { stood := { row := namesGrowUptoRow, standIns := [], harness := (true, "a9ddf95167f25c9cce8c8213e276f90daea5b6014fc5884ce24bb3b910b732df"), looks := false }, kinds := [], alts := [], laidByText := true, laidKinds := [.data, .pinned], laidTests := true, laidLooks := .later }
def NamesGrowUptoCardSaid : Prop := Claim7.holds Tryd.pinned (.plain (OpenSpec.upto namesGrowSpec)) namesGrowUptoCard

/-- THE SECOND FORM's CARD OF 'palinglaw4.NamesLong'. -/
def namesLongUptoCard : Claim7 := { stood := { row := namesLongUptoRow, standIns := [], harness := (true, "a9ddf95167f25c9cce8c8213e276f90daea5b6014fc5884ce24bb3b910b732df"), looks := false }, kinds := [], alts := [], laidByText := true, laidKinds := [.data, .pinned], laidTests := true, laidLooks := .later }
def NamesLongUptoCardSaid : Prop := Claim7.holds Tryd.pinned (.plain (OpenSpec.upto namesLongSpec)) namesLongUptoCard

/-- THE SECOND FORM's CARD OF 'palinglaw4.NamesTexts'. -/
def namesTextsUptoCard : Claim7 := { stood := { row := namesTextsUptoRow, standIns := [], harness := (true, "a9ddf95167f25c9cce8c8213e276f90daea5b6014fc5884ce24bb3b910b732df"), looks := false }, kinds := [], alts := [], laidByText := true, laidKinds := [.data, .pinned], laidTests := true, laidLooks := .later }
def NamesTextsUptoCardSaid : Prop := Claim7.holds Tryd.pinned (.plain (OpenSpec.upto namesTextsSpec)) namesTextsUptoCard

/-- THE SECOND FORM's CARD OF 'palinglaw4.NamesBack'. -/
def namesBackUptoCard : Claim7 := { stood := { row := namesBackUptoRow, standIns := [], harness := (true, "a9ddf95167f25c9cce8c8213e276f90daea5b6014fc5884ce24bb3b910b732df"), looks := false }, kinds := [], alts := [], laidByText := true, laidKinds := [.data, .pinned], laidTests := true, laidLooks := .later }
def NamesBackUptoCardSaid : Prop := Claim7.holds Tryd.pinned (.plain (OpenSpec.upto namesBackSpec)) namesBackUptoCard
end Rows
end Go.Proofs.YtmfkngldfphhmaaDoor
