/-
  DERIVED. GIVEN WITH THE SEED: THE CARDS: each row of YtcmedbbikpdgmaaDoorRows.lean that lists a variable, with what it lists TIED to the program's text (the seventh form; the later family's looks); each row that meets fmt, with fmt's text TOLD by the authors' own Lean function (tested against real Go, not proved from fmt's source: count such statements apart). THE CARD IS WHAT COUNTS. Prove the row's statement (the work); the ties are given (YtcmedbbikpdgmaaDoorTie.lean); close each card by the builder's one call (the guide's Derived/Test/ToyasCard.lean, 'card_holds'). Laid BY PROGRAM, IN A SANDBOX (cutbox-door.mjs). By AI agents, Wed Nov 11 2026. No macro, syntax, notation, axiom, sorry.
-/
import Derived.Test.YtcmedbbikpdgmaaDoorRows
import GoSem.ClaimSeven
namespace Go.Proofs.YtcmedbbikpdgmaaDoor
namespace Rows

/-- THE TIED CARD OF 'palinglaw3.GlyphTells'. -/
def glyphTellsCard : Claim7 := { stood := { row := glyphTellsRow, standIns := [], harness := (true, "5ec28cc9dbae3206765bd3c45368b610ff9ab54c8fc9d008a65f33f97d14689f"), looks := false }, kinds := [], alts := [], laidByText := true, laidKinds := [.data, .pinned], laidTests := true, laidLooks := .later }
def GlyphTellsCardSaid : Prop := Claim7.holds Tryd.pinned (.plain (OpenSpec.ofChange glyphTellsSpec)) glyphTellsCard

/-- THE TIED CARD OF 'palinglaw3.GlyphCovers'. -/
def glyphCoversCard : Claim7 := { stood := { row := glyphCoversRow, standIns := [], harness := (true, "5ec28cc9dbae3206765bd3c45368b610ff9ab54c8fc9d008a65f33f97d14689f"), looks := false }, kinds := [], alts := [], laidByText := true, laidKinds := [.data, .pinned], laidTests := true, laidLooks := .later }
def GlyphCoversCardSaid : Prop := Claim7.holds Tryd.pinned (.plain (OpenSpec.ofChange glyphCoversSpec)) glyphCoversCard

/-- THE TIED CARD OF 'palinglaw3.GlyphLines'. -/
def glyphLinesCard : Claim7 := { stood := { row := glyphLinesRow, standIns := [], harness := (true, "5ec28cc9dbae3206765bd3c45368b610ff9ab54c8fc9d008a65f33f97d14689f"), looks := false }, kinds := [], alts := [], laidByText := true, laidKinds := [.data, .pinned], laidTests := true, laidLooks := .later }
def GlyphLinesCardSaid : Prop := Claim7.holds Tryd.pinned (.plain (OpenSpec.ofChange glyphLinesSpec)) glyphLinesCard

/-- THE TIED CARD OF 'palinglaw3.GlyphOrder'. -/
def glyphOrderCard : Claim7 := { stood := { row := glyphOrderRow, standIns := [], harness := (true, "5ec28cc9dbae3206765bd3c45368b610ff9ab54c8fc9d008a65f33f97d14689f"), looks := false }, kinds := [], alts := [], laidByText := true, laidKinds := [.data, .pinned], laidTests := true, laidLooks := .later }
def GlyphOrderCardSaid : Prop := Claim7.holds Tryd.pinned (.plain (OpenSpec.ofChange glyphOrderSpec)) glyphOrderCard

/-- THE TIED CARD OF 'palinglaw3.GlyphClasses'. -/
def glyphClassesCard : Claim7 := { stood := { row := glyphClassesRow, standIns := [], harness := (true, "5ec28cc9dbae3206765bd3c45368b610ff9ab54c8fc9d008a65f33f97d14689f"), looks := false }, kinds := [], alts := [], laidByText := true, laidKinds := [.data, .pinned], laidTests := true, laidLooks := .later }
def GlyphClassesCardSaid : Prop := Claim7.holds Tryd.pinned (.plain (OpenSpec.ofChange glyphClassesSpec)) glyphClassesCard

/-- THE SECOND FORM's CARD OF 'palinglaw3.GlyphTells'. -/
def glyphTellsUptoCard : Claim7 := { stood := { row := glyphTellsUptoRow, standIns := [], harness := (true, "5ec28cc9dbae3206765bd3c45368b610ff9ab54c8fc9d008a65f33f97d14689f"), looks := false }, kinds := [], alts := [], laidByText := true, laidKinds := [.data, .pinned], laidTests := true, laidLooks := .later }
def GlyphTellsUptoCardSaid : Prop := Claim7.holds Tryd.pinned (.plain (OpenSpec.upto glyphTellsSpec)) glyphTellsUptoCard

/-- THE SECOND FORM's CARD OF 'palinglaw3.GlyphCovers'. -/
def glyphCoversUptoCard : Claim7 := { stood := { row := glyphCoversUptoRow, standIns := [], harness := (true, "5ec28cc9dbae3206765bd3c45368b610ff9ab54c8fc9d008a65f33f97d14689f"), looks := false }, kinds := [], alts := [], laidByText := true, laidKinds := [.data, .pinned], laidTests := true, laidLooks := .later }
def GlyphCoversUptoCardSaid : Prop := Claim7.holds Tryd.pinned (.plain (OpenSpec.upto glyphCoversSpec)) glyphCoversUptoCard

/-- THE SECOND FORM's CARD OF 'palinglaw3.GlyphLines'. -/
def glyphLinesUptoCard : Claim7 := { stood := { row := glyphLinesUptoRow, standIns := [], harness := (true, "5ec28cc9dbae3206765bd3c45368b610ff9ab54c8fc9d008a65f33f97d14689f"), looks := false }, kinds := [], alts := [], laidByText := true, laidKinds := [.data, .pinned], laidTests := true, laidLooks := .later }
def GlyphLinesUptoCardSaid : Prop := Claim7.holds Tryd.pinned (.plain (OpenSpec.upto glyphLinesSpec)) glyphLinesUptoCard

/-- THE SECOND FORM's CARD OF 'palinglaw3.GlyphOrder'. -/
def glyphOrderUptoCard : Claim7 := { stood := { row := glyphOrderUptoRow, standIns := [], harness := (true, "5ec28cc9dbae3206765bd3c45368b610ff9ab54c8fc9d008a65f33f97d14689f"), looks := false }, kinds := [], alts := [], laidByText := true, laidKinds := [.data, .pinned], laidTests := true, laidLooks := .later }
def GlyphOrderUptoCardSaid : Prop := Claim7.holds Tryd.pinned (.plain (OpenSpec.upto glyphOrderSpec)) glyphOrderUptoCard

/-- THE SECOND FORM's CARD OF 'palinglaw3.GlyphClasses'. -/
def glyphClassesUptoCard : Claim7 := { stood := { row := glyphClassesUptoRow, standIns := [], harness := (true, "5ec28cc9dbae3206765bd3c45368b610ff9ab54c8fc9d008a65f33f97d14689f"), looks := false }, kinds := [], alts := [], laidByText := true, laidKinds := [.data, .pinned], laidTests := true, laidLooks := .later }
def GlyphClassesUptoCardSaid : Prop := Claim7.holds Tryd.pinned (.plain (OpenSpec.upto glyphClassesSpec)) glyphClassesUptoCard
end Rows
end Go.Proofs.YtcmedbbikpdgmaaDoor
