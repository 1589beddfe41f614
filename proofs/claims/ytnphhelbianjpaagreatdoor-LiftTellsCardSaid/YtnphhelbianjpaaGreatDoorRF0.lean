/-
  The program's functions: their numbers, and their forms, which 'compN' gives.
-/
import Derived.Test.YtnphhelbianjpaaGreatDoorVI
import Derived.Test.YtnphhelbianjpaaGreatDoorProg
import Derived.KernelRfl
set_option linter.all false
set_option linter.unusedSimpArgs false
set_option linter.unusedVariables false
set_option linter.unnecessarySimpa false
namespace Go.Proofs.YtnphhelbianjpaaGreatDoor
open Go Go.Proofs.YtnphhelbianjpaaGreatDoor.V Go.Proofs

noncomputable abbrev prog : Program := Tryz.prog
theorem mixedOk : prog.follows .mixedOrders = true := by kernel_rfl
noncomputable abbrev f_utf8_DecodeRuneInString : Func := Tryz.f141
end Go.Proofs.YtnphhelbianjpaaGreatDoor
