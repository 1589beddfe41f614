/-
  The program's functions: their numbers, and their forms, which 'compN' gives.
-/
import Derived.Test.YtpeifhiphfpajaaGreatDoorVI
import Derived.Test.YtpeifhiphfpajaaGreatDoorProg
import Derived.KernelRfl
set_option linter.all false
set_option linter.unusedSimpArgs false
set_option linter.unusedVariables false
set_option linter.unnecessarySimpa false
namespace Go.Proofs.YtpeifhiphfpajaaGreatDoor
open Go Go.Proofs.YtpeifhiphfpajaaGreatDoor.V Go.Proofs

noncomputable abbrev prog : Program := Tryz.prog
theorem mixedOk : prog.follows .mixedOrders = true := by kernel_rfl
noncomputable abbrev f_utf8_DecodeRuneInString : Func := Tryz.f110
end Go.Proofs.YtpeifhiphfpajaaGreatDoor
