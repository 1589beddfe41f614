/-
  The program's functions: their numbers, and their forms, which 'compN' gives.
-/
import Derived.Test.YtpeifhiphfpajaaDoorVI
import Derived.Test.YtpeifhiphfpajaaDoorProg
import Derived.KernelRfl
set_option linter.all false
set_option linter.unusedSimpArgs false
set_option linter.unusedVariables false
set_option linter.unnecessarySimpa false
namespace Go.Proofs.YtpeifhiphfpajaaDoor
open Go Go.Proofs.YtpeifhiphfpajaaDoor.V Go.Proofs

noncomputable abbrev prog : Program := Tryd.prog
theorem mixedOk : prog.follows .mixedOrders = true := by kernel_rfl
noncomputable abbrev f_utf8_DecodeRuneInString : Func := Tryd.f61
end Go.Proofs.YtpeifhiphfpajaaDoor
