/-
  The program's functions: their numbers, and their forms, which 'compN' gives.
-/
import Derived.Test.YteegjmglkkhoeaaDoorVI
import Derived.Test.YteegjmglkkhoeaaDoorProg
import Derived.KernelRfl
set_option linter.all false
set_option linter.unusedSimpArgs false
set_option linter.unusedVariables false
set_option linter.unnecessarySimpa false
namespace Go.Proofs.YteegjmglkkhoeaaDoor
open Go Go.Proofs.YteegjmglkkhoeaaDoor.V Go.Proofs

noncomputable abbrev prog : Program := Tryd.prog
theorem mixedOk : prog.follows .mixedOrders = true := by kernel_rfl
noncomputable abbrev f_utf8_DecodeRuneInString : Func := Tryd.f70
end Go.Proofs.YteegjmglkkhoeaaDoor
