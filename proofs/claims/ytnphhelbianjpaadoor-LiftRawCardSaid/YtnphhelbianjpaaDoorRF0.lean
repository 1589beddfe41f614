/-
  The program's functions: their numbers, and their forms, which 'compN' gives.
-/
import Derived.Test.YtnphhelbianjpaaDoorVI
import Derived.Test.YtnphhelbianjpaaDoorProg
import Derived.KernelRfl
set_option linter.all false
set_option linter.unusedSimpArgs false
set_option linter.unusedVariables false
set_option linter.unnecessarySimpa false
namespace Go.Proofs.YtnphhelbianjpaaDoor
open Go Go.Proofs.YtnphhelbianjpaaDoor.V Go.Proofs

noncomputable abbrev prog : Program := Tryd.prog
theorem mixedOk : prog.follows .mixedOrders = true := by kernel_rfl
noncomputable abbrev f_utf8_DecodeRuneInString : Func := Tryd.f84
end Go.Proofs.YtnphhelbianjpaaDoor
