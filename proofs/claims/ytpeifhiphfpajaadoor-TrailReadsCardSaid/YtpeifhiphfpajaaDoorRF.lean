/-
  The program's functions: their numbers, and their forms, which 'compN' gives.
-/
import Derived.Test.YtpeifhiphfpajaaDoorRF1
import Derived.Test.YtpeifhiphfpajaaDoorRF2
import Derived.Test.YtpeifhiphfpajaaDoorRF3
set_option linter.all false
set_option linter.unusedSimpArgs false
set_option linter.unusedVariables false
set_option linter.unnecessarySimpa false
namespace Go.Proofs.YtpeifhiphfpajaaDoor
end Go.Proofs.YtpeifhiphfpajaaDoor
