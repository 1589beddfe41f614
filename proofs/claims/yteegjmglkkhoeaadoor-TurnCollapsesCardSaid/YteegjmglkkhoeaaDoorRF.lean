/-
  The program's functions: their numbers, and their forms, which 'compN' gives.
-/
import Derived.Test.YteegjmglkkhoeaaDoorRF1
import Derived.Test.YteegjmglkkhoeaaDoorRF2
import Derived.Test.YteegjmglkkhoeaaDoorRF3
set_option linter.all false
set_option linter.unusedSimpArgs false
set_option linter.unusedVariables false
set_option linter.unnecessarySimpa false
namespace Go.Proofs.YteegjmglkkhoeaaDoor
end Go.Proofs.YteegjmglkkhoeaaDoor
