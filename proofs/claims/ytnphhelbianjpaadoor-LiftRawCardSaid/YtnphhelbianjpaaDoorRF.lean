/-
  The program's functions: their numbers, and their forms, which 'compN' gives.
-/
import Derived.Test.YtnphhelbianjpaaDoorRF1
import Derived.Test.YtnphhelbianjpaaDoorRF2
import Derived.Test.YtnphhelbianjpaaDoorRF3
set_option linter.all false
set_option linter.unusedSimpArgs false
set_option linter.unusedVariables false
set_option linter.unnecessarySimpa false
namespace Go.Proofs.YtnphhelbianjpaaDoor
end Go.Proofs.YtnphhelbianjpaaDoor
