/-
  The program's functions: their numbers, and their forms, which 'compN' gives.
-/
import Derived.Test.YtnphhelbianjpaaGreatDoorRF1
import Derived.Test.YtnphhelbianjpaaGreatDoorRF2
import Derived.Test.YtnphhelbianjpaaGreatDoorRF3
set_option linter.all false
set_option linter.unusedSimpArgs false
set_option linter.unusedVariables false
set_option linter.unnecessarySimpa false
namespace Go.Proofs.YtnphhelbianjpaaGreatDoor
end Go.Proofs.YtnphhelbianjpaaGreatDoor
