/-
  The program's functions: their numbers, and their forms, which 'compN' gives.
-/
import Derived.Test.YtpeifhiphfpajaaGreatDoorRF1
import Derived.Test.YtpeifhiphfpajaaGreatDoorRF2
import Derived.Test.YtpeifhiphfpajaaGreatDoorRF3
set_option linter.all false
set_option linter.unusedSimpArgs false
set_option linter.unusedVariables false
set_option linter.unnecessarySimpa false
namespace Go.Proofs.YtpeifhiphfpajaaGreatDoor
end Go.Proofs.YtpeifhiphfpajaaGreatDoor
