/-
  The program's functions: their numbers, and their forms, which 'compN' gives.
-/
import Derived.Test.YteegjmglkkhoeaaGreatDoorRF1
import Derived.Test.YteegjmglkkhoeaaGreatDoorRF2
import Derived.Test.YteegjmglkkhoeaaGreatDoorRF3
set_option linter.all false
set_option linter.unusedSimpArgs false
set_option linter.unusedVariables false
set_option linter.unnecessarySimpa false
namespace Go.Proofs.YteegjmglkkhoeaaGreatDoor
end Go.Proofs.YteegjmglkkhoeaaGreatDoor
