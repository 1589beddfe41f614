/-
  The program's functions: their numbers, and their forms, which 'compN' gives.
-/
import Derived.Test.YtjaipefmifbghaaGreatDoorRF1
import Derived.Test.YtjaipefmifbghaaGreatDoorRF2
import Derived.Test.YtjaipefmifbghaaGreatDoorRF3
set_option linter.all false
set_option linter.unusedSimpArgs false
set_option linter.unusedVariables false
set_option linter.unnecessarySimpa false
namespace Go.Proofs.YtjaipefmifbghaaGreatDoor
end Go.Proofs.YtjaipefmifbghaaGreatDoor
