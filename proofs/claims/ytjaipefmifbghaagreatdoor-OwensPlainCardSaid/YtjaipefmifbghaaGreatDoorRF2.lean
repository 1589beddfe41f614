/-
  The program's functions: their numbers, and their forms, which 'compN' gives.
-/
import Derived.Test.YtjaipefmifbghaaGreatDoorRF0
set_option linter.all false
set_option linter.unusedSimpArgs false
set_option linter.unusedVariables false
set_option linter.unnecessarySimpa false
namespace Go.Proofs.YtjaipefmifbghaaGreatDoor
open Go Go.Proofs.YtjaipefmifbghaaGreatDoor.V Go.Proofs
set_option maxRecDepth 1000000
set_option maxHeartbeats 4000000
noncomputable def F13 : CF prog 13 := ⟨_, by with_unfolding_all rfl, by kernel_rfl⟩
noncomputable def F8 : CF prog 8 := ⟨_, by with_unfolding_all rfl, by kernel_rfl⟩
noncomputable def F56 : CF prog 56 := ⟨_, by with_unfolding_all rfl, by kernel_rfl⟩
noncomputable def F127 : CF prog 127 := ⟨_, by with_unfolding_all rfl, by kernel_rfl⟩
noncomputable def F79 : CF prog 79 := ⟨_, by with_unfolding_all rfl, by kernel_rfl⟩
noncomputable def F77 : CF prog 77 := ⟨_, by with_unfolding_all rfl, by kernel_rfl⟩
noncomputable def F97 : CF prog 97 := ⟨_, by with_unfolding_all rfl, by kernel_rfl⟩
noncomputable def F80 : CF prog 80 := ⟨_, by with_unfolding_all rfl, by kernel_rfl⟩
noncomputable def F52 : CF prog 52 := ⟨_, by with_unfolding_all rfl, by kernel_rfl⟩
noncomputable def F88 : CF prog 88 := ⟨_, by with_unfolding_all rfl, by kernel_rfl⟩
noncomputable def F6 : CF prog 6 := ⟨_, by with_unfolding_all rfl, by kernel_rfl⟩
noncomputable def F63 : CF prog 63 := ⟨_, by with_unfolding_all rfl, by kernel_rfl⟩
noncomputable def F107 : CF prog 107 := ⟨_, by with_unfolding_all rfl, by kernel_rfl⟩
noncomputable def F65 : CF prog 65 := ⟨_, by with_unfolding_all rfl, by kernel_rfl⟩
noncomputable def F19 : CF prog 19 := ⟨_, by with_unfolding_all rfl, by kernel_rfl⟩
noncomputable def F15 : CF prog 15 := ⟨_, by with_unfolding_all rfl, by kernel_rfl⟩
noncomputable def F51 : CF prog 51 := ⟨_, by with_unfolding_all rfl, by kernel_rfl⟩
noncomputable def F98 : CF prog 98 := ⟨_, by with_unfolding_all rfl, by kernel_rfl⟩
noncomputable def F27 : CF prog 27 := ⟨_, by with_unfolding_all rfl, by kernel_rfl⟩
noncomputable def F76 : CF prog 76 := ⟨_, by with_unfolding_all rfl, by kernel_rfl⟩
noncomputable def F9 : CF prog 9 := ⟨_, by with_unfolding_all rfl, by kernel_rfl⟩
noncomputable def F26 : CF prog 26 := ⟨_, by with_unfolding_all rfl, by kernel_rfl⟩
noncomputable def F89 : CF prog 89 := ⟨_, by with_unfolding_all rfl, by kernel_rfl⟩
noncomputable def F102 : CF prog 102 := ⟨_, by with_unfolding_all rfl, by kernel_rfl⟩
noncomputable def F37 : CF prog 37 := ⟨_, by with_unfolding_all rfl, by kernel_rfl⟩
noncomputable def F94 : CF prog 94 := ⟨_, by with_unfolding_all rfl, by kernel_rfl⟩
noncomputable def F74 : CF prog 74 := ⟨_, by with_unfolding_all rfl, by kernel_rfl⟩
noncomputable def F109 : CF prog 109 := ⟨_, by with_unfolding_all rfl, by kernel_rfl⟩
noncomputable def F116 : CF prog 116 := ⟨_, by with_unfolding_all rfl, by kernel_rfl⟩
noncomputable def F119 : CF prog 119 := ⟨_, by with_unfolding_all rfl, by kernel_rfl⟩
noncomputable def F54 : CF prog 54 := ⟨_, by with_unfolding_all rfl, by kernel_rfl⟩
noncomputable def F129 : CF prog 129 := ⟨_, by with_unfolding_all rfl, by kernel_rfl⟩
noncomputable def F57 : CF prog 57 := ⟨_, by with_unfolding_all rfl, by kernel_rfl⟩
noncomputable def F22 : CF prog 22 := ⟨_, by with_unfolding_all rfl, by kernel_rfl⟩
noncomputable def F133 : CF prog 133 := ⟨_, by with_unfolding_all rfl, by kernel_rfl⟩
noncomputable def F86 : CF prog 86 := ⟨_, by with_unfolding_all rfl, by kernel_rfl⟩
noncomputable def F108 : CF prog 108 := ⟨_, by with_unfolding_all rfl, by kernel_rfl⟩
noncomputable def F61 : CF prog 61 := ⟨_, by with_unfolding_all rfl, by kernel_rfl⟩
noncomputable def F31 : CF prog 31 := ⟨_, by with_unfolding_all rfl, by kernel_rfl⟩
noncomputable def F104 : CF prog 104 := ⟨_, by with_unfolding_all rfl, by kernel_rfl⟩
noncomputable def F84 : CF prog 84 := ⟨_, by with_unfolding_all rfl, by kernel_rfl⟩
noncomputable def F111 : CF prog 111 := ⟨_, by with_unfolding_all rfl, by kernel_rfl⟩
noncomputable def F91 : CF prog 91 := ⟨_, by with_unfolding_all rfl, by kernel_rfl⟩
noncomputable def F95 : CF prog 95 := ⟨_, by with_unfolding_all rfl, by kernel_rfl⟩
noncomputable def F136 : CF prog 136 := ⟨_, by with_unfolding_all rfl, by kernel_rfl⟩
end Go.Proofs.YtjaipefmifbghaaGreatDoor
