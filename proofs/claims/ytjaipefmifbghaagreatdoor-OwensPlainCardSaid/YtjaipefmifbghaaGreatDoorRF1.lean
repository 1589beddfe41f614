/-
  The program's functions: their numbers, and their forms, which 'compN' gives.
-/
import Derived.Test.YtjaipefmifbghaaGreatDoorRF0
set_option linter.all false
set_option linter.unusedSimpArgs false
set_option linter.unusedVariables false
set_option linter.unnecessarySimpa false
namespace Go.Proofs.YtjaipefmifbghaaGreatDoor
open Go Go.Proofs.YtjaipefmifbghaaGreatDoor.V Go.Proofs
set_option maxRecDepth 1000000
set_option maxHeartbeats 4000000
noncomputable def F30 : CF prog 30 := ⟨_, by with_unfolding_all rfl, by kernel_rfl⟩
noncomputable def F5 : CF prog 5 := ⟨_, by with_unfolding_all rfl, by kernel_rfl⟩
noncomputable def F99 : CF prog 99 := ⟨_, by with_unfolding_all rfl, by kernel_rfl⟩
noncomputable def F4 : CF prog 4 := ⟨_, by with_unfolding_all rfl, by kernel_rfl⟩
noncomputable def F75 : CF prog 75 := ⟨_, by with_unfolding_all rfl, by kernel_rfl⟩
noncomputable def F72 : CF prog 72 := ⟨_, by with_unfolding_all rfl, by kernel_rfl⟩
noncomputable def F40 : CF prog 40 := ⟨_, by with_unfolding_all rfl, by kernel_rfl⟩
noncomputable def F12 : CF prog 12 := ⟨_, by with_unfolding_all rfl, by kernel_rfl⟩
noncomputable def F44 : CF prog 44 := ⟨_, by with_unfolding_all rfl, by kernel_rfl⟩
noncomputable def F105 : CF prog 105 := ⟨_, by with_unfolding_all rfl, by kernel_rfl⟩
noncomputable def F78 : CF prog 78 := ⟨_, by with_unfolding_all rfl, by kernel_rfl⟩
noncomputable def F85 : CF prog 85 := ⟨_, by with_unfolding_all rfl, by kernel_rfl⟩
noncomputable def F121 : CF prog 121 := ⟨_, by with_unfolding_all rfl, by kernel_rfl⟩
noncomputable def F137 : CF prog 137 := ⟨_, by with_unfolding_all rfl, by kernel_rfl⟩
noncomputable def F112 : CF prog 112 := ⟨_, by with_unfolding_all rfl, by kernel_rfl⟩
noncomputable def F55 : CF prog 55 := ⟨_, by with_unfolding_all rfl, by kernel_rfl⟩
noncomputable def F126 : CF prog 126 := ⟨_, by with_unfolding_all rfl, by kernel_rfl⟩
noncomputable def F28 : CF prog 28 := ⟨_, by with_unfolding_all rfl, by kernel_rfl⟩
noncomputable def F67 : CF prog 67 := ⟨_, by with_unfolding_all rfl, by kernel_rfl⟩
noncomputable def F118 : CF prog 118 := ⟨_, by with_unfolding_all rfl, by kernel_rfl⟩
noncomputable def F62 : CF prog 62 := ⟨_, by with_unfolding_all rfl, by kernel_rfl⟩
noncomputable def F123 : CF prog 123 := ⟨_, by with_unfolding_all rfl, by kernel_rfl⟩
noncomputable def F71 : CF prog 71 := ⟨_, by with_unfolding_all rfl, by kernel_rfl⟩
noncomputable def F66 : CF prog 66 := ⟨_, by with_unfolding_all rfl, by kernel_rfl⟩
noncomputable def F87 : CF prog 87 := ⟨_, by with_unfolding_all rfl, by kernel_rfl⟩
noncomputable def F83 : CF prog 83 := ⟨_, by with_unfolding_all rfl, by kernel_rfl⟩
noncomputable def F115 : CF prog 115 := ⟨_, by with_unfolding_all rfl, by kernel_rfl⟩
noncomputable def F132 : CF prog 132 := ⟨_, by with_unfolding_all rfl, by kernel_rfl⟩
noncomputable def F17 : CF prog 17 := ⟨_, by with_unfolding_all rfl, by kernel_rfl⟩
noncomputable def F46 : CF prog 46 := ⟨_, by with_unfolding_all rfl, by kernel_rfl⟩
noncomputable def F92 : CF prog 92 := ⟨_, by with_unfolding_all rfl, by kernel_rfl⟩
noncomputable def F10 : CF prog 10 := ⟨_, by with_unfolding_all rfl, by kernel_rfl⟩
noncomputable def F125 : CF prog 125 := ⟨_, by with_unfolding_all rfl, by kernel_rfl⟩
noncomputable def F29 : CF prog 29 := ⟨_, by with_unfolding_all rfl, by kernel_rfl⟩
noncomputable def F93 : CF prog 93 := ⟨_, by with_unfolding_all rfl, by kernel_rfl⟩
noncomputable def F134 : CF prog 134 := ⟨_, by with_unfolding_all rfl, by kernel_rfl⟩
noncomputable def F33 : CF prog 33 := ⟨_, by with_unfolding_all rfl, by kernel_rfl⟩
noncomputable def F100 : CF prog 100 := ⟨_, by with_unfolding_all rfl, by kernel_rfl⟩
noncomputable def F124 : CF prog 124 := ⟨_, by with_unfolding_all rfl, by kernel_rfl⟩
noncomputable def F73 : CF prog 73 := ⟨_, by with_unfolding_all rfl, by kernel_rfl⟩
noncomputable def F60 : CF prog 60 := ⟨_, by with_unfolding_all rfl, by kernel_rfl⟩
noncomputable def F114 : CF prog 114 := ⟨_, by with_unfolding_all rfl, by kernel_rfl⟩
noncomputable def F106 : CF prog 106 := ⟨_, by with_unfolding_all rfl, by kernel_rfl⟩
noncomputable def F34 : CF prog 34 := ⟨_, by with_unfolding_all rfl, by kernel_rfl⟩
end Go.Proofs.YtjaipefmifbghaaGreatDoor
