/-
  The program's functions: their numbers, and their forms, which 'compN' gives.
-/
import Derived.Test.YtjaipefmifbghaaGreatDoorRF0
set_option linter.all false
set_option linter.unusedSimpArgs false
set_option linter.unusedVariables false
set_option linter.unnecessarySimpa false
namespace Go.Proofs.YtjaipefmifbghaaGreatDoor
open Go Go.Proofs.YtjaipefmifbghaaGreatDoor.V Go.Proofs
set_option maxRecDepth 1000000
set_option maxHeartbeats 4000000
noncomputable def F81 : CF prog 81 := ⟨_, by with_unfolding_all rfl, by kernel_rfl⟩
noncomputable def F32 : CF prog 32 := ⟨_, by with_unfolding_all rfl, by kernel_rfl⟩
noncomputable def F59 : CF prog 59 := ⟨_, by with_unfolding_all rfl, by kernel_rfl⟩
noncomputable def F16 : CF prog 16 := ⟨_, by with_unfolding_all rfl, by kernel_rfl⟩
noncomputable def F18 : CF prog 18 := ⟨_, by with_unfolding_all rfl, by kernel_rfl⟩
noncomputable def F42 : CF prog 42 := ⟨_, by with_unfolding_all rfl, by kernel_rfl⟩
noncomputable def F7 : CF prog 7 := ⟨_, by with_unfolding_all rfl, by kernel_rfl⟩
noncomputable def F38 : CF prog 38 := ⟨_, by with_unfolding_all rfl, by kernel_rfl⟩
noncomputable def F39 : CF prog 39 := ⟨_, by with_unfolding_all rfl, by kernel_rfl⟩
noncomputable def F70 : CF prog 70 := ⟨_, by with_unfolding_all rfl, by kernel_rfl⟩
noncomputable def F21 : CF prog 21 := ⟨_, by with_unfolding_all rfl, by kernel_rfl⟩
noncomputable def F64 : CF prog 64 := ⟨_, by with_unfolding_all rfl, by kernel_rfl⟩
noncomputable def F48 : CF prog 48 := ⟨_, by with_unfolding_all rfl, by kernel_rfl⟩
noncomputable def F14 : CF prog 14 := ⟨_, by with_unfolding_all rfl, by kernel_rfl⟩
noncomputable def F58 : CF prog 58 := ⟨_, by with_unfolding_all rfl, by kernel_rfl⟩
noncomputable def F3 : CF prog 3 := ⟨_, by with_unfolding_all rfl, by kernel_rfl⟩
noncomputable def F23 : CF prog 23 := ⟨_, by with_unfolding_all rfl, by kernel_rfl⟩
noncomputable def F41 : CF prog 41 := ⟨_, by with_unfolding_all rfl, by kernel_rfl⟩
noncomputable def F35 : CF prog 35 := ⟨_, by with_unfolding_all rfl, by kernel_rfl⟩
noncomputable def F24 : CF prog 24 := ⟨_, by with_unfolding_all rfl, by kernel_rfl⟩
noncomputable def F128 : CF prog 128 := ⟨_, by with_unfolding_all rfl, by kernel_rfl⟩
noncomputable def F11 : CF prog 11 := ⟨_, by with_unfolding_all rfl, by kernel_rfl⟩
noncomputable def F49 : CF prog 49 := ⟨_, by with_unfolding_all rfl, by kernel_rfl⟩
noncomputable def F117 : CF prog 117 := ⟨_, by with_unfolding_all rfl, by kernel_rfl⟩
noncomputable def F50 : CF prog 50 := ⟨_, by with_unfolding_all rfl, by kernel_rfl⟩
noncomputable def F101 : CF prog 101 := ⟨_, by with_unfolding_all rfl, by kernel_rfl⟩
noncomputable def F90 : CF prog 90 := ⟨_, by with_unfolding_all rfl, by kernel_rfl⟩
noncomputable def F113 : CF prog 113 := ⟨_, by with_unfolding_all rfl, by kernel_rfl⟩
noncomputable def F103 : CF prog 103 := ⟨_, by with_unfolding_all rfl, by kernel_rfl⟩
noncomputable def F82 : CF prog 82 := ⟨_, by with_unfolding_all rfl, by kernel_rfl⟩
noncomputable def F45 : CF prog 45 := ⟨_, by with_unfolding_all rfl, by kernel_rfl⟩
noncomputable def F47 : CF prog 47 := ⟨_, by with_unfolding_all rfl, by kernel_rfl⟩
noncomputable def F96 : CF prog 96 := ⟨_, by with_unfolding_all rfl, by kernel_rfl⟩
noncomputable def F110 : CF prog 110 := ⟨_, by with_unfolding_all rfl, by kernel_rfl⟩
noncomputable def F20 : CF prog 20 := ⟨_, by with_unfolding_all rfl, by kernel_rfl⟩
noncomputable def F43 : CF prog 43 := ⟨_, by with_unfolding_all rfl, by kernel_rfl⟩
noncomputable def F131 : CF prog 131 := ⟨_, by with_unfolding_all rfl, by kernel_rfl⟩
noncomputable def F120 : CF prog 120 := ⟨_, by with_unfolding_all rfl, by kernel_rfl⟩
noncomputable def F25 : CF prog 25 := ⟨_, by with_unfolding_all rfl, by kernel_rfl⟩
noncomputable def F53 : CF prog 53 := ⟨_, by with_unfolding_all rfl, by kernel_rfl⟩
noncomputable def F36 : CF prog 36 := ⟨_, by with_unfolding_all rfl, by kernel_rfl⟩
noncomputable def F69 : CF prog 69 := ⟨_, by with_unfolding_all rfl, by kernel_rfl⟩
noncomputable def F68 : CF prog 68 := ⟨_, by with_unfolding_all rfl, by kernel_rfl⟩
noncomputable def F135 : CF prog 135 := ⟨_, by with_unfolding_all rfl, by kernel_rfl⟩
noncomputable def F138 : CF prog 138 := ⟨_, by with_unfolding_all rfl, by kernel_rfl⟩
end Go.Proofs.YtjaipefmifbghaaGreatDoor
