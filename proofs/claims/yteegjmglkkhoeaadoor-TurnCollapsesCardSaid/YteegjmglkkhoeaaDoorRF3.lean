/-
  The program's functions: their numbers, and their forms, which 'compN' gives.
-/
import Derived.Test.YteegjmglkkhoeaaDoorRF0
set_option linter.all false
set_option linter.unusedSimpArgs false
set_option linter.unusedVariables false
set_option linter.unnecessarySimpa false
namespace Go.Proofs.YteegjmglkkhoeaaDoor
open Go Go.Proofs.YteegjmglkkhoeaaDoor.V Go.Proofs
set_option maxRecDepth 1000000
set_option maxHeartbeats 4000000
noncomputable def F5 : CF prog 5 := ⟨_, by with_unfolding_all rfl, by kernel_rfl⟩
noncomputable def F40 : CF prog 40 := ⟨_, by with_unfolding_all rfl, by kernel_rfl⟩
noncomputable def F25 : CF prog 25 := ⟨_, by with_unfolding_all rfl, by kernel_rfl⟩
noncomputable def F16 : CF prog 16 := ⟨_, by with_unfolding_all rfl, by kernel_rfl⟩
noncomputable def F46 : CF prog 46 := ⟨_, by with_unfolding_all rfl, by kernel_rfl⟩
noncomputable def F15 : CF prog 15 := ⟨_, by with_unfolding_all rfl, by kernel_rfl⟩
noncomputable def F69 : CF prog 69 := ⟨_, by with_unfolding_all rfl, by kernel_rfl⟩
noncomputable def F78 : CF prog 78 := ⟨_, by with_unfolding_all rfl, by kernel_rfl⟩
noncomputable def F36 : CF prog 36 := ⟨_, by with_unfolding_all rfl, by kernel_rfl⟩
noncomputable def F74 : CF prog 74 := ⟨_, by with_unfolding_all rfl, by kernel_rfl⟩
noncomputable def F13 : CF prog 13 := ⟨_, by with_unfolding_all rfl, by kernel_rfl⟩
noncomputable def F76 : CF prog 76 := ⟨_, by with_unfolding_all rfl, by kernel_rfl⟩
noncomputable def F6 : CF prog 6 := ⟨_, by with_unfolding_all rfl, by kernel_rfl⟩
noncomputable def F33 : CF prog 33 := ⟨_, by with_unfolding_all rfl, by kernel_rfl⟩
noncomputable def F42 : CF prog 42 := ⟨_, by with_unfolding_all rfl, by kernel_rfl⟩
noncomputable def F37 : CF prog 37 := ⟨_, by with_unfolding_all rfl, by kernel_rfl⟩
noncomputable def F55 : CF prog 55 := ⟨_, by with_unfolding_all rfl, by kernel_rfl⟩
noncomputable def F81 : CF prog 81 := ⟨_, by with_unfolding_all rfl, by kernel_rfl⟩
noncomputable def F67 : CF prog 67 := ⟨_, by with_unfolding_all rfl, by kernel_rfl⟩
noncomputable def F28 : CF prog 28 := ⟨_, by with_unfolding_all rfl, by kernel_rfl⟩
noncomputable def F9 : CF prog 9 := ⟨_, by with_unfolding_all rfl, by kernel_rfl⟩
noncomputable def F73 : CF prog 73 := ⟨_, by with_unfolding_all rfl, by kernel_rfl⟩
noncomputable def F68 : CF prog 68 := ⟨_, by with_unfolding_all rfl, by kernel_rfl⟩
noncomputable def F18 : CF prog 18 := ⟨_, by with_unfolding_all rfl, by kernel_rfl⟩
noncomputable def F72 : CF prog 72 := ⟨_, by with_unfolding_all rfl, by kernel_rfl⟩
noncomputable def F31 : CF prog 31 := ⟨_, by with_unfolding_all rfl, by kernel_rfl⟩
noncomputable def F47 : CF prog 47 := ⟨_, by with_unfolding_all rfl, by kernel_rfl⟩
noncomputable def F87 : CF prog 87 := ⟨_, by with_unfolding_all rfl, by kernel_rfl⟩
end Go.Proofs.YteegjmglkkhoeaaDoor
