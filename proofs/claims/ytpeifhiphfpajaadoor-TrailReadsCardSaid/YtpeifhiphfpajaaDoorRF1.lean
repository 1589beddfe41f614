/-
  The program's functions: their numbers, and their forms, which 'compN' gives.
-/
import Derived.Test.YtpeifhiphfpajaaDoorRF0
set_option linter.all false
set_option linter.unusedSimpArgs false
set_option linter.unusedVariables false
set_option linter.unnecessarySimpa false
namespace Go.Proofs.YtpeifhiphfpajaaDoor
open Go Go.Proofs.YtpeifhiphfpajaaDoor.V Go.Proofs
set_option maxRecDepth 1000000
set_option maxHeartbeats 4000000
noncomputable def F9 : CF prog 9 := ⟨_, by with_unfolding_all rfl, by kernel_rfl⟩
noncomputable def F3 : CF prog 3 := ⟨_, by with_unfolding_all rfl, by kernel_rfl⟩
noncomputable def F43 : CF prog 43 := ⟨_, by with_unfolding_all rfl, by kernel_rfl⟩
noncomputable def F8 : CF prog 8 := ⟨_, by with_unfolding_all rfl, by kernel_rfl⟩
noncomputable def F41 : CF prog 41 := ⟨_, by with_unfolding_all rfl, by kernel_rfl⟩
noncomputable def F78 : CF prog 78 := ⟨_, by with_unfolding_all rfl, by kernel_rfl⟩
noncomputable def F21 : CF prog 21 := ⟨_, by with_unfolding_all rfl, by kernel_rfl⟩
noncomputable def F31 : CF prog 31 := ⟨_, by with_unfolding_all rfl, by kernel_rfl⟩
noncomputable def F26 : CF prog 26 := ⟨_, by with_unfolding_all rfl, by kernel_rfl⟩
noncomputable def F29 : CF prog 29 := ⟨_, by with_unfolding_all rfl, by kernel_rfl⟩
noncomputable def F7 : CF prog 7 := ⟨_, by with_unfolding_all rfl, by kernel_rfl⟩
noncomputable def F62 : CF prog 62 := ⟨_, by with_unfolding_all rfl, by kernel_rfl⟩
noncomputable def F42 : CF prog 42 := ⟨_, by with_unfolding_all rfl, by kernel_rfl⟩
noncomputable def F39 : CF prog 39 := ⟨_, by with_unfolding_all rfl, by kernel_rfl⟩
noncomputable def F48 : CF prog 48 := ⟨_, by with_unfolding_all rfl, by kernel_rfl⟩
noncomputable def F36 : CF prog 36 := ⟨_, by with_unfolding_all rfl, by kernel_rfl⟩
noncomputable def F68 : CF prog 68 := ⟨_, by with_unfolding_all rfl, by kernel_rfl⟩
noncomputable def F27 : CF prog 27 := ⟨_, by with_unfolding_all rfl, by kernel_rfl⟩
noncomputable def F17 : CF prog 17 := ⟨_, by with_unfolding_all rfl, by kernel_rfl⟩
noncomputable def F33 : CF prog 33 := ⟨_, by with_unfolding_all rfl, by kernel_rfl⟩
noncomputable def F63 : CF prog 63 := ⟨_, by with_unfolding_all rfl, by kernel_rfl⟩
noncomputable def F14 : CF prog 14 := ⟨_, by with_unfolding_all rfl, by kernel_rfl⟩
noncomputable def F54 : CF prog 54 := ⟨_, by with_unfolding_all rfl, by kernel_rfl⟩
noncomputable def F76 : CF prog 76 := ⟨_, by with_unfolding_all rfl, by kernel_rfl⟩
end Go.Proofs.YtpeifhiphfpajaaDoor
