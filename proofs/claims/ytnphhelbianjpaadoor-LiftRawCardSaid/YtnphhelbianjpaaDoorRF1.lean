/-
  The program's functions: their numbers, and their forms, which 'compN' gives.
-/
import Derived.Test.YtnphhelbianjpaaDoorRF0
set_option linter.all false
set_option linter.unusedSimpArgs false
set_option linter.unusedVariables false
set_option linter.unnecessarySimpa false
namespace Go.Proofs.YtnphhelbianjpaaDoor
open Go Go.Proofs.YtnphhelbianjpaaDoor.V Go.Proofs
set_option maxRecDepth 1000000
set_option maxHeartbeats 4000000
noncomputable def F15 : CF prog 15 := ⟨_, by with_unfolding_all rfl, by kernel_rfl⟩
noncomputable def F23 : CF prog 23 := ⟨_, by with_unfolding_all rfl, by kernel_rfl⟩
noncomputable def F40 : CF prog 40 := ⟨_, by with_unfolding_all rfl, by kernel_rfl⟩
noncomputable def F24 : CF prog 24 := ⟨_, by with_unfolding_all rfl, by kernel_rfl⟩
noncomputable def F48 : CF prog 48 := ⟨_, by with_unfolding_all rfl, by kernel_rfl⟩
noncomputable def F64 : CF prog 64 := ⟨_, by with_unfolding_all rfl, by kernel_rfl⟩
noncomputable def F33 : CF prog 33 := ⟨_, by with_unfolding_all rfl, by kernel_rfl⟩
noncomputable def F80 : CF prog 80 := ⟨_, by with_unfolding_all rfl, by kernel_rfl⟩
noncomputable def F13 : CF prog 13 := ⟨_, by with_unfolding_all rfl, by kernel_rfl⟩
noncomputable def F3 : CF prog 3 := ⟨_, by with_unfolding_all rfl, by kernel_rfl⟩
noncomputable def F88 : CF prog 88 := ⟨_, by with_unfolding_all rfl, by kernel_rfl⟩
noncomputable def F77 : CF prog 77 := ⟨_, by with_unfolding_all rfl, by kernel_rfl⟩
noncomputable def F85 : CF prog 85 := ⟨_, by with_unfolding_all rfl, by kernel_rfl⟩
noncomputable def F44 : CF prog 44 := ⟨_, by with_unfolding_all rfl, by kernel_rfl⟩
noncomputable def F47 : CF prog 47 := ⟨_, by with_unfolding_all rfl, by kernel_rfl⟩
noncomputable def F61 : CF prog 61 := ⟨_, by with_unfolding_all rfl, by kernel_rfl⟩
noncomputable def F67 : CF prog 67 := ⟨_, by with_unfolding_all rfl, by kernel_rfl⟩
noncomputable def F9 : CF prog 9 := ⟨_, by with_unfolding_all rfl, by kernel_rfl⟩
noncomputable def F78 : CF prog 78 := ⟨_, by with_unfolding_all rfl, by kernel_rfl⟩
noncomputable def F52 : CF prog 52 := ⟨_, by with_unfolding_all rfl, by kernel_rfl⟩
noncomputable def F87 : CF prog 87 := ⟨_, by with_unfolding_all rfl, by kernel_rfl⟩
noncomputable def F95 : CF prog 95 := ⟨_, by with_unfolding_all rfl, by kernel_rfl⟩
noncomputable def F96 : CF prog 96 := ⟨_, by with_unfolding_all rfl, by kernel_rfl⟩
noncomputable def F29 : CF prog 29 := ⟨_, by with_unfolding_all rfl, by kernel_rfl⟩
noncomputable def F22 : CF prog 22 := ⟨_, by with_unfolding_all rfl, by kernel_rfl⟩
noncomputable def F60 : CF prog 60 := ⟨_, by with_unfolding_all rfl, by kernel_rfl⟩
noncomputable def F18 : CF prog 18 := ⟨_, by with_unfolding_all rfl, by kernel_rfl⟩
noncomputable def F10 : CF prog 10 := ⟨_, by with_unfolding_all rfl, by kernel_rfl⟩
noncomputable def F51 : CF prog 51 := ⟨_, by with_unfolding_all rfl, by kernel_rfl⟩
noncomputable def F73 : CF prog 73 := ⟨_, by with_unfolding_all rfl, by kernel_rfl⟩
noncomputable def F83 : CF prog 83 := ⟨_, by with_unfolding_all rfl, by kernel_rfl⟩
noncomputable def F19 : CF prog 19 := ⟨_, by with_unfolding_all rfl, by kernel_rfl⟩
end Go.Proofs.YtnphhelbianjpaaDoor
