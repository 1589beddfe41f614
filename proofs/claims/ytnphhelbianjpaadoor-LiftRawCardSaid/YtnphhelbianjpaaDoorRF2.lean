/-
  The program's functions: their numbers, and their forms, which 'compN' gives.
-/
import Derived.Test.YtnphhelbianjpaaDoorRF0
set_option linter.all false
set_option linter.unusedSimpArgs false
set_option linter.unusedVariables false
set_option linter.unnecessarySimpa false
namespace Go.Proofs.YtnphhelbianjpaaDoor
open Go Go.Proofs.YtnphhelbianjpaaDoor.V Go.Proofs
set_option maxRecDepth 1000000
set_option maxHeartbeats 4000000
noncomputable def F20 : CF prog 20 := ⟨_, by with_unfolding_all rfl, by kernel_rfl⟩
noncomputable def F27 : CF prog 27 := ⟨_, by with_unfolding_all rfl, by kernel_rfl⟩
noncomputable def F59 : CF prog 59 := ⟨_, by with_unfolding_all rfl, by kernel_rfl⟩
noncomputable def F42 : CF prog 42 := ⟨_, by with_unfolding_all rfl, by kernel_rfl⟩
noncomputable def F45 : CF prog 45 := ⟨_, by with_unfolding_all rfl, by kernel_rfl⟩
noncomputable def F43 : CF prog 43 := ⟨_, by with_unfolding_all rfl, by kernel_rfl⟩
noncomputable def F41 : CF prog 41 := ⟨_, by with_unfolding_all rfl, by kernel_rfl⟩
noncomputable def F31 : CF prog 31 := ⟨_, by with_unfolding_all rfl, by kernel_rfl⟩
noncomputable def F36 : CF prog 36 := ⟨_, by with_unfolding_all rfl, by kernel_rfl⟩
noncomputable def F54 : CF prog 54 := ⟨_, by with_unfolding_all rfl, by kernel_rfl⟩
noncomputable def F71 : CF prog 71 := ⟨_, by with_unfolding_all rfl, by kernel_rfl⟩
noncomputable def F58 : CF prog 58 := ⟨_, by with_unfolding_all rfl, by kernel_rfl⟩
noncomputable def F30 : CF prog 30 := ⟨_, by with_unfolding_all rfl, by kernel_rfl⟩
noncomputable def F32 : CF prog 32 := ⟨_, by with_unfolding_all rfl, by kernel_rfl⟩
noncomputable def F76 : CF prog 76 := ⟨_, by with_unfolding_all rfl, by kernel_rfl⟩
noncomputable def F37 : CF prog 37 := ⟨_, by with_unfolding_all rfl, by kernel_rfl⟩
noncomputable def F72 : CF prog 72 := ⟨_, by with_unfolding_all rfl, by kernel_rfl⟩
noncomputable def F75 : CF prog 75 := ⟨_, by with_unfolding_all rfl, by kernel_rfl⟩
noncomputable def F94 : CF prog 94 := ⟨_, by with_unfolding_all rfl, by kernel_rfl⟩
noncomputable def F12 : CF prog 12 := ⟨_, by with_unfolding_all rfl, by kernel_rfl⟩
noncomputable def F6 : CF prog 6 := ⟨_, by with_unfolding_all rfl, by kernel_rfl⟩
noncomputable def F57 : CF prog 57 := ⟨_, by with_unfolding_all rfl, by kernel_rfl⟩
noncomputable def F35 : CF prog 35 := ⟨_, by with_unfolding_all rfl, by kernel_rfl⟩
noncomputable def F53 : CF prog 53 := ⟨_, by with_unfolding_all rfl, by kernel_rfl⟩
noncomputable def F93 : CF prog 93 := ⟨_, by with_unfolding_all rfl, by kernel_rfl⟩
noncomputable def F38 : CF prog 38 := ⟨_, by with_unfolding_all rfl, by kernel_rfl⟩
noncomputable def F16 : CF prog 16 := ⟨_, by with_unfolding_all rfl, by kernel_rfl⟩
noncomputable def F46 : CF prog 46 := ⟨_, by with_unfolding_all rfl, by kernel_rfl⟩
noncomputable def F82 : CF prog 82 := ⟨_, by with_unfolding_all rfl, by kernel_rfl⟩
noncomputable def F28 : CF prog 28 := ⟨_, by with_unfolding_all rfl, by kernel_rfl⟩
noncomputable def F56 : CF prog 56 := ⟨_, by with_unfolding_all rfl, by kernel_rfl⟩
noncomputable def F98 : CF prog 98 := ⟨_, by with_unfolding_all rfl, by kernel_rfl⟩
end Go.Proofs.YtnphhelbianjpaaDoor
