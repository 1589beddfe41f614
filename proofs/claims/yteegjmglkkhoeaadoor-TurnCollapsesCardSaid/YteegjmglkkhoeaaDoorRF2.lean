/-
  The program's functions: their numbers, and their forms, which 'compN' gives.
-/
import Derived.Test.YteegjmglkkhoeaaDoorRF0
set_option linter.all false
set_option linter.unusedSimpArgs false
set_option linter.unusedVariables false
set_option linter.unnecessarySimpa false
namespace Go.Proofs.YteegjmglkkhoeaaDoor
open Go Go.Proofs.YteegjmglkkhoeaaDoor.V Go.Proofs
set_option maxRecDepth 1000000
set_option maxHeartbeats 4000000
noncomputable def F20 : CF prog 20 := ⟨_, by with_unfolding_all rfl, by kernel_rfl⟩
noncomputable def F50 : CF prog 50 := ⟨_, by with_unfolding_all rfl, by kernel_rfl⟩
noncomputable def F75 : CF prog 75 := ⟨_, by with_unfolding_all rfl, by kernel_rfl⟩
noncomputable def F56 : CF prog 56 := ⟨_, by with_unfolding_all rfl, by kernel_rfl⟩
noncomputable def F24 : CF prog 24 := ⟨_, by with_unfolding_all rfl, by kernel_rfl⟩
noncomputable def F45 : CF prog 45 := ⟨_, by with_unfolding_all rfl, by kernel_rfl⟩
noncomputable def F57 : CF prog 57 := ⟨_, by with_unfolding_all rfl, by kernel_rfl⟩
noncomputable def F34 : CF prog 34 := ⟨_, by with_unfolding_all rfl, by kernel_rfl⟩
noncomputable def F4 : CF prog 4 := ⟨_, by with_unfolding_all rfl, by kernel_rfl⟩
noncomputable def F60 : CF prog 60 := ⟨_, by with_unfolding_all rfl, by kernel_rfl⟩
noncomputable def F49 : CF prog 49 := ⟨_, by with_unfolding_all rfl, by kernel_rfl⟩
noncomputable def F58 : CF prog 58 := ⟨_, by with_unfolding_all rfl, by kernel_rfl⟩
noncomputable def F8 : CF prog 8 := ⟨_, by with_unfolding_all rfl, by kernel_rfl⟩
noncomputable def F7 : CF prog 7 := ⟨_, by with_unfolding_all rfl, by kernel_rfl⟩
noncomputable def F71 : CF prog 71 := ⟨_, by with_unfolding_all rfl, by kernel_rfl⟩
noncomputable def F65 : CF prog 65 := ⟨_, by with_unfolding_all rfl, by kernel_rfl⟩
noncomputable def F61 : CF prog 61 := ⟨_, by with_unfolding_all rfl, by kernel_rfl⟩
noncomputable def F63 : CF prog 63 := ⟨_, by with_unfolding_all rfl, by kernel_rfl⟩
noncomputable def F27 : CF prog 27 := ⟨_, by with_unfolding_all rfl, by kernel_rfl⟩
noncomputable def F77 : CF prog 77 := ⟨_, by with_unfolding_all rfl, by kernel_rfl⟩
noncomputable def F29 : CF prog 29 := ⟨_, by with_unfolding_all rfl, by kernel_rfl⟩
noncomputable def F83 : CF prog 83 := ⟨_, by with_unfolding_all rfl, by kernel_rfl⟩
noncomputable def F80 : CF prog 80 := ⟨_, by with_unfolding_all rfl, by kernel_rfl⟩
noncomputable def F51 : CF prog 51 := ⟨_, by with_unfolding_all rfl, by kernel_rfl⟩
noncomputable def F44 : CF prog 44 := ⟨_, by with_unfolding_all rfl, by kernel_rfl⟩
noncomputable def F19 : CF prog 19 := ⟨_, by with_unfolding_all rfl, by kernel_rfl⟩
noncomputable def F84 : CF prog 84 := ⟨_, by with_unfolding_all rfl, by kernel_rfl⟩
noncomputable def F22 : CF prog 22 := ⟨_, by with_unfolding_all rfl, by kernel_rfl⟩
end Go.Proofs.YteegjmglkkhoeaaDoor
