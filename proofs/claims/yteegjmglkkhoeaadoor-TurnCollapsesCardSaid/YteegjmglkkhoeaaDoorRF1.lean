/-
  The program's functions: their numbers, and their forms, which 'compN' gives.
-/
import Derived.Test.YteegjmglkkhoeaaDoorRF0
set_option linter.all false
set_option linter.unusedSimpArgs false
set_option linter.unusedVariables false
set_option linter.unnecessarySimpa false
namespace Go.Proofs.YteegjmglkkhoeaaDoor
open Go Go.Proofs.YteegjmglkkhoeaaDoor.V Go.Proofs
set_option maxRecDepth 1000000
set_option maxHeartbeats 4000000
noncomputable def F17 : CF prog 17 := ⟨_, by with_unfolding_all rfl, by kernel_rfl⟩
noncomputable def F10 : CF prog 10 := ⟨_, by with_unfolding_all rfl, by kernel_rfl⟩
noncomputable def F43 : CF prog 43 := ⟨_, by with_unfolding_all rfl, by kernel_rfl⟩
noncomputable def F26 : CF prog 26 := ⟨_, by with_unfolding_all rfl, by kernel_rfl⟩
noncomputable def F41 : CF prog 41 := ⟨_, by with_unfolding_all rfl, by kernel_rfl⟩
noncomputable def F35 : CF prog 35 := ⟨_, by with_unfolding_all rfl, by kernel_rfl⟩
noncomputable def F12 : CF prog 12 := ⟨_, by with_unfolding_all rfl, by kernel_rfl⟩
noncomputable def F86 : CF prog 86 := ⟨_, by with_unfolding_all rfl, by kernel_rfl⟩
noncomputable def F14 : CF prog 14 := ⟨_, by with_unfolding_all rfl, by kernel_rfl⟩
noncomputable def F23 : CF prog 23 := ⟨_, by with_unfolding_all rfl, by kernel_rfl⟩
noncomputable def F38 : CF prog 38 := ⟨_, by with_unfolding_all rfl, by kernel_rfl⟩
noncomputable def F66 : CF prog 66 := ⟨_, by with_unfolding_all rfl, by kernel_rfl⟩
noncomputable def F3 : CF prog 3 := ⟨_, by with_unfolding_all rfl, by kernel_rfl⟩
noncomputable def F53 : CF prog 53 := ⟨_, by with_unfolding_all rfl, by kernel_rfl⟩
noncomputable def F39 : CF prog 39 := ⟨_, by with_unfolding_all rfl, by kernel_rfl⟩
noncomputable def F52 : CF prog 52 := ⟨_, by with_unfolding_all rfl, by kernel_rfl⟩
noncomputable def F64 : CF prog 64 := ⟨_, by with_unfolding_all rfl, by kernel_rfl⟩
noncomputable def F54 : CF prog 54 := ⟨_, by with_unfolding_all rfl, by kernel_rfl⟩
noncomputable def F30 : CF prog 30 := ⟨_, by with_unfolding_all rfl, by kernel_rfl⟩
noncomputable def F11 : CF prog 11 := ⟨_, by with_unfolding_all rfl, by kernel_rfl⟩
noncomputable def F82 : CF prog 82 := ⟨_, by with_unfolding_all rfl, by kernel_rfl⟩
noncomputable def F32 : CF prog 32 := ⟨_, by with_unfolding_all rfl, by kernel_rfl⟩
noncomputable def F21 : CF prog 21 := ⟨_, by with_unfolding_all rfl, by kernel_rfl⟩
noncomputable def F59 : CF prog 59 := ⟨_, by with_unfolding_all rfl, by kernel_rfl⟩
noncomputable def F48 : CF prog 48 := ⟨_, by with_unfolding_all rfl, by kernel_rfl⟩
noncomputable def F62 : CF prog 62 := ⟨_, by with_unfolding_all rfl, by kernel_rfl⟩
noncomputable def F85 : CF prog 85 := ⟨_, by with_unfolding_all rfl, by kernel_rfl⟩
end Go.Proofs.YteegjmglkkhoeaaDoor
