/-
  The program's functions: their numbers, and their forms, which 'compN' gives.
-/
import Derived.Test.YtpeifhiphfpajaaGreatDoorRF0
set_option linter.all false
set_option linter.unusedSimpArgs false
set_option linter.unusedVariables false
set_option linter.unnecessarySimpa false
namespace Go.Proofs.YtpeifhiphfpajaaGreatDoor
open Go Go.Proofs.YtpeifhiphfpajaaGreatDoor.V Go.Proofs
set_option maxRecDepth 1000000
set_option maxHeartbeats 4000000
noncomputable def F10 : CF prog 10 := ⟨_, by with_unfolding_all rfl, by kernel_rfl⟩
noncomputable def F21 : CF prog 21 := ⟨_, by with_unfolding_all rfl, by kernel_rfl⟩
noncomputable def F41 : CF prog 41 := ⟨_, by with_unfolding_all rfl, by kernel_rfl⟩
noncomputable def F15 : CF prog 15 := ⟨_, by with_unfolding_all rfl, by kernel_rfl⟩
noncomputable def F14 : CF prog 14 := ⟨_, by with_unfolding_all rfl, by kernel_rfl⟩
noncomputable def F89 : CF prog 89 := ⟨_, by with_unfolding_all rfl, by kernel_rfl⟩
noncomputable def F29 : CF prog 29 := ⟨_, by with_unfolding_all rfl, by kernel_rfl⟩
noncomputable def F85 : CF prog 85 := ⟨_, by with_unfolding_all rfl, by kernel_rfl⟩
noncomputable def F118 : CF prog 118 := ⟨_, by with_unfolding_all rfl, by kernel_rfl⟩
noncomputable def F46 : CF prog 46 := ⟨_, by with_unfolding_all rfl, by kernel_rfl⟩
noncomputable def F64 : CF prog 64 := ⟨_, by with_unfolding_all rfl, by kernel_rfl⟩
noncomputable def F47 : CF prog 47 := ⟨_, by with_unfolding_all rfl, by kernel_rfl⟩
noncomputable def F126 : CF prog 126 := ⟨_, by with_unfolding_all rfl, by kernel_rfl⟩
noncomputable def F40 : CF prog 40 := ⟨_, by with_unfolding_all rfl, by kernel_rfl⟩
noncomputable def F114 : CF prog 114 := ⟨_, by with_unfolding_all rfl, by kernel_rfl⟩
noncomputable def F52 : CF prog 52 := ⟨_, by with_unfolding_all rfl, by kernel_rfl⟩
noncomputable def F13 : CF prog 13 := ⟨_, by with_unfolding_all rfl, by kernel_rfl⟩
noncomputable def F116 : CF prog 116 := ⟨_, by with_unfolding_all rfl, by kernel_rfl⟩
noncomputable def F22 : CF prog 22 := ⟨_, by with_unfolding_all rfl, by kernel_rfl⟩
noncomputable def F68 : CF prog 68 := ⟨_, by with_unfolding_all rfl, by kernel_rfl⟩
noncomputable def F86 : CF prog 86 := ⟨_, by with_unfolding_all rfl, by kernel_rfl⟩
noncomputable def F5 : CF prog 5 := ⟨_, by with_unfolding_all rfl, by kernel_rfl⟩
noncomputable def F66 : CF prog 66 := ⟨_, by with_unfolding_all rfl, by kernel_rfl⟩
noncomputable def F78 : CF prog 78 := ⟨_, by with_unfolding_all rfl, by kernel_rfl⟩
noncomputable def F94 : CF prog 94 := ⟨_, by with_unfolding_all rfl, by kernel_rfl⟩
noncomputable def F97 : CF prog 97 := ⟨_, by with_unfolding_all rfl, by kernel_rfl⟩
noncomputable def F100 : CF prog 100 := ⟨_, by with_unfolding_all rfl, by kernel_rfl⟩
noncomputable def F39 : CF prog 39 := ⟨_, by with_unfolding_all rfl, by kernel_rfl⟩
noncomputable def F24 : CF prog 24 := ⟨_, by with_unfolding_all rfl, by kernel_rfl⟩
noncomputable def F53 : CF prog 53 := ⟨_, by with_unfolding_all rfl, by kernel_rfl⟩
noncomputable def F92 : CF prog 92 := ⟨_, by with_unfolding_all rfl, by kernel_rfl⟩
noncomputable def F65 : CF prog 65 := ⟨_, by with_unfolding_all rfl, by kernel_rfl⟩
noncomputable def F123 : CF prog 123 := ⟨_, by with_unfolding_all rfl, by kernel_rfl⟩
noncomputable def F43 : CF prog 43 := ⟨_, by with_unfolding_all rfl, by kernel_rfl⟩
noncomputable def F38 : CF prog 38 := ⟨_, by with_unfolding_all rfl, by kernel_rfl⟩
noncomputable def F112 : CF prog 112 := ⟨_, by with_unfolding_all rfl, by kernel_rfl⟩
noncomputable def F88 : CF prog 88 := ⟨_, by with_unfolding_all rfl, by kernel_rfl⟩
noncomputable def F109 : CF prog 109 := ⟨_, by with_unfolding_all rfl, by kernel_rfl⟩
noncomputable def F102 : CF prog 102 := ⟨_, by with_unfolding_all rfl, by kernel_rfl⟩
noncomputable def F74 : CF prog 74 := ⟨_, by with_unfolding_all rfl, by kernel_rfl⟩
noncomputable def F125 : CF prog 125 := ⟨_, by with_unfolding_all rfl, by kernel_rfl⟩
end Go.Proofs.YtpeifhiphfpajaaGreatDoor
