/-
  The program's functions: their numbers, and their forms, which 'compN' gives.
-/
import Derived.Test.YtnphhelbianjpaaGreatDoorRF0
set_option linter.all false
set_option linter.unusedSimpArgs false
set_option linter.unusedVariables false
set_option linter.unnecessarySimpa false
namespace Go.Proofs.YtnphhelbianjpaaGreatDoor
open Go Go.Proofs.YtnphhelbianjpaaGreatDoor.V Go.Proofs
set_option maxRecDepth 1000000
set_option maxHeartbeats 4000000
noncomputable def F23 : CF prog 23 := ⟨_, by with_unfolding_all rfl, by kernel_rfl⟩
noncomputable def F14 : CF prog 14 := ⟨_, by with_unfolding_all rfl, by kernel_rfl⟩
noncomputable def F146 : CF prog 146 := ⟨_, by with_unfolding_all rfl, by kernel_rfl⟩
noncomputable def F16 : CF prog 16 := ⟨_, by with_unfolding_all rfl, by kernel_rfl⟩
noncomputable def F75 : CF prog 75 := ⟨_, by with_unfolding_all rfl, by kernel_rfl⟩
noncomputable def F35 : CF prog 35 := ⟨_, by with_unfolding_all rfl, by kernel_rfl⟩
noncomputable def F7 : CF prog 7 := ⟨_, by with_unfolding_all rfl, by kernel_rfl⟩
noncomputable def F114 : CF prog 114 := ⟨_, by with_unfolding_all rfl, by kernel_rfl⟩
noncomputable def F26 : CF prog 26 := ⟨_, by with_unfolding_all rfl, by kernel_rfl⟩
noncomputable def F63 : CF prog 63 := ⟨_, by with_unfolding_all rfl, by kernel_rfl⟩
noncomputable def F8 : CF prog 8 := ⟨_, by with_unfolding_all rfl, by kernel_rfl⟩
noncomputable def F135 : CF prog 135 := ⟨_, by with_unfolding_all rfl, by kernel_rfl⟩
noncomputable def F98 : CF prog 98 := ⟨_, by with_unfolding_all rfl, by kernel_rfl⟩
noncomputable def F55 : CF prog 55 := ⟨_, by with_unfolding_all rfl, by kernel_rfl⟩
noncomputable def F44 : CF prog 44 := ⟨_, by with_unfolding_all rfl, by kernel_rfl⟩
noncomputable def F37 : CF prog 37 := ⟨_, by with_unfolding_all rfl, by kernel_rfl⟩
noncomputable def F147 : CF prog 147 := ⟨_, by with_unfolding_all rfl, by kernel_rfl⟩
noncomputable def F79 : CF prog 79 := ⟨_, by with_unfolding_all rfl, by kernel_rfl⟩
noncomputable def F62 : CF prog 62 := ⟨_, by with_unfolding_all rfl, by kernel_rfl⟩
noncomputable def F131 : CF prog 131 := ⟨_, by with_unfolding_all rfl, by kernel_rfl⟩
noncomputable def F80 : CF prog 80 := ⟨_, by with_unfolding_all rfl, by kernel_rfl⟩
noncomputable def F111 : CF prog 111 := ⟨_, by with_unfolding_all rfl, by kernel_rfl⟩
noncomputable def F94 : CF prog 94 := ⟨_, by with_unfolding_all rfl, by kernel_rfl⟩
noncomputable def F119 : CF prog 119 := ⟨_, by with_unfolding_all rfl, by kernel_rfl⟩
noncomputable def F133 : CF prog 133 := ⟨_, by with_unfolding_all rfl, by kernel_rfl⟩
noncomputable def F49 : CF prog 49 := ⟨_, by with_unfolding_all rfl, by kernel_rfl⟩
noncomputable def F148 : CF prog 148 := ⟨_, by with_unfolding_all rfl, by kernel_rfl⟩
noncomputable def F6 : CF prog 6 := ⟨_, by with_unfolding_all rfl, by kernel_rfl⟩
noncomputable def F19 : CF prog 19 := ⟨_, by with_unfolding_all rfl, by kernel_rfl⟩
noncomputable def F144 : CF prog 144 := ⟨_, by with_unfolding_all rfl, by kernel_rfl⟩
noncomputable def F65 : CF prog 65 := ⟨_, by with_unfolding_all rfl, by kernel_rfl⟩
noncomputable def F17 : CF prog 17 := ⟨_, by with_unfolding_all rfl, by kernel_rfl⟩
noncomputable def F53 : CF prog 53 := ⟨_, by with_unfolding_all rfl, by kernel_rfl⟩
noncomputable def F32 : CF prog 32 := ⟨_, by with_unfolding_all rfl, by kernel_rfl⟩
noncomputable def F68 : CF prog 68 := ⟨_, by with_unfolding_all rfl, by kernel_rfl⟩
noncomputable def F50 : CF prog 50 := ⟨_, by with_unfolding_all rfl, by kernel_rfl⟩
noncomputable def F115 : CF prog 115 := ⟨_, by with_unfolding_all rfl, by kernel_rfl⟩
noncomputable def F76 : CF prog 76 := ⟨_, by with_unfolding_all rfl, by kernel_rfl⟩
noncomputable def F25 : CF prog 25 := ⟨_, by with_unfolding_all rfl, by kernel_rfl⟩
noncomputable def F64 : CF prog 64 := ⟨_, by with_unfolding_all rfl, by kernel_rfl⟩
noncomputable def F95 : CF prog 95 := ⟨_, by with_unfolding_all rfl, by kernel_rfl⟩
noncomputable def F156 : CF prog 156 := ⟨_, by with_unfolding_all rfl, by kernel_rfl⟩
noncomputable def F30 : CF prog 30 := ⟨_, by with_unfolding_all rfl, by kernel_rfl⟩
end Go.Proofs.YtnphhelbianjpaaGreatDoor
