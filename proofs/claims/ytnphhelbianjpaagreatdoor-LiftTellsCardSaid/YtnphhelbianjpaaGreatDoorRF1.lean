/-
  The program's functions: their numbers, and their forms, which 'compN' gives.
-/
import Derived.Test.YtnphhelbianjpaaGreatDoorRF0
set_option linter.all false
set_option linter.unusedSimpArgs false
set_option linter.unusedVariables false
set_option linter.unnecessarySimpa false
namespace Go.Proofs.YtnphhelbianjpaaGreatDoor
open Go Go.Proofs.YtnphhelbianjpaaGreatDoor.V Go.Proofs
set_option maxRecDepth 1000000
set_option maxHeartbeats 4000000
noncomputable def F23 : CF prog 23 := ⟨_, by with_unfolding_all rfl, by kernel_rfl⟩
noncomputable def F28 : CF prog 28 := ⟨_, by with_unfolding_all rfl, by kernel_rfl⟩
noncomputable def F34 : CF prog 34 := ⟨_, by with_unfolding_all rfl, by kernel_rfl⟩
noncomputable def F38 : CF prog 38 := ⟨_, by with_unfolding_all rfl, by kernel_rfl⟩
noncomputable def F70 : CF prog 70 := ⟨_, by with_unfolding_all rfl, by kernel_rfl⟩
noncomputable def F75 : CF prog 75 := ⟨_, by with_unfolding_all rfl, by kernel_rfl⟩
noncomputable def F7 : CF prog 7 := ⟨_, by with_unfolding_all rfl, by kernel_rfl⟩
noncomputable def F73 : CF prog 73 := ⟨_, by with_unfolding_all rfl, by kernel_rfl⟩
noncomputable def F114 : CF prog 114 := ⟨_, by with_unfolding_all rfl, by kernel_rfl⟩
noncomputable def F71 : CF prog 71 := ⟨_, by with_unfolding_all rfl, by kernel_rfl⟩
noncomputable def F61 : CF prog 61 := ⟨_, by with_unfolding_all rfl, by kernel_rfl⟩
noncomputable def F8 : CF prog 8 := ⟨_, by with_unfolding_all rfl, by kernel_rfl⟩
noncomputable def F89 : CF prog 89 := ⟨_, by with_unfolding_all rfl, by kernel_rfl⟩
noncomputable def F98 : CF prog 98 := ⟨_, by with_unfolding_all rfl, by kernel_rfl⟩
noncomputable def F126 : CF prog 126 := ⟨_, by with_unfolding_all rfl, by kernel_rfl⟩
noncomputable def F137 : CF prog 137 := ⟨_, by with_unfolding_all rfl, by kernel_rfl⟩
noncomputable def F108 : CF prog 108 := ⟨_, by with_unfolding_all rfl, by kernel_rfl⟩
noncomputable def F69 : CF prog 69 := ⟨_, by with_unfolding_all rfl, by kernel_rfl⟩
noncomputable def F139 : CF prog 139 := ⟨_, by with_unfolding_all rfl, by kernel_rfl⟩
noncomputable def F79 : CF prog 79 := ⟨_, by with_unfolding_all rfl, by kernel_rfl⟩
noncomputable def F142 : CF prog 142 := ⟨_, by with_unfolding_all rfl, by kernel_rfl⟩
noncomputable def F62 : CF prog 62 := ⟨_, by with_unfolding_all rfl, by kernel_rfl⟩
noncomputable def F131 : CF prog 131 := ⟨_, by with_unfolding_all rfl, by kernel_rfl⟩
noncomputable def F99 : CF prog 99 := ⟨_, by with_unfolding_all rfl, by kernel_rfl⟩
noncomputable def F94 : CF prog 94 := ⟨_, by with_unfolding_all rfl, by kernel_rfl⟩
noncomputable def F127 : CF prog 127 := ⟨_, by with_unfolding_all rfl, by kernel_rfl⟩
noncomputable def F119 : CF prog 119 := ⟨_, by with_unfolding_all rfl, by kernel_rfl⟩
noncomputable def F133 : CF prog 133 := ⟨_, by with_unfolding_all rfl, by kernel_rfl⟩
noncomputable def F9 : CF prog 9 := ⟨_, by with_unfolding_all rfl, by kernel_rfl⟩
noncomputable def F59 : CF prog 59 := ⟨_, by with_unfolding_all rfl, by kernel_rfl⟩
noncomputable def F6 : CF prog 6 := ⟨_, by with_unfolding_all rfl, by kernel_rfl⟩
noncomputable def F60 : CF prog 60 := ⟨_, by with_unfolding_all rfl, by kernel_rfl⟩
noncomputable def F120 : CF prog 120 := ⟨_, by with_unfolding_all rfl, by kernel_rfl⟩
noncomputable def F117 : CF prog 117 := ⟨_, by with_unfolding_all rfl, by kernel_rfl⟩
noncomputable def F65 : CF prog 65 := ⟨_, by with_unfolding_all rfl, by kernel_rfl⟩
noncomputable def F152 : CF prog 152 := ⟨_, by with_unfolding_all rfl, by kernel_rfl⟩
noncomputable def F101 : CF prog 101 := ⟨_, by with_unfolding_all rfl, by kernel_rfl⟩
noncomputable def F36 : CF prog 36 := ⟨_, by with_unfolding_all rfl, by kernel_rfl⟩
noncomputable def F68 : CF prog 68 := ⟨_, by with_unfolding_all rfl, by kernel_rfl⟩
noncomputable def F24 : CF prog 24 := ⟨_, by with_unfolding_all rfl, by kernel_rfl⟩
noncomputable def F115 : CF prog 115 := ⟨_, by with_unfolding_all rfl, by kernel_rfl⟩
noncomputable def F83 : CF prog 83 := ⟨_, by with_unfolding_all rfl, by kernel_rfl⟩
noncomputable def F64 : CF prog 64 := ⟨_, by with_unfolding_all rfl, by kernel_rfl⟩
noncomputable def F128 : CF prog 128 := ⟨_, by with_unfolding_all rfl, by kernel_rfl⟩
noncomputable def F156 : CF prog 156 := ⟨_, by with_unfolding_all rfl, by kernel_rfl⟩
noncomputable def F159 : CF prog 159 := ⟨_, by with_unfolding_all rfl, by kernel_rfl⟩
end Go.Proofs.YtnphhelbianjpaaGreatDoor
