/-
  The program's functions: their numbers, and their forms, which 'compN' gives.
-/
import Derived.Test.YtnphhelbianjpaaGreatDoorRF0
set_option linter.all false
set_option linter.unusedSimpArgs false
set_option linter.unusedVariables false
set_option linter.unnecessarySimpa false
namespace Go.Proofs.YtnphhelbianjpaaGreatDoor
open Go Go.Proofs.YtnphhelbianjpaaGreatDoor.V Go.Proofs
set_option maxRecDepth 1000000
set_option maxHeartbeats 4000000
noncomputable def F47 : CF prog 47 := ⟨_, by with_unfolding_all rfl, by kernel_rfl⟩
noncomputable def F28 : CF prog 28 := ⟨_, by with_unfolding_all rfl, by kernel_rfl⟩
noncomputable def F109 : CF prog 109 := ⟨_, by with_unfolding_all rfl, by kernel_rfl⟩
noncomputable def F39 : CF prog 39 := ⟨_, by with_unfolding_all rfl, by kernel_rfl⟩
noncomputable def F38 : CF prog 38 := ⟨_, by with_unfolding_all rfl, by kernel_rfl⟩
noncomputable def F70 : CF prog 70 := ⟨_, by with_unfolding_all rfl, by kernel_rfl⟩
noncomputable def F121 : CF prog 121 := ⟨_, by with_unfolding_all rfl, by kernel_rfl⟩
noncomputable def F73 : CF prog 73 := ⟨_, by with_unfolding_all rfl, by kernel_rfl⟩
noncomputable def F77 : CF prog 77 := ⟨_, by with_unfolding_all rfl, by kernel_rfl⟩
noncomputable def F71 : CF prog 71 := ⟨_, by with_unfolding_all rfl, by kernel_rfl⟩
noncomputable def F78 : CF prog 78 := ⟨_, by with_unfolding_all rfl, by kernel_rfl⟩
noncomputable def F40 : CF prog 40 := ⟨_, by with_unfolding_all rfl, by kernel_rfl⟩
noncomputable def F20 : CF prog 20 := ⟨_, by with_unfolding_all rfl, by kernel_rfl⟩
noncomputable def F158 : CF prog 158 := ⟨_, by with_unfolding_all rfl, by kernel_rfl⟩
noncomputable def F126 : CF prog 126 := ⟨_, by with_unfolding_all rfl, by kernel_rfl⟩
noncomputable def F145 : CF prog 145 := ⟨_, by with_unfolding_all rfl, by kernel_rfl⟩
noncomputable def F43 : CF prog 43 := ⟨_, by with_unfolding_all rfl, by kernel_rfl⟩
noncomputable def F132 : CF prog 132 := ⟨_, by with_unfolding_all rfl, by kernel_rfl⟩
noncomputable def F41 : CF prog 41 := ⟨_, by with_unfolding_all rfl, by kernel_rfl⟩
noncomputable def F142 : CF prog 142 := ⟨_, by with_unfolding_all rfl, by kernel_rfl⟩
noncomputable def F74 : CF prog 74 := ⟨_, by with_unfolding_all rfl, by kernel_rfl⟩
noncomputable def F67 : CF prog 67 := ⟨_, by with_unfolding_all rfl, by kernel_rfl⟩
noncomputable def F51 : CF prog 51 := ⟨_, by with_unfolding_all rfl, by kernel_rfl⟩
noncomputable def F129 : CF prog 129 := ⟨_, by with_unfolding_all rfl, by kernel_rfl⟩
noncomputable def F153 : CF prog 153 := ⟨_, by with_unfolding_all rfl, by kernel_rfl⟩
noncomputable def F113 : CF prog 113 := ⟨_, by with_unfolding_all rfl, by kernel_rfl⟩
noncomputable def F48 : CF prog 48 := ⟨_, by with_unfolding_all rfl, by kernel_rfl⟩
noncomputable def F18 : CF prog 18 := ⟨_, by with_unfolding_all rfl, by kernel_rfl⟩
noncomputable def F96 : CF prog 96 := ⟨_, by with_unfolding_all rfl, by kernel_rfl⟩
noncomputable def F15 : CF prog 15 := ⟨_, by with_unfolding_all rfl, by kernel_rfl⟩
noncomputable def F120 : CF prog 120 := ⟨_, by with_unfolding_all rfl, by kernel_rfl⟩
noncomputable def F46 : CF prog 46 := ⟨_, by with_unfolding_all rfl, by kernel_rfl⟩
noncomputable def F155 : CF prog 155 := ⟨_, by with_unfolding_all rfl, by kernel_rfl⟩
noncomputable def F152 : CF prog 152 := ⟨_, by with_unfolding_all rfl, by kernel_rfl⟩
noncomputable def F36 : CF prog 36 := ⟨_, by with_unfolding_all rfl, by kernel_rfl⟩
noncomputable def F33 : CF prog 33 := ⟨_, by with_unfolding_all rfl, by kernel_rfl⟩
noncomputable def F84 : CF prog 84 := ⟨_, by with_unfolding_all rfl, by kernel_rfl⟩
noncomputable def F42 : CF prog 42 := ⟨_, by with_unfolding_all rfl, by kernel_rfl⟩
noncomputable def F21 : CF prog 21 := ⟨_, by with_unfolding_all rfl, by kernel_rfl⟩
noncomputable def F29 : CF prog 29 := ⟨_, by with_unfolding_all rfl, by kernel_rfl⟩
noncomputable def F52 : CF prog 52 := ⟨_, by with_unfolding_all rfl, by kernel_rfl⟩
noncomputable def F100 : CF prog 100 := ⟨_, by with_unfolding_all rfl, by kernel_rfl⟩
noncomputable def F157 : CF prog 157 := ⟨_, by with_unfolding_all rfl, by kernel_rfl⟩
end Go.Proofs.YtnphhelbianjpaaGreatDoor
