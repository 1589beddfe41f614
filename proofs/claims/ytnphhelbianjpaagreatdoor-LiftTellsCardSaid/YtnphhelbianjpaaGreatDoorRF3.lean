/-
  The program's functions: their numbers, and their forms, which 'compN' gives.
-/
import Derived.Test.YtnphhelbianjpaaGreatDoorRF0
set_option linter.all false
set_option linter.unusedSimpArgs false
set_option linter.unusedVariables false
set_option linter.unnecessarySimpa false
namespace Go.Proofs.YtnphhelbianjpaaGreatDoor
open Go Go.Proofs.YtnphhelbianjpaaGreatDoor.V Go.Proofs
set_option maxRecDepth 1000000
set_option maxHeartbeats 4000000
noncomputable def F124 : CF prog 124 := ⟨_, by with_unfolding_all rfl, by kernel_rfl⟩
noncomputable def F31 : CF prog 31 := ⟨_, by with_unfolding_all rfl, by kernel_rfl⟩
noncomputable def F56 : CF prog 56 := ⟨_, by with_unfolding_all rfl, by kernel_rfl⟩
noncomputable def F109 : CF prog 109 := ⟨_, by with_unfolding_all rfl, by kernel_rfl⟩
noncomputable def F13 : CF prog 13 := ⟨_, by with_unfolding_all rfl, by kernel_rfl⟩
noncomputable def F12 : CF prog 12 := ⟨_, by with_unfolding_all rfl, by kernel_rfl⟩
noncomputable def F121 : CF prog 121 := ⟨_, by with_unfolding_all rfl, by kernel_rfl⟩
noncomputable def F104 : CF prog 104 := ⟨_, by with_unfolding_all rfl, by kernel_rfl⟩
noncomputable def F122 : CF prog 122 := ⟨_, by with_unfolding_all rfl, by kernel_rfl⟩
noncomputable def F77 : CF prog 77 := ⟨_, by with_unfolding_all rfl, by kernel_rfl⟩
noncomputable def F63 : CF prog 63 := ⟨_, by with_unfolding_all rfl, by kernel_rfl⟩
noncomputable def F140 : CF prog 140 := ⟨_, by with_unfolding_all rfl, by kernel_rfl⟩
noncomputable def F40 : CF prog 40 := ⟨_, by with_unfolding_all rfl, by kernel_rfl⟩
noncomputable def F135 : CF prog 135 := ⟨_, by with_unfolding_all rfl, by kernel_rfl⟩
noncomputable def F158 : CF prog 158 := ⟨_, by with_unfolding_all rfl, by kernel_rfl⟩
noncomputable def F58 : CF prog 58 := ⟨_, by with_unfolding_all rfl, by kernel_rfl⟩
noncomputable def F81 : CF prog 81 := ⟨_, by with_unfolding_all rfl, by kernel_rfl⟩
noncomputable def F123 : CF prog 123 := ⟨_, by with_unfolding_all rfl, by kernel_rfl⟩
noncomputable def F147 : CF prog 147 := ⟨_, by with_unfolding_all rfl, by kernel_rfl⟩
noncomputable def F54 : CF prog 54 := ⟨_, by with_unfolding_all rfl, by kernel_rfl⟩
noncomputable def F102 : CF prog 102 := ⟨_, by with_unfolding_all rfl, by kernel_rfl⟩
noncomputable def F93 : CF prog 93 := ⟨_, by with_unfolding_all rfl, by kernel_rfl⟩
noncomputable def F27 : CF prog 27 := ⟨_, by with_unfolding_all rfl, by kernel_rfl⟩
noncomputable def F74 : CF prog 74 := ⟨_, by with_unfolding_all rfl, by kernel_rfl⟩
noncomputable def F3 : CF prog 3 := ⟨_, by with_unfolding_all rfl, by kernel_rfl⟩
noncomputable def F111 : CF prog 111 := ⟨_, by with_unfolding_all rfl, by kernel_rfl⟩
noncomputable def F129 : CF prog 129 := ⟨_, by with_unfolding_all rfl, by kernel_rfl⟩
noncomputable def F130 : CF prog 130 := ⟨_, by with_unfolding_all rfl, by kernel_rfl⟩
noncomputable def F113 : CF prog 113 := ⟨_, by with_unfolding_all rfl, by kernel_rfl⟩
noncomputable def F11 : CF prog 11 := ⟨_, by with_unfolding_all rfl, by kernel_rfl⟩
noncomputable def F106 : CF prog 106 := ⟨_, by with_unfolding_all rfl, by kernel_rfl⟩
noncomputable def F15 : CF prog 15 := ⟨_, by with_unfolding_all rfl, by kernel_rfl⟩
noncomputable def F90 : CF prog 90 := ⟨_, by with_unfolding_all rfl, by kernel_rfl⟩
noncomputable def F138 : CF prog 138 := ⟨_, by with_unfolding_all rfl, by kernel_rfl⟩
noncomputable def F125 : CF prog 125 := ⟨_, by with_unfolding_all rfl, by kernel_rfl⟩
noncomputable def F97 : CF prog 97 := ⟨_, by with_unfolding_all rfl, by kernel_rfl⟩
noncomputable def F118 : CF prog 118 := ⟨_, by with_unfolding_all rfl, by kernel_rfl⟩
noncomputable def F53 : CF prog 53 := ⟨_, by with_unfolding_all rfl, by kernel_rfl⟩
noncomputable def F32 : CF prog 32 := ⟨_, by with_unfolding_all rfl, by kernel_rfl⟩
noncomputable def F84 : CF prog 84 := ⟨_, by with_unfolding_all rfl, by kernel_rfl⟩
noncomputable def F42 : CF prog 42 := ⟨_, by with_unfolding_all rfl, by kernel_rfl⟩
noncomputable def F76 : CF prog 76 := ⟨_, by with_unfolding_all rfl, by kernel_rfl⟩
noncomputable def F29 : CF prog 29 := ⟨_, by with_unfolding_all rfl, by kernel_rfl⟩
noncomputable def F136 : CF prog 136 := ⟨_, by with_unfolding_all rfl, by kernel_rfl⟩
noncomputable def F95 : CF prog 95 := ⟨_, by with_unfolding_all rfl, by kernel_rfl⟩
noncomputable def F100 : CF prog 100 := ⟨_, by with_unfolding_all rfl, by kernel_rfl⟩
noncomputable def F157 : CF prog 157 := ⟨_, by with_unfolding_all rfl, by kernel_rfl⟩
end Go.Proofs.YtnphhelbianjpaaGreatDoor
