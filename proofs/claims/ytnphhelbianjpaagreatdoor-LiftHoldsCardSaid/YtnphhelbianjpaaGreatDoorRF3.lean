/-
  The program's functions: their numbers, and their forms, which 'compN' gives.
-/
import Derived.Test.YtnphhelbianjpaaGreatDoorRF0
set_option linter.all false
set_option linter.unusedSimpArgs false
set_option linter.unusedVariables false
set_option linter.unnecessarySimpa false
namespace Go.Proofs.YtnphhelbianjpaaGreatDoor
open Go Go.Proofs.YtnphhelbianjpaaGreatDoor.V Go.Proofs
set_option maxRecDepth 1000000
set_option maxHeartbeats 4000000
noncomputable def F31 : CF prog 31 := ⟨_, by with_unfolding_all rfl, by kernel_rfl⟩
noncomputable def F5 : CF prog 5 := ⟨_, by with_unfolding_all rfl, by kernel_rfl⟩
noncomputable def F56 : CF prog 56 := ⟨_, by with_unfolding_all rfl, by kernel_rfl⟩
noncomputable def F34 : CF prog 34 := ⟨_, by with_unfolding_all rfl, by kernel_rfl⟩
noncomputable def F72 : CF prog 72 := ⟨_, by with_unfolding_all rfl, by kernel_rfl⟩
noncomputable def F12 : CF prog 12 := ⟨_, by with_unfolding_all rfl, by kernel_rfl⟩
noncomputable def F45 : CF prog 45 := ⟨_, by with_unfolding_all rfl, by kernel_rfl⟩
noncomputable def F82 : CF prog 82 := ⟨_, by with_unfolding_all rfl, by kernel_rfl⟩
noncomputable def F92 : CF prog 92 := ⟨_, by with_unfolding_all rfl, by kernel_rfl⟩
noncomputable def F4 : CF prog 4 := ⟨_, by with_unfolding_all rfl, by kernel_rfl⟩
noncomputable def F61 : CF prog 61 := ⟨_, by with_unfolding_all rfl, by kernel_rfl⟩
noncomputable def F116 : CF prog 116 := ⟨_, by with_unfolding_all rfl, by kernel_rfl⟩
noncomputable def F89 : CF prog 89 := ⟨_, by with_unfolding_all rfl, by kernel_rfl⟩
noncomputable def F66 : CF prog 66 := ⟨_, by with_unfolding_all rfl, by kernel_rfl⟩
noncomputable def F81 : CF prog 81 := ⟨_, by with_unfolding_all rfl, by kernel_rfl⟩
noncomputable def F108 : CF prog 108 := ⟨_, by with_unfolding_all rfl, by kernel_rfl⟩
noncomputable def F69 : CF prog 69 := ⟨_, by with_unfolding_all rfl, by kernel_rfl⟩
noncomputable def F54 : CF prog 54 := ⟨_, by with_unfolding_all rfl, by kernel_rfl⟩
noncomputable def F93 : CF prog 93 := ⟨_, by with_unfolding_all rfl, by kernel_rfl⟩
noncomputable def F91 : CF prog 91 := ⟨_, by with_unfolding_all rfl, by kernel_rfl⟩
noncomputable def F112 : CF prog 112 := ⟨_, by with_unfolding_all rfl, by kernel_rfl⟩
noncomputable def F99 : CF prog 99 := ⟨_, by with_unfolding_all rfl, by kernel_rfl⟩
noncomputable def F85 : CF prog 85 := ⟨_, by with_unfolding_all rfl, by kernel_rfl⟩
noncomputable def F127 : CF prog 127 := ⟨_, by with_unfolding_all rfl, by kernel_rfl⟩
noncomputable def F130 : CF prog 130 := ⟨_, by with_unfolding_all rfl, by kernel_rfl⟩
noncomputable def F10 : CF prog 10 := ⟨_, by with_unfolding_all rfl, by kernel_rfl⟩
noncomputable def F87 : CF prog 87 := ⟨_, by with_unfolding_all rfl, by kernel_rfl⟩
noncomputable def F11 : CF prog 11 := ⟨_, by with_unfolding_all rfl, by kernel_rfl⟩
noncomputable def F22 : CF prog 22 := ⟨_, by with_unfolding_all rfl, by kernel_rfl⟩
noncomputable def F90 : CF prog 90 := ⟨_, by with_unfolding_all rfl, by kernel_rfl⟩
noncomputable def F154 : CF prog 154 := ⟨_, by with_unfolding_all rfl, by kernel_rfl⟩
noncomputable def F117 : CF prog 117 := ⟨_, by with_unfolding_all rfl, by kernel_rfl⟩
noncomputable def F97 : CF prog 97 := ⟨_, by with_unfolding_all rfl, by kernel_rfl⟩
noncomputable def F118 : CF prog 118 := ⟨_, by with_unfolding_all rfl, by kernel_rfl⟩
noncomputable def F134 : CF prog 134 := ⟨_, by with_unfolding_all rfl, by kernel_rfl⟩
noncomputable def F110 : CF prog 110 := ⟨_, by with_unfolding_all rfl, by kernel_rfl⟩
noncomputable def F24 : CF prog 24 := ⟨_, by with_unfolding_all rfl, by kernel_rfl⟩
noncomputable def F143 : CF prog 143 := ⟨_, by with_unfolding_all rfl, by kernel_rfl⟩
noncomputable def F83 : CF prog 83 := ⟨_, by with_unfolding_all rfl, by kernel_rfl⟩
noncomputable def F86 : CF prog 86 := ⟨_, by with_unfolding_all rfl, by kernel_rfl⟩
noncomputable def F136 : CF prog 136 := ⟨_, by with_unfolding_all rfl, by kernel_rfl⟩
noncomputable def F128 : CF prog 128 := ⟨_, by with_unfolding_all rfl, by kernel_rfl⟩
noncomputable def F88 : CF prog 88 := ⟨_, by with_unfolding_all rfl, by kernel_rfl⟩
noncomputable def F159 : CF prog 159 := ⟨_, by with_unfolding_all rfl, by kernel_rfl⟩
end Go.Proofs.YtnphhelbianjpaaGreatDoor
