/-
  The program's functions: their numbers, and their forms, which 'compN' gives.
-/
import Derived.Test.YtnphhelbianjpaaGreatDoorRF0
set_option linter.all false
set_option linter.unusedSimpArgs false
set_option linter.unusedVariables false
set_option linter.unnecessarySimpa false
namespace Go.Proofs.YtnphhelbianjpaaGreatDoor
open Go Go.Proofs.YtnphhelbianjpaaGreatDoor.V Go.Proofs
set_option maxRecDepth 1000000
set_option maxHeartbeats 4000000
noncomputable def F47 : CF prog 47 := ⟨_, by with_unfolding_all rfl, by kernel_rfl⟩
noncomputable def F5 : CF prog 5 := ⟨_, by with_unfolding_all rfl, by kernel_rfl⟩
noncomputable def F14 : CF prog 14 := ⟨_, by with_unfolding_all rfl, by kernel_rfl⟩
noncomputable def F146 : CF prog 146 := ⟨_, by with_unfolding_all rfl, by kernel_rfl⟩
noncomputable def F39 : CF prog 39 := ⟨_, by with_unfolding_all rfl, by kernel_rfl⟩
noncomputable def F72 : CF prog 72 := ⟨_, by with_unfolding_all rfl, by kernel_rfl⟩
noncomputable def F35 : CF prog 35 := ⟨_, by with_unfolding_all rfl, by kernel_rfl⟩
noncomputable def F45 : CF prog 45 := ⟨_, by with_unfolding_all rfl, by kernel_rfl⟩
noncomputable def F82 : CF prog 82 := ⟨_, by with_unfolding_all rfl, by kernel_rfl⟩
noncomputable def F92 : CF prog 92 := ⟨_, by with_unfolding_all rfl, by kernel_rfl⟩
noncomputable def F26 : CF prog 26 := ⟨_, by with_unfolding_all rfl, by kernel_rfl⟩
noncomputable def F78 : CF prog 78 := ⟨_, by with_unfolding_all rfl, by kernel_rfl⟩
noncomputable def F116 : CF prog 116 := ⟨_, by with_unfolding_all rfl, by kernel_rfl⟩
noncomputable def F57 : CF prog 57 := ⟨_, by with_unfolding_all rfl, by kernel_rfl⟩
noncomputable def F66 : CF prog 66 := ⟨_, by with_unfolding_all rfl, by kernel_rfl⟩
noncomputable def F55 : CF prog 55 := ⟨_, by with_unfolding_all rfl, by kernel_rfl⟩
noncomputable def F145 : CF prog 145 := ⟨_, by with_unfolding_all rfl, by kernel_rfl⟩
noncomputable def F43 : CF prog 43 := ⟨_, by with_unfolding_all rfl, by kernel_rfl⟩
noncomputable def F37 : CF prog 37 := ⟨_, by with_unfolding_all rfl, by kernel_rfl⟩
noncomputable def F132 : CF prog 132 := ⟨_, by with_unfolding_all rfl, by kernel_rfl⟩
noncomputable def F41 : CF prog 41 := ⟨_, by with_unfolding_all rfl, by kernel_rfl⟩
noncomputable def F107 : CF prog 107 := ⟨_, by with_unfolding_all rfl, by kernel_rfl⟩
noncomputable def F112 : CF prog 112 := ⟨_, by with_unfolding_all rfl, by kernel_rfl⟩
noncomputable def F67 : CF prog 67 := ⟨_, by with_unfolding_all rfl, by kernel_rfl⟩
noncomputable def F80 : CF prog 80 := ⟨_, by with_unfolding_all rfl, by kernel_rfl⟩
noncomputable def F85 : CF prog 85 := ⟨_, by with_unfolding_all rfl, by kernel_rfl⟩
noncomputable def F105 : CF prog 105 := ⟨_, by with_unfolding_all rfl, by kernel_rfl⟩
noncomputable def F153 : CF prog 153 := ⟨_, by with_unfolding_all rfl, by kernel_rfl⟩
noncomputable def F10 : CF prog 10 := ⟨_, by with_unfolding_all rfl, by kernel_rfl⟩
noncomputable def F103 : CF prog 103 := ⟨_, by with_unfolding_all rfl, by kernel_rfl⟩
noncomputable def F148 : CF prog 148 := ⟨_, by with_unfolding_all rfl, by kernel_rfl⟩
noncomputable def F96 : CF prog 96 := ⟨_, by with_unfolding_all rfl, by kernel_rfl⟩
noncomputable def F149 : CF prog 149 := ⟨_, by with_unfolding_all rfl, by kernel_rfl⟩
noncomputable def F144 : CF prog 144 := ⟨_, by with_unfolding_all rfl, by kernel_rfl⟩
noncomputable def F154 : CF prog 154 := ⟨_, by with_unfolding_all rfl, by kernel_rfl⟩
noncomputable def F17 : CF prog 17 := ⟨_, by with_unfolding_all rfl, by kernel_rfl⟩
noncomputable def F155 : CF prog 155 := ⟨_, by with_unfolding_all rfl, by kernel_rfl⟩
noncomputable def F134 : CF prog 134 := ⟨_, by with_unfolding_all rfl, by kernel_rfl⟩
noncomputable def F33 : CF prog 33 := ⟨_, by with_unfolding_all rfl, by kernel_rfl⟩
noncomputable def F110 : CF prog 110 := ⟨_, by with_unfolding_all rfl, by kernel_rfl⟩
noncomputable def F150 : CF prog 150 := ⟨_, by with_unfolding_all rfl, by kernel_rfl⟩
noncomputable def F143 : CF prog 143 := ⟨_, by with_unfolding_all rfl, by kernel_rfl⟩
noncomputable def F25 : CF prog 25 := ⟨_, by with_unfolding_all rfl, by kernel_rfl⟩
noncomputable def F86 : CF prog 86 := ⟨_, by with_unfolding_all rfl, by kernel_rfl⟩
noncomputable def F52 : CF prog 52 := ⟨_, by with_unfolding_all rfl, by kernel_rfl⟩
noncomputable def F88 : CF prog 88 := ⟨_, by with_unfolding_all rfl, by kernel_rfl⟩
noncomputable def F30 : CF prog 30 := ⟨_, by with_unfolding_all rfl, by kernel_rfl⟩
end Go.Proofs.YtnphhelbianjpaaGreatDoor
