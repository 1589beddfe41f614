/-
  The program's functions: their numbers, and their forms, which 'compN' gives.
-/
import Derived.Test.YtpeifhiphfpajaaGreatDoorRF0
set_option linter.all false
set_option linter.unusedSimpArgs false
set_option linter.unusedVariables false
set_option linter.unnecessarySimpa false
namespace Go.Proofs.YtpeifhiphfpajaaGreatDoor
open Go Go.Proofs.YtpeifhiphfpajaaGreatDoor.V Go.Proofs
set_option maxRecDepth 1000000
set_option maxHeartbeats 4000000
noncomputable def F31 : CF prog 31 := ⟨_, by with_unfolding_all rfl, by kernel_rfl⟩
noncomputable def F23 : CF prog 23 := ⟨_, by with_unfolding_all rfl, by kernel_rfl⟩
noncomputable def F84 : CF prog 84 := ⟨_, by with_unfolding_all rfl, by kernel_rfl⟩
noncomputable def F115 : CF prog 115 := ⟨_, by with_unfolding_all rfl, by kernel_rfl⟩
noncomputable def F28 : CF prog 28 := ⟨_, by with_unfolding_all rfl, by kernel_rfl⟩
noncomputable def F105 : CF prog 105 := ⟨_, by with_unfolding_all rfl, by kernel_rfl⟩
noncomputable def F54 : CF prog 54 := ⟨_, by with_unfolding_all rfl, by kernel_rfl⟩
noncomputable def F11 : CF prog 11 := ⟨_, by with_unfolding_all rfl, by kernel_rfl⟩
noncomputable def F67 : CF prog 67 := ⟨_, by with_unfolding_all rfl, by kernel_rfl⟩
noncomputable def F17 : CF prog 17 := ⟨_, by with_unfolding_all rfl, by kernel_rfl⟩
noncomputable def F32 : CF prog 32 := ⟨_, by with_unfolding_all rfl, by kernel_rfl⟩
noncomputable def F127 : CF prog 127 := ⟨_, by with_unfolding_all rfl, by kernel_rfl⟩
noncomputable def F63 : CF prog 63 := ⟨_, by with_unfolding_all rfl, by kernel_rfl⟩
noncomputable def F16 : CF prog 16 := ⟨_, by with_unfolding_all rfl, by kernel_rfl⟩
noncomputable def F27 : CF prog 27 := ⟨_, by with_unfolding_all rfl, by kernel_rfl⟩
noncomputable def F51 : CF prog 51 := ⟨_, by with_unfolding_all rfl, by kernel_rfl⟩
noncomputable def F107 : CF prog 107 := ⟨_, by with_unfolding_all rfl, by kernel_rfl⟩
noncomputable def F81 : CF prog 81 := ⟨_, by with_unfolding_all rfl, by kernel_rfl⟩
noncomputable def F7 : CF prog 7 := ⟨_, by with_unfolding_all rfl, by kernel_rfl⟩
noncomputable def F33 : CF prog 33 := ⟨_, by with_unfolding_all rfl, by kernel_rfl⟩
noncomputable def F111 : CF prog 111 := ⟨_, by with_unfolding_all rfl, by kernel_rfl⟩
noncomputable def F98 : CF prog 98 := ⟨_, by with_unfolding_all rfl, by kernel_rfl⟩
noncomputable def F34 : CF prog 34 := ⟨_, by with_unfolding_all rfl, by kernel_rfl⟩
noncomputable def F57 : CF prog 57 := ⟨_, by with_unfolding_all rfl, by kernel_rfl⟩
noncomputable def F104 : CF prog 104 := ⟨_, by with_unfolding_all rfl, by kernel_rfl⟩
noncomputable def F91 : CF prog 91 := ⟨_, by with_unfolding_all rfl, by kernel_rfl⟩
noncomputable def F121 : CF prog 121 := ⟨_, by with_unfolding_all rfl, by kernel_rfl⟩
noncomputable def F8 : CF prog 8 := ⟨_, by with_unfolding_all rfl, by kernel_rfl⟩
noncomputable def F82 : CF prog 82 := ⟨_, by with_unfolding_all rfl, by kernel_rfl⟩
noncomputable def F12 : CF prog 12 := ⟨_, by with_unfolding_all rfl, by kernel_rfl⟩
noncomputable def F62 : CF prog 62 := ⟨_, by with_unfolding_all rfl, by kernel_rfl⟩
noncomputable def F122 : CF prog 122 := ⟨_, by with_unfolding_all rfl, by kernel_rfl⟩
noncomputable def F72 : CF prog 72 := ⟨_, by with_unfolding_all rfl, by kernel_rfl⟩
noncomputable def F90 : CF prog 90 := ⟨_, by with_unfolding_all rfl, by kernel_rfl⟩
noncomputable def F101 : CF prog 101 := ⟨_, by with_unfolding_all rfl, by kernel_rfl⟩
noncomputable def F19 : CF prog 19 := ⟨_, by with_unfolding_all rfl, by kernel_rfl⟩
noncomputable def F37 : CF prog 37 := ⟨_, by with_unfolding_all rfl, by kernel_rfl⟩
noncomputable def F58 : CF prog 58 := ⟨_, by with_unfolding_all rfl, by kernel_rfl⟩
noncomputable def F103 : CF prog 103 := ⟨_, by with_unfolding_all rfl, by kernel_rfl⟩
noncomputable def F70 : CF prog 70 := ⟨_, by with_unfolding_all rfl, by kernel_rfl⟩
noncomputable def F124 : CF prog 124 := ⟨_, by with_unfolding_all rfl, by kernel_rfl⟩
noncomputable def F128 : CF prog 128 := ⟨_, by with_unfolding_all rfl, by kernel_rfl⟩
end Go.Proofs.YtpeifhiphfpajaaGreatDoor
