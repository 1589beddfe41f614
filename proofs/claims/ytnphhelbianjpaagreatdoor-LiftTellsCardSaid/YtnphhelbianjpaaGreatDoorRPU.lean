/-
  Walks of functions of the program, and what the laws need of them.
-/
import Derived.Test.YtnphhelbianjpaaGreatDoorRPG
import Derived.Test.YtnphhelbianjpaaGreatDoorRPM
set_option linter.all false
set_option linter.unusedSimpArgs false
set_option linter.unusedVariables false
set_option linter.unnecessarySimpa false
namespace Go.Proofs.YtnphhelbianjpaaGreatDoor
set_option maxRecDepth 20000
open Go Go.Proofs.YtnphhelbianjpaaGreatDoor.V Go.Proofs
end Go.Proofs.YtnphhelbianjpaaGreatDoor
namespace Go.Proofs.YtnphhelbianjpaaGreatDoor
set_option maxRecDepth 20000
open Go Go.Proofs.YtnphhelbianjpaaGreatDoor.V Go.Proofs
theorem un_ptss : prog.underlying 23 = some (.slice 24) := by kernel_rfl
theorem ce_pts : prog.cellsOf 24 = 1 := by kernel_rfl
theorem ptss_ty {d : Nat} {x : TV} (h : TyV prog (d + 3) x 23) : ∃ l : List (List Int), x = ptR l := by
 obtain ⟨xs, e, k⟩ := tl_sli un_ptss ce_pts (tv_sli un_ptss h)
 cases e
 obtain ⟨l, rfl⟩ := map_of' (c := fun l : List Int => [rwI l]) fun x hx => by
  obtain ⟨ys, rfl, k2⟩ := tl_sli un_ints ce_int (k x hx)
  obtain ⟨l, rfl⟩ := map_of' (c := fun s => [tI s]) fun x hx => let ⟨s, e, _⟩ := tl_int un_int (k2 x hx); ⟨s, e⟩
  exact ⟨l, rfl⟩
 exact ⟨l, rfl⟩
end Go.Proofs.YtnphhelbianjpaaGreatDoor
