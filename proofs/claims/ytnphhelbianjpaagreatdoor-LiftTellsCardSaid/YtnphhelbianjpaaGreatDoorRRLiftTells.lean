/-
  The law LiftTells holds of any numbers: its row, and its card.
-/
import Derived.Test.YtnphhelbianjpaaGreatDoorRRow
import Derived.Test.YtnphhelbianjpaaGreatDoorRPV
import Derived.Test.YtnphhelbianjpaaGreatDoorRPU
set_option linter.all false
set_option linter.unusedSimpArgs false
set_option linter.unusedVariables false
set_option linter.unnecessarySimpa false
namespace Go.Proofs.YtnphhelbianjpaaGreatDoor
open Go Go.Proofs.YtnphhelbianjpaaGreatDoor.V Go.RowKit Go.ChangeShapes Go.WideShapes Go.ChangeAt Go.Shelf Go.Proofs

set_option maxRecDepth 100000 in
theorem liftTells_lifted (os : Os) (started : os.Started) (H : Type) (enc : TypeId × Value → H) :
  ReturnsInHanded {} Tryz.checked os 3 .any (fun w args => (Rows.liftTellsSpec.pre enc Tryz.prog Tryz.f3 Rows.liftTellsRow.domain false w args ∧ laidMetH Tryz.prog Rows.liftTellsRow.laid w) ∧ sizedMet enc Tryz.prog Tryz.f3 (OpenSpec.ofChange Rows.liftTellsSpec) false w args)
   (Rows.liftTellsSpec.post enc Tryz.prog Tryz.f3 false true false false) := by
 refine returnsInHanded_of_change_and (C := Tryz.checked) (X := fun w _ => laidMetH Tryz.prog Rows.liftTellsRow.laid w) (fun _ _ _ hh h => h.of_heap hh) own' started (by kernel_rfl) (show Tryz.checked.prog.funcs[3]? = some Tryz.f3 by kernel_rfl)
  (ChangeSpec.witness_shaped (enc := enc) (C := Tryz.checked) (os := os) (X := fun w _ => laidMetH Tryz.prog Rows.liftTellsRow.laid w) false (World.laidAll Tryz.prog os Rows.liftTellsRow.laid) #[.slice none 0 0, .slice none 0 0, .bool false, .bool false, .slice none 0 0] 12 (World.laidAll_os _ _ _)
   (World.shaped_of_ZipB (by kernel_rfl) (by kernel_rfl)) (by kernel_rfl) (by kernel_rfl) (by kernel_rfl)
   (by rw [MakeChecks.laidMetH_plain _ _ _ (by kernel_rfl)]; exact laidMet_laidAll _ (by kernel_rfl) (by kernel_rfl))) ?_
 intro W base args ds gs before hval hW _ _ hL _
 refine law_run (G := Tabs) (tb := Tryz.f3.resultTypes[0]!) 8 laidOut' (by kernel_rfl) (by kernel_rfl) (by kernel_rfl) rfl (fun ds h => ?_) hval hW (tabs_of hL) fun xs h => ?_
 ·rw [show Tryz.f3.params.toList.length = 5 by kernel_rfl] at h
  match ds, h with
  | [d0, d1, d2, d3, d4], _ => rfl
 ·rw [show Tryz.f3.params.toList = [22, 23, 4, 4, 24] by kernel_rfl] at h
  cases h with
  | cons g0 h =>
   cases h with
   | cons g1 h =>
    cases h with
    | cons g2 h =>
     cases h with
     | cons g3 h =>
      cases h with
      | cons g4 h =>
       cases h
       obtain ⟨a0, rfl, r0⟩ := acts_tyN g0
       obtain ⟨a1, rfl⟩ := ptss_ty g1
       obtain ⟨a2, rfl⟩ := Go.Proofs.YtnphhelbianjpaaGreatDoor.V.ty_bool g2 (by kernel_rfl)
       obtain ⟨a3, rfl⟩ := Go.Proofs.YtnphhelbianjpaaGreatDoor.V.ty_bool g3 (by kernel_rfl)
       obtain ⟨a4, rfl⟩ := ints_ty g4
       exact liftTells a0 r0 a1 a2 a3 a4

theorem liftTells_holds : Rows.LiftTellsSaid :=
 OpenClaim.holds_of_wide 3 Tryz.f3 rfl rfl rfl rfl rfl rfl rfl ⟨rfl, rfl, rfl, rfl, rfl⟩ rfl rfl rfl rfl rfl (by kernel_rfl) (show Tryz.checked.prog.funcs[3]? = some Tryz.f3 by kernel_rfl) (by kernel_rfl)
  (of_decide_eq_true (by kernel_rfl)) (by unfold Func.isWrapper; first | (rw [if_pos (by decide +kernel)]; kernel_rfl) | (rw [if_neg (by decide +kernel)]; exact ⟨rfl, rfl⟩))
  (fun os started H enc _ => liftTells_lifted os started H enc)

theorem liftTells_card : Rows.LiftTellsCardSaid :=
 Claim7.holds_tied_plain_at .later [] [.data, .pinned] true (true, "df299dca1aab642ff3a243c8437b0179f17e09f28740bcb4047537aa152c3cdc") true liftTells_holds (fun _ h => by cases h) (by kernel_rfl) (fun _ h => by cases h) liftTells_row_tie rfl ⟨rfl, rfl⟩ (by kernel_rfl) rfl
  (fun f fn hf hfn => by
   obtain rfl : f = 3 := Option.some.inj ((show Tryz.prog.funcNamed "paling/palinglaw30.LiftTells" = some 3 by kernel_rfl).symm.trans hf) |>.symm
   obtain rfl : fn = Tryz.f3 := (Option.some.inj ((show Tryz.prog.funcs[3]? = some Tryz.f3 by kernel_rfl).symm.trans hfn)).symm
   refine ⟨by kernel_rfl, fun j t ht => ?_⟩
   have hall : (Tryz.f3.params.toList.all fun u => !Tryz.prog.wantsStandIn u) = true := by kernel_rfl
   have hm : t ∈ Tryz.f3.params.toList := by simpa using Array.mem_of_getElem? ht
   exact (show Tryz.prog.wantsStandIn t = false by simpa using List.all_eq_true.1 hall t hm))
  (by kernel_rfl)
#print axioms liftTells_card
end Go.Proofs.YtnphhelbianjpaaGreatDoor
