/-
  The law LiftHolds holds of any numbers: its row, and its card.
-/
import Derived.Test.YtnphhelbianjpaaGreatDoorRRow
import Derived.Test.YtnphhelbianjpaaGreatDoorRPT
import Derived.Test.YtnphhelbianjpaaGreatDoorRPU
set_option linter.all false
set_option linter.unusedSimpArgs false
set_option linter.unusedVariables false
set_option linter.unnecessarySimpa false
namespace Go.Proofs.YtnphhelbianjpaaGreatDoor
open Go Go.Proofs.YtnphhelbianjpaaGreatDoor.V Go.RowKit Go.ChangeShapes Go.WideShapes Go.ChangeAt Go.Shelf Go.Proofs

set_option maxRecDepth 100000 in
theorem liftHolds_lifted (os : Os) (started : os.Started) (H : Type) (enc : TypeId × Value → H) :
  ReturnsInHanded {} Tryz.checked os 4 .any (fun w args => (Rows.liftHoldsSpec.pre enc Tryz.prog Tryz.f4 Rows.liftHoldsRow.domain false w args ∧ laidMetH Tryz.prog Rows.liftHoldsRow.laid w) ∧ sizedMet enc Tryz.prog Tryz.f4 (OpenSpec.ofChange Rows.liftHoldsSpec) false w args)
   (Rows.liftHoldsSpec.post enc Tryz.prog Tryz.f4 false true false false) := by
 refine returnsInHanded_of_change_and (C := Tryz.checked) (X := fun w _ => laidMetH Tryz.prog Rows.liftHoldsRow.laid w) (fun _ _ _ hh h => h.of_heap hh) own' started (by kernel_rfl) (show Tryz.checked.prog.funcs[4]? = some Tryz.f4 by kernel_rfl)
  (ChangeSpec.witness_shaped (enc := enc) (C := Tryz.checked) (os := os) (X := fun w _ => laidMetH Tryz.prog Rows.liftHoldsRow.laid w) false (World.laidAll Tryz.prog os Rows.liftHoldsRow.laid) #[.slice none 0 0, .slice none 0 0, .slice none 0 0] 12 (World.laidAll_os _ _ _)
   (World.shaped_of_ZipB (by kernel_rfl) (by kernel_rfl)) (by kernel_rfl) (by kernel_rfl) (by kernel_rfl)
   (by rw [MakeChecks.laidMetH_plain _ _ _ (by kernel_rfl)]; exact laidMet_laidAll _ (by kernel_rfl) (by kernel_rfl))) ?_
 intro W base args ds gs before hval hW _ _ hL _
 refine law_run (G := Tabs) (tb := Tryz.f4.resultTypes[0]!) 8 laidOut' (by kernel_rfl) (by kernel_rfl) (by kernel_rfl) rfl (fun ds h => ?_) hval hW (tabs_of hL) fun xs h => ?_
 ·rw [show Tryz.f4.params.toList.length = 3 by kernel_rfl] at h
  match ds, h with
  | [d0, d1, d2], _ => rfl
 ·rw [show Tryz.f4.params.toList = [22, 23, 24] by kernel_rfl] at h
  cases h with
  | cons g0 h =>
   cases h with
   | cons g1 h =>
    cases h with
    | cons g2 h =>
     cases h
     obtain ⟨a0, rfl, r0⟩ := acts_tyN g0
     obtain ⟨a1, rfl⟩ := ptss_ty g1
     obtain ⟨a2, rfl⟩ := ints_ty g2
     exact liftHolds a0 r0 a1 a2

theorem liftHolds_holds : Rows.LiftHoldsSaid :=
 OpenClaim.holds_of_wide 4 Tryz.f4 rfl rfl rfl rfl rfl rfl rfl ⟨rfl, rfl, rfl, rfl, rfl⟩ rfl rfl rfl rfl rfl (by kernel_rfl) (show Tryz.checked.prog.funcs[4]? = some Tryz.f4 by kernel_rfl) (by kernel_rfl)
  (of_decide_eq_true (by kernel_rfl)) (by unfold Func.isWrapper; first | (rw [if_pos (by decide +kernel)]; kernel_rfl) | (rw [if_neg (by decide +kernel)]; exact ⟨rfl, rfl⟩))
  (fun os started H enc _ => liftHolds_lifted os started H enc)

theorem liftHolds_card : Rows.LiftHoldsCardSaid :=
 Claim7.holds_tied_plain_at .later [] [.data, .pinned] true (true, "df299dca1aab642ff3a243c8437b0179f17e09f28740bcb4047537aa152c3cdc") true liftHolds_holds (fun _ h => by cases h) (by kernel_rfl) (fun _ h => by cases h) liftHolds_row_tie rfl ⟨rfl, rfl⟩ (by kernel_rfl) rfl
  (fun f fn hf hfn => by
   obtain rfl : f = 4 := Option.some.inj ((show Tryz.prog.funcNamed "paling/palinglaw30.LiftHolds" = some 4 by kernel_rfl).symm.trans hf) |>.symm
   obtain rfl : fn = Tryz.f4 := (Option.some.inj ((show Tryz.prog.funcs[4]? = some Tryz.f4 by kernel_rfl).symm.trans hfn)).symm
   refine ⟨by kernel_rfl, fun j t ht => ?_⟩
   have hall : (Tryz.f4.params.toList.all fun u => !Tryz.prog.wantsStandIn u) = true := by kernel_rfl
   have hm : t ∈ Tryz.f4.params.toList := by simpa using Array.mem_of_getElem? ht
   exact (show Tryz.prog.wantsStandIn t = false by simpa using List.all_eq_true.1 hall t hm))
  (by kernel_rfl)
#print axioms liftHolds_card
end Go.Proofs.YtnphhelbianjpaaGreatDoor
