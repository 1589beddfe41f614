/-
  The law TrailNone holds of any program, any acts and any pick: its row, and its card.
-/
import Derived.Test.YtpeifhiphfpajaaGreatDoorRRow
import Derived.Test.YtpeifhiphfpajaaGreatDoorRPV
set_option linter.all false
set_option linter.unusedSimpArgs false
set_option linter.unusedVariables false
set_option linter.unnecessarySimpa false
namespace Go.Proofs.YtpeifhiphfpajaaGreatDoor
open Go Go.Proofs.YtpeifhiphfpajaaGreatDoor.V Go.RowKit Go.ChangeShapes Go.WideShapes Go.ChangeAt Go.Shelf Go.Proofs

set_option maxRecDepth 100000 in
theorem trailNone_lifted (os : Os) (started : os.Started) (H : Type) (enc : TypeId × Value → H) :
  ReturnsInHanded {} Tryz.checked os 5 .any (fun w args => (Rows.trailNoneSpec.pre enc Tryz.prog Tryz.f5 Rows.trailNoneRow.domain false w args ∧ laidMetH Tryz.prog Rows.trailNoneRow.laid w) ∧ sizedMet enc Tryz.prog Tryz.f5 (OpenSpec.ofChange Rows.trailNoneSpec) false w args)
   (Rows.trailNoneSpec.post enc Tryz.prog Tryz.f5 false true false false) := by
 refine returnsInHanded_of_change_and (C := Tryz.checked) (X := fun w _ => laidMetH Tryz.prog Rows.trailNoneRow.laid w) (fun _ _ _ hh h => h.of_heap hh) own' started (by kernel_rfl) (show Tryz.checked.prog.funcs[5]? = some Tryz.f5 by kernel_rfl)
  (ChangeSpec.witness_shaped (enc := enc) (C := Tryz.checked) (os := os) (X := fun w _ => laidMetH Tryz.prog Rows.trailNoneRow.laid w) false (World.laidAll Tryz.prog os Rows.trailNoneRow.laid) #[.agg #[.slice none 0 0, .slice none 0 0], .slice none 0 0, .agg #[.int .i64 0, .bool false]] 12 (World.laidAll_os _ _ _)
   (World.shaped_of_ZipB (by kernel_rfl) (by kernel_rfl)) (by kernel_rfl) (by kernel_rfl) (by kernel_rfl)
   (by rw [MakeChecks.laidMetH_plain _ _ _ (by kernel_rfl)]; exact laidMet_laidAll _ (by kernel_rfl) (by kernel_rfl))) ?_
 intro W base args ds gs before hval hW _ _ hL _
 refine law_run (G := Tabs) (tb := Tryz.f5.resultTypes[0]!) 8 laidOut' (by kernel_rfl) (by kernel_rfl) (by kernel_rfl) rfl (fun ds h => ?_) hval hW (tabs_of hL) fun xs h => ?_
 ·rw [show Tryz.f5.params.toList.length = 3 by kernel_rfl] at h
  match ds, h with
  | [d0, d1, d2], _ => rfl
 ·rw [show Tryz.f5.params.toList = [27, 22, 47] by kernel_rfl] at h
  cases h with
  | cons g0 h =>
   cases h with
   | cons g1 h =>
    cases h with
    | cons g2 h =>
     cases h
     obtain ⟨a0, rfl⟩ := prg_tyP g0
     obtain ⟨a1, rfl, r1⟩ := acts_tyN g1
     obtain ⟨a2, rfl⟩ := pick_ty g2
     exact trailNone a0 a1 r1 a2

theorem trailNone_holds : Rows.TrailNoneSaid :=
 OpenClaim.holds_of_wide 5 Tryz.f5 rfl rfl rfl rfl rfl rfl rfl ⟨rfl, rfl, rfl, rfl, rfl⟩ rfl rfl rfl rfl rfl (by kernel_rfl) (show Tryz.checked.prog.funcs[5]? = some Tryz.f5 by kernel_rfl) (by kernel_rfl)
  (of_decide_eq_true (by kernel_rfl)) (by unfold Func.isWrapper; first | (rw [if_pos (by decide +kernel)]; kernel_rfl) | (rw [if_neg (by decide +kernel)]; exact ⟨rfl, rfl⟩))
  (fun os started H enc _ => trailNone_lifted os started H enc)

theorem trailNone_card : Rows.TrailNoneCardSaid :=
 Claim7.holds_tied_plain_at .later [] [.data, .pinned] true (true, "6f7c5d8afb88d1f4b002a348648dd0c560d5a3f34a7428652c3dd301d7af63ce") true trailNone_holds (fun _ h => by cases h) (by kernel_rfl) (fun _ h => by cases h) trailNone_row_tie rfl ⟨rfl, rfl⟩ (by kernel_rfl) rfl
  (fun f fn hf hfn => by
   obtain rfl : f = 5 := Option.some.inj ((show Tryz.prog.funcNamed "paling/palinglaw28.TrailNone" = some 5 by kernel_rfl).symm.trans hf) |>.symm
   obtain rfl : fn = Tryz.f5 := (Option.some.inj ((show Tryz.prog.funcs[5]? = some Tryz.f5 by kernel_rfl).symm.trans hfn)).symm
   refine ⟨by kernel_rfl, fun j t ht => ?_⟩
   have hall : (Tryz.f5.params.toList.all fun u => !Tryz.prog.wantsStandIn u) = true := by kernel_rfl
   have hm : t ∈ Tryz.f5.params.toList := by simpa using Array.mem_of_getElem? ht
   exact (show Tryz.prog.wantsStandIn t = false by simpa using List.all_eq_true.1 hall t hm))
  (by kernel_rfl)
#print axioms trailNone_card
end Go.Proofs.YtpeifhiphfpajaaGreatDoor
