/-
  The law TrailReads holds of any numbers: its row, and its card.
-/
import Derived.Test.YtpeifhiphfpajaaDoorRRow
import Derived.Test.YtpeifhiphfpajaaDoorRPS
set_option linter.all false
set_option linter.unusedSimpArgs false
set_option linter.unusedVariables false
set_option linter.unnecessarySimpa false
namespace Go.Proofs.YtpeifhiphfpajaaDoor
open Go Go.Proofs.YtpeifhiphfpajaaDoor.V Go.RowKit Go.ChangeShapes Go.WideShapes Go.ChangeAt Go.Shelf Go.Proofs

set_option maxRecDepth 100000 in
theorem trailReads_lifted (os : Os) (started : os.Started) (H : Type) (enc : TypeId × Value → H) :
  ReturnsInHanded {} Tryd.checked os 4 .any (fun w args => (Rows.trailReadsSpec.pre enc Tryd.prog Tryd.f4 Rows.trailReadsRow.domain false w args ∧ laidMetH Tryd.prog Rows.trailReadsRow.laid w) ∧ sizedMet enc Tryd.prog Tryd.f4 (OpenSpec.ofChange Rows.trailReadsSpec) false w args)
   (Rows.trailReadsSpec.post enc Tryd.prog Tryd.f4 false true false false) := by
 refine returnsInHanded_of_change_and (C := Tryd.checked) (X := fun w _ => laidMetH Tryd.prog Rows.trailReadsRow.laid w) (fun _ _ _ hh h => h.of_heap hh) own' started (by kernel_rfl) (show Tryd.checked.prog.funcs[4]? = some Tryd.f4 by kernel_rfl)
  (ChangeSpec.witness_shaped (enc := enc) (C := Tryd.checked) (os := os) (X := fun w _ => laidMetH Tryd.prog Rows.trailReadsRow.laid w) false (World.laidAll Tryd.prog os Rows.trailReadsRow.laid) #[.slice none 0 0, .slice none 0 0] 12 (World.laidAll_os _ _ _)
   (World.shaped_of_ZipB (by kernel_rfl) (by kernel_rfl)) (by kernel_rfl) (by kernel_rfl) (by kernel_rfl)
   (by rw [MakeChecks.laidMetH_plain _ _ _ (by kernel_rfl)]; exact laidMet_laidAll _ (by kernel_rfl) (by kernel_rfl))) ?_
 intro W base args ds gs before hval hW _ _ hL _
 refine law_run (G := Tabs) (tb := Tryd.f4.resultTypes[0]!) 8 laidOut' (by kernel_rfl) (by kernel_rfl) (by kernel_rfl) rfl (fun ds h => ?_) hval hW (tabs_of hL) fun xs h => ?_
 ·rw [show Tryd.f4.params.toList.length = 2 by kernel_rfl] at h
  match ds, h with
  | [d0, d1], _ => rfl
 ·rw [show Tryd.f4.params.toList = [22, 23] by kernel_rfl] at h
  cases h with
  | cons g0 h =>
   cases h with
   | cons g1 h =>
    cases h
    obtain ⟨a0, rfl, r0⟩ := acts_tyN g0
    obtain ⟨a1, rfl⟩ := ints_ty g1
    exact trailReads a0 r0 a1

theorem trailReads_holds : Rows.TrailReadsSaid :=
 OpenClaim.holds_of_wide 4 Tryd.f4 rfl rfl rfl rfl rfl rfl rfl ⟨rfl, rfl, rfl, rfl, rfl⟩ rfl rfl rfl rfl rfl (by kernel_rfl) (show Tryd.checked.prog.funcs[4]? = some Tryd.f4 by kernel_rfl) (by kernel_rfl)
  (of_decide_eq_true (by kernel_rfl)) (by unfold Func.isWrapper; first | (rw [if_pos (by decide +kernel)]; kernel_rfl) | (rw [if_neg (by decide +kernel)]; exact ⟨rfl, rfl⟩))
  (fun os started H enc _ => trailReads_lifted os started H enc)

theorem trailReads_card : Rows.TrailReadsCardSaid :=
 Claim7.holds_tied_plain_at .later [] [.data, .pinned] true (true, "4a4b4c3abd885bb2c94d17d5323686bca9ee630528068b90a13dce18c420b3dc") true trailReads_holds (fun _ h => by cases h) (by kernel_rfl) (fun _ h => by cases h) trailReads_row_tie rfl ⟨rfl, rfl⟩ (by kernel_rfl) rfl
  (fun f fn hf hfn => by
   obtain rfl : f = 4 := Option.some.inj ((show Tryd.prog.funcNamed "paling/palinglaw28.TrailReads" = some 4 by kernel_rfl).symm.trans hf) |>.symm
   obtain rfl : fn = Tryd.f4 := (Option.some.inj ((show Tryd.prog.funcs[4]? = some Tryd.f4 by kernel_rfl).symm.trans hfn)).symm
   refine ⟨by kernel_rfl, fun j t ht => ?_⟩
   have hall : (Tryd.f4.params.toList.all fun u => !Tryd.prog.wantsStandIn u) = true := by kernel_rfl
   have hm : t ∈ Tryd.f4.params.toList := by simpa using Array.mem_of_getElem? ht
   exact (show Tryd.prog.wantsStandIn t = false by simpa using List.all_eq_true.1 hall t hm))
  (by kernel_rfl)
#print axioms trailReads_card
end Go.Proofs.YtpeifhiphfpajaaDoor
