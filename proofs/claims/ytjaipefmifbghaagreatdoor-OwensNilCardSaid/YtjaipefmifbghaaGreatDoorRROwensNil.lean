/-
  The law OwensNil holds of any program and numbers: its row, and its card.
-/
import Derived.Test.YtjaipefmifbghaaGreatDoorRRow
import Derived.Test.YtjaipefmifbghaaGreatDoorRPN
set_option linter.all false
set_option linter.unusedSimpArgs false
set_option linter.unusedVariables false
set_option linter.unnecessarySimpa false
namespace Go.Proofs.YtjaipefmifbghaaGreatDoor
open Go Go.Proofs.YtjaipefmifbghaaGreatDoor.V Go.RowKit Go.ChangeShapes Go.WideShapes Go.ChangeAt Go.Shelf Go.Proofs

set_option maxRecDepth 100000 in
theorem owensNil_lifted (os : Os) (started : os.Started) (H : Type) (enc : TypeId × Value → H) :
  ReturnsInHanded {} Tryz.checked os 6 .any (fun w args => (Rows.owensNilSpec.pre enc Tryz.prog Tryz.f6 Rows.owensNilRow.domain false w args ∧ laidMetH Tryz.prog Rows.owensNilRow.laid w) ∧ sizedMet enc Tryz.prog Tryz.f6 (OpenSpec.ofChange Rows.owensNilSpec) false w args)
   (Rows.owensNilSpec.post enc Tryz.prog Tryz.f6 false true false false) := by
 refine returnsInHanded_of_change_and (C := Tryz.checked) (X := fun w _ => laidMetH Tryz.prog Rows.owensNilRow.laid w) (fun _ _ _ hh h => h.of_heap hh) own' started (by kernel_rfl) (show Tryz.checked.prog.funcs[6]? = some Tryz.f6 by kernel_rfl)
  (ChangeSpec.witness_shaped (enc := enc) (C := Tryz.checked) (os := os) (X := fun w _ => laidMetH Tryz.prog Rows.owensNilRow.laid w) false (World.laidAll Tryz.prog os Rows.owensNilRow.laid) #[.agg #[.slice none 0 0, .slice none 0 0], .slice none 0 0, .slice none 0 0, .slice none 0 0] 12 (World.laidAll_os _ _ _)
   (World.shaped_of_ZipB (by kernel_rfl) (by kernel_rfl)) (by kernel_rfl) (by kernel_rfl) (by kernel_rfl)
   (by rw [MakeChecks.laidMetH_plain _ _ _ (by kernel_rfl)]; exact laidMet_laidAll _ (by kernel_rfl) (by kernel_rfl))) ?_
 intro W base args ds gs before hval hW _ _ hL _
 refine law_run (G := Tabs) (tb := Tryz.f6.resultTypes[0]!) 8 laidOut' (by kernel_rfl) (by kernel_rfl) (by kernel_rfl) rfl (fun ds h => ?_) hval hW (tabs_of hL) fun xs h => ?_
 ·rw [show Tryz.f6.params.toList.length = 4 by kernel_rfl] at h
  match ds, h with
  | [d0, d1, d2, d3], _ => rfl
 ·rw [show Tryz.f6.params.toList = [27, 22, 23, 23] by kernel_rfl] at h
  cases h with
  | cons g0 h =>
   cases h with
   | cons g1 h =>
    cases h with
    | cons g2 h =>
     cases h with
     | cons g3 h =>
      cases h
      obtain ⟨a0, rfl⟩ := prg_tyP g0
      obtain ⟨a1, rfl, r1⟩ := acts_tyN g1
      obtain ⟨a2, rfl⟩ := ints_ty g2
      obtain ⟨a3, rfl⟩ := ints_ty g3
      exact owensNil a0 a1 r1 a2 a3

theorem owensNil_holds : Rows.OwensNilSaid :=
 OpenClaim.holds_of_wide 6 Tryz.f6 rfl rfl rfl rfl rfl rfl rfl ⟨rfl, rfl, rfl, rfl, rfl⟩ rfl rfl rfl rfl rfl (by kernel_rfl) (show Tryz.checked.prog.funcs[6]? = some Tryz.f6 by kernel_rfl) (by kernel_rfl)
  (of_decide_eq_true (by kernel_rfl)) (by unfold Func.isWrapper; first | (rw [if_pos (by decide +kernel)]; kernel_rfl) | (rw [if_neg (by decide +kernel)]; exact ⟨rfl, rfl⟩))
  (fun os started H enc _ => owensNil_lifted os started H enc)

theorem owensNil_card : Rows.OwensNilCardSaid :=
 Claim7.holds_tied_plain_at .later [] [.data, .pinned] true (true, "3816a3eaa6343697ea995782c08bd21d9f9ce81daf4b7dbcb25b9f01a6f10d37") true owensNil_holds (fun _ h => by cases h) (by kernel_rfl) (fun _ h => by cases h) owensNil_row_tie rfl ⟨rfl, rfl⟩ (by kernel_rfl) rfl
  (fun f fn hf hfn => by
   obtain rfl : f = 6 := Option.some.inj ((show Tryz.prog.funcNamed "paling/palinglaw17.OwensNil" = some 6 by kernel_rfl).symm.trans hf) |>.symm
   obtain rfl : fn = Tryz.f6 := (Option.some.inj ((show Tryz.prog.funcs[6]? = some Tryz.f6 by kernel_rfl).symm.trans hfn)).symm
   refine ⟨by kernel_rfl, fun j t ht => ?_⟩
   have hall : (Tryz.f6.params.toList.all fun u => !Tryz.prog.wantsStandIn u) = true := by kernel_rfl
   have hm : t ∈ Tryz.f6.params.toList := by simpa using Array.mem_of_getElem? ht
   exact (show Tryz.prog.wantsStandIn t = false by simpa using List.all_eq_true.1 hall t hm))
  (by kernel_rfl)
#print axioms owensNil_card
end Go.Proofs.YtjaipefmifbghaaGreatDoor
