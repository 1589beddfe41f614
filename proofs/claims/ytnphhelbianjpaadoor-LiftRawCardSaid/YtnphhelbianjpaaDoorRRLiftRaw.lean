/-
  The law LiftRaw holds of any program and any number: its row, and its card.
-/
import Derived.Test.YtnphhelbianjpaaDoorRRow
import Derived.Test.YtnphhelbianjpaaDoorRPO
import Derived.Test.YtnphhelbianjpaaDoorRPQ
set_option linter.all false
set_option linter.unusedSimpArgs false
set_option linter.unusedVariables false
set_option linter.unnecessarySimpa false
namespace Go.Proofs.YtnphhelbianjpaaDoor
open Go Go.Proofs.YtnphhelbianjpaaDoor.V Go.RowKit Go.ChangeShapes Go.WideShapes Go.ChangeAt Go.Shelf Go.Proofs

set_option maxRecDepth 100000 in
theorem liftRaw_lifted (os : Os) (started : os.Started) (H : Type) (enc : TypeId × Value → H) :
  ReturnsInHanded {} Tryd.checked os 4 .any (fun w args => (Rows.liftRawSpec.pre enc Tryd.prog Tryd.f4 Rows.liftRawRow.domain false w args ∧ laidMetH Tryd.prog Rows.liftRawRow.laid w) ∧ sizedMet enc Tryd.prog Tryd.f4 (OpenSpec.ofChange Rows.liftRawSpec) false w args)
   (Rows.liftRawSpec.post enc Tryd.prog Tryd.f4 false true false false) := by
 refine returnsInHanded_of_change_and (C := Tryd.checked) (X := fun w _ => laidMetH Tryd.prog Rows.liftRawRow.laid w) (fun _ _ _ hh h => h.of_heap hh) own' started (by kernel_rfl) (show Tryd.checked.prog.funcs[4]? = some Tryd.f4 by kernel_rfl)
  (ChangeSpec.witness_shaped (enc := enc) (C := Tryd.checked) (os := os) (X := fun w _ => laidMetH Tryd.prog Rows.liftRawRow.laid w) false (World.laidAll Tryd.prog os Rows.liftRawRow.laid) #[.agg #[.slice none 0 0, .slice none 0 0], .int .i64 0] 12 (World.laidAll_os _ _ _)
   (World.shaped_of_ZipB (by kernel_rfl) (by kernel_rfl)) (by kernel_rfl) (by kernel_rfl) (by kernel_rfl)
   (by rw [MakeChecks.laidMetH_plain _ _ _ (by kernel_rfl)]; exact laidMet_laidAll _ (by kernel_rfl) (by kernel_rfl))) ?_
 intro W base args ds gs before hval hW _ _ hL _
 refine law_run (G := Tabs) (tb := Tryd.f4.resultTypes[0]!) 8 laidOut' (by kernel_rfl) (by kernel_rfl) (by kernel_rfl) rfl (fun ds h => ?_) hval hW (tabs_of hL) fun xs h => ?_
 ·rw [show Tryd.f4.params.toList.length = 2 by kernel_rfl] at h
  match ds, h with
  | [d0, d1], _ => rfl
 ·rw [show Tryd.f4.params.toList = [28, 3] by kernel_rfl] at h
  cases h with
  | cons g0 h =>
   cases h with
   | cons g1 h =>
    cases h
    obtain ⟨a0, rfl⟩ := prg_tyP g0
    obtain ⟨a1, rfl, r1⟩ := Go.Proofs.YtnphhelbianjpaaDoor.V.ty_int (k := .i64) g1 (by kernel_rfl)
    exact liftRaw a0 a1

theorem liftRaw_holds : Rows.LiftRawSaid :=
 OpenClaim.holds_of_wide 4 Tryd.f4 rfl rfl rfl rfl rfl rfl rfl ⟨rfl, rfl, rfl, rfl, rfl⟩ rfl rfl rfl rfl rfl (by kernel_rfl) (show Tryd.checked.prog.funcs[4]? = some Tryd.f4 by kernel_rfl) (by kernel_rfl)
  (of_decide_eq_true (by kernel_rfl)) (by unfold Func.isWrapper; first | (rw [if_pos (by decide +kernel)]; kernel_rfl) | (rw [if_neg (by decide +kernel)]; exact ⟨rfl, rfl⟩))
  (fun os started H enc _ => liftRaw_lifted os started H enc)

theorem liftRaw_card : Rows.LiftRawCardSaid :=
 Claim7.holds_tied_plain_at .later [] [.data, .pinned] true (true, "e77ad4c106a5ace424bbc868013e1d0cd1e380a05634147a0ade4f4bc488fc59") true liftRaw_holds (fun _ h => by cases h) (by kernel_rfl) (fun _ h => by cases h) liftRaw_row_tie rfl ⟨rfl, rfl⟩ (by kernel_rfl) rfl
  (fun f fn hf hfn => by
   obtain rfl : f = 4 := Option.some.inj ((show Tryd.prog.funcNamed "paling/palinglaw30.LiftRaw" = some 4 by kernel_rfl).symm.trans hf) |>.symm
   obtain rfl : fn = Tryd.f4 := (Option.some.inj ((show Tryd.prog.funcs[4]? = some Tryd.f4 by kernel_rfl).symm.trans hfn)).symm
   refine ⟨by kernel_rfl, fun j t ht => ?_⟩
   have hall : (Tryd.f4.params.toList.all fun u => !Tryd.prog.wantsStandIn u) = true := by kernel_rfl
   have hm : t ∈ Tryd.f4.params.toList := by simpa using Array.mem_of_getElem? ht
   exact (show Tryd.prog.wantsStandIn t = false by simpa using List.all_eq_true.1 hall t hm))
  (by kernel_rfl)
#print axioms liftRaw_card
end Go.Proofs.YtnphhelbianjpaaDoor
