/-
  The law CoreTwo holds of any numbers and state: its row, and its card.
-/
import Derived.Test.YtlmgfhonaegnlaaDoorRRow
import Derived.Test.YtlmgfhonaegnlaaDoorRPG
import Derived.Test.YtlmgfhonaegnlaaDoorRPK
set_option linter.all false
set_option linter.unusedSimpArgs false
set_option linter.unusedVariables false
set_option linter.unnecessarySimpa false
namespace Go.Proofs.YtlmgfhonaegnlaaDoor
open Go Go.Proofs.YtlmgfhonaegnlaaDoor.V Go.RowKit Go.ChangeShapes Go.WideShapes Go.ChangeAt Go.Shelf Go.Proofs

set_option maxRecDepth 100000 in
theorem coreTwo_lifted (os : Os) (started : os.Started) (H : Type) (enc : TypeId × Value → H) :
    ReturnsInHanded {} Tryd.checked os 8 .any (fun w args => (Rows.coreTwoSpec.pre enc Tryd.prog Tryd.f8 Rows.coreTwoRow.domain false w args ∧ laidMetH Tryd.prog Rows.coreTwoRow.laid w) ∧ sizedMet enc Tryd.prog Tryd.f8 (OpenSpec.ofChange Rows.coreTwoSpec) false w args)
      (Rows.coreTwoSpec.post enc Tryd.prog Tryd.f8 false true false false) := by
  refine returnsInHanded_of_change_and (C := Tryd.checked) (X := fun w _ => laidMetH Tryd.prog Rows.coreTwoRow.laid w) (fun _ _ _ hh h => h.of_heap hh) own' started (by kernel_rfl) (show Tryd.checked.prog.funcs[8]? = some Tryd.f8 by kernel_rfl)
    (ChangeSpec.witness_shaped (enc := enc) (C := Tryd.checked) (os := os) (X := fun w _ => laidMetH Tryd.prog Rows.coreTwoRow.laid w) false (World.laidAll Tryd.prog os Rows.coreTwoRow.laid) #[.int .i64 0, .int .i64 0, .int .i64 0, .int .i64 0, .agg #[.int .i64 0, .int .i64 0, .int .i64 0, .int .i64 0, .int .i64 0, .int .i64 0, .int .i64 0, .int .i64 0, .bool false, .bool false, .bool false, .bool false, .int .i64 0, .int .i64 0, .int .i64 0, .int .i64 0]] 12 (World.laidAll_os _ _ _)
      (World.shaped_of_ZipB (by kernel_rfl) (by kernel_rfl)) (by kernel_rfl) (by kernel_rfl) (by kernel_rfl)
      (by rw [MakeChecks.laidMetH_plain _ _ _ (by kernel_rfl)]; exact laidMet_laidAll _ (by kernel_rfl) (by kernel_rfl))) ?_
  intro W base args ds gs before hval hW _ _ hL _
  refine law_run (G := Tabs) (tb := Tryd.f8.resultTypes[0]!) 8 laidOut' (by kernel_rfl) (by kernel_rfl) (by kernel_rfl) rfl (fun ds h => ?_) hval hW (tabs_of hL) fun xs h => ?_
  · rw [show Tryd.f8.params.toList.length = 5 by kernel_rfl] at h
    match ds, h with
    | [d0, d1, d2, d3, d4], _ => rfl
  · rw [show Tryd.f8.params.toList = [ty_int, ty_int64, ty_int64, ty_int, ty_api_Thr] by kernel_rfl] at h
    cases h with
    | cons g0 h =>
      cases h with
      | cons g1 h =>
        cases h with
        | cons g2 h =>
          cases h with
          | cons g3 h =>
            cases h with
            | cons g4 h =>
              cases h
              obtain ⟨a0, rfl, r0⟩ := Go.Proofs.YtlmgfhonaegnlaaDoor.V.ty_int (k := .i64) g0 (by kernel_rfl)
              obtain ⟨a1, rfl, r1⟩ := Go.Proofs.YtlmgfhonaegnlaaDoor.V.ty_int (k := .i64) g1 (by kernel_rfl)
              obtain ⟨a2, rfl, r2⟩ := Go.Proofs.YtlmgfhonaegnlaaDoor.V.ty_int (k := .i64) g2 (by kernel_rfl)
              obtain ⟨a3, rfl, r3⟩ := Go.Proofs.YtlmgfhonaegnlaaDoor.V.ty_int (k := .i64) g3 (by kernel_rfl)
              obtain ⟨a4, rfl, r4⟩ := thr_ty g4
              exact coreTwo a0 a1 a2 a3 a4 r4

theorem coreTwo_holds : Rows.CoreTwoSaid :=
  OpenClaim.holds_of_wide 8 Tryd.f8 rfl rfl rfl rfl rfl rfl rfl ⟨rfl, rfl, rfl, rfl, rfl⟩ rfl rfl rfl rfl rfl (by kernel_rfl) (show Tryd.checked.prog.funcs[8]? = some Tryd.f8 by kernel_rfl) (by kernel_rfl)
    (of_decide_eq_true (by kernel_rfl)) (by unfold Func.isWrapper; first | (rw [if_pos (by decide +kernel)]; kernel_rfl) | (rw [if_neg (by decide +kernel)]; exact ⟨rfl, rfl⟩))
    (fun os started H enc _ => coreTwo_lifted os started H enc)

theorem coreTwo_card : Rows.CoreTwoCardSaid :=
  Claim7.holds_tied_plain_at .later [] [.data, .pinned] true (true, "795d8d4e4142a25e5c9b8948e5273008fd9e6e99b15cad91b88e9f7dcdd697eb") true coreTwo_holds (fun _ h => by cases h) (by kernel_rfl) (fun _ h => by cases h) coreTwo_row_tie rfl ⟨rfl, rfl⟩ (by kernel_rfl) rfl
    (fun f fn hf hfn => by
      obtain rfl : f = 8 := Option.some.inj ((show Tryd.prog.funcNamed "paling/palinglaw14.CoreTwo" = some 8 by kernel_rfl).symm.trans hf) |>.symm
      obtain rfl : fn = Tryd.f8 := (Option.some.inj ((show Tryd.prog.funcs[8]? = some Tryd.f8 by kernel_rfl).symm.trans hfn)).symm
      refine ⟨by kernel_rfl, fun j t ht => ?_⟩
      have hall : (Tryd.f8.params.toList.all fun u => !Tryd.prog.wantsStandIn u) = true := by kernel_rfl
      have hm : t ∈ Tryd.f8.params.toList := by simpa using Array.mem_of_getElem? ht
      exact (show Tryd.prog.wantsStandIn t = false by simpa using List.all_eq_true.1 hall t hm))
    (by kernel_rfl)
#print axioms coreTwo_card
end Go.Proofs.YtlmgfhonaegnlaaDoor
