/-
  The law CoreNil holds of any state: its row, and its card.
-/
import Derived.Test.YtlmgfhonaegnlaaDoorRRow
import Derived.Test.YtlmgfhonaegnlaaDoorRPG
import Derived.Test.YtlmgfhonaegnlaaDoorRPH
set_option linter.all false
set_option linter.unusedSimpArgs false
set_option linter.unusedVariables false
set_option linter.unnecessarySimpa false
namespace Go.Proofs.YtlmgfhonaegnlaaDoor
open Go Go.Proofs.YtlmgfhonaegnlaaDoor.V Go.RowKit Go.ChangeShapes Go.WideShapes Go.ChangeAt Go.Shelf Go.Proofs

set_option maxRecDepth 100000 in
theorem coreNil_lifted (os : Os) (started : os.Started) (H : Type) (enc : TypeId × Value → H) :
    ReturnsInHanded {} Tryd.checked os 9 .any (fun w args => (Rows.coreNilSpec.pre enc Tryd.prog Tryd.f9 Rows.coreNilRow.domain false w args ∧ laidMetH Tryd.prog Rows.coreNilRow.laid w) ∧ sizedMet enc Tryd.prog Tryd.f9 (OpenSpec.ofChange Rows.coreNilSpec) false w args)
      (Rows.coreNilSpec.post enc Tryd.prog Tryd.f9 false true false false) := by
  refine returnsInHanded_of_change_and (C := Tryd.checked) (X := fun w _ => laidMetH Tryd.prog Rows.coreNilRow.laid w) (fun _ _ _ hh h => h.of_heap hh) own' started (by kernel_rfl) (show Tryd.checked.prog.funcs[9]? = some Tryd.f9 by kernel_rfl)
    (ChangeSpec.witness_shaped (enc := enc) (C := Tryd.checked) (os := os) (X := fun w _ => laidMetH Tryd.prog Rows.coreNilRow.laid w) false (World.laidAll Tryd.prog os Rows.coreNilRow.laid) #[.int .i64 0, .agg #[.int .i64 0, .int .i64 0, .int .i64 0, .int .i64 0, .int .i64 0, .int .i64 0, .int .i64 0, .int .i64 0, .bool false, .bool false, .bool false, .bool false, .int .i64 0, .int .i64 0, .int .i64 0, .int .i64 0], .int .i64 0] 12 (World.laidAll_os _ _ _)
      (World.shaped_of_ZipB (by kernel_rfl) (by kernel_rfl)) (by kernel_rfl) (by kernel_rfl) (by kernel_rfl)
      (by rw [MakeChecks.laidMetH_plain _ _ _ (by kernel_rfl)]; exact laidMet_laidAll _ (by kernel_rfl) (by kernel_rfl))) ?_
  intro W base args ds gs before hval hW _ _ hL _
  refine law_run (G := Tabs) (tb := Tryd.f9.resultTypes[0]!) 8 laidOut' (by kernel_rfl) (by kernel_rfl) (by kernel_rfl) rfl (fun ds h => ?_) hval hW (tabs_of hL) fun xs h => ?_
  · rw [show Tryd.f9.params.toList.length = 3 by kernel_rfl] at h
    match ds, h with
    | [d0, d1, d2], _ => rfl
  · rw [show Tryd.f9.params.toList = [ty_int, ty_api_Thr, ty_int64] by kernel_rfl] at h
    cases h with
    | cons g0 h =>
      cases h with
      | cons g1 h =>
        cases h with
        | cons g2 h =>
          cases h
          obtain ⟨a0, rfl, r0⟩ := Go.Proofs.YtlmgfhonaegnlaaDoor.V.ty_int (k := .i64) g0 (by kernel_rfl)
          obtain ⟨a1, rfl, r1⟩ := thr_ty g1
          obtain ⟨a2, rfl, r2⟩ := Go.Proofs.YtlmgfhonaegnlaaDoor.V.ty_int (k := .i64) g2 (by kernel_rfl)
          exact coreNil a0 a1 a2

theorem coreNil_holds : Rows.CoreNilSaid :=
  OpenClaim.holds_of_wide 9 Tryd.f9 rfl rfl rfl rfl rfl rfl rfl ⟨rfl, rfl, rfl, rfl, rfl⟩ rfl rfl rfl rfl rfl (by kernel_rfl) (show Tryd.checked.prog.funcs[9]? = some Tryd.f9 by kernel_rfl) (by kernel_rfl)
    (of_decide_eq_true (by kernel_rfl)) (by unfold Func.isWrapper; first | (rw [if_pos (by decide +kernel)]; kernel_rfl) | (rw [if_neg (by decide +kernel)]; exact ⟨rfl, rfl⟩))
    (fun os started H enc _ => coreNil_lifted os started H enc)

theorem coreNil_card : Rows.CoreNilCardSaid :=
  Claim7.holds_tied_plain_at .later [] [.data, .pinned] true (true, "795d8d4e4142a25e5c9b8948e5273008fd9e6e99b15cad91b88e9f7dcdd697eb") true coreNil_holds (fun _ h => by cases h) (by kernel_rfl) (fun _ h => by cases h) coreNil_row_tie rfl ⟨rfl, rfl⟩ (by kernel_rfl) rfl
    (fun f fn hf hfn => by
      obtain rfl : f = 9 := Option.some.inj ((show Tryd.prog.funcNamed "paling/palinglaw14.CoreNil" = some 9 by kernel_rfl).symm.trans hf) |>.symm
      obtain rfl : fn = Tryd.f9 := (Option.some.inj ((show Tryd.prog.funcs[9]? = some Tryd.f9 by kernel_rfl).symm.trans hfn)).symm
      refine ⟨by kernel_rfl, fun j t ht => ?_⟩
      have hall : (Tryd.f9.params.toList.all fun u => !Tryd.prog.wantsStandIn u) = true := by kernel_rfl
      have hm : t ∈ Tryd.f9.params.toList := by simpa using Array.mem_of_getElem? ht
      exact (show Tryd.prog.wantsStandIn t = false by simpa using List.all_eq_true.1 hall t hm))
    (by kernel_rfl)
#print axioms coreNil_card
end Go.Proofs.YtlmgfhonaegnlaaDoor
