/-
  The law GlyphLines holds of any two texts: its row, and its card.
-/
import Derived.Test.YtcmedbbikpdgmaaDoorRRow
import Derived.Test.YtcmedbbikpdgmaaDoorRLaw3D
set_option linter.all false
set_option linter.unusedSimpArgs false
set_option linter.unusedVariables false
set_option linter.unnecessarySimpa false
namespace Go.Proofs.YtcmedbbikpdgmaaDoor
open Go Go.Proofs.YtcmedbbikpdgmaaDoor.V Go.RowKit Go.ChangeShapes Go.WideShapes Go.ChangeAt Go.Shelf Go.Proofs

set_option maxRecDepth 100000 in
theorem glyphLines_lifted (os : Os) (started : os.Started) (H : Type) (enc : TypeId × Value → H) :
    ReturnsInHanded {} Tryd.checked os 5 .any (fun w args => (Rows.glyphLinesSpec.pre enc Tryd.prog Tryd.f5 Rows.glyphLinesRow.domain false w args ∧ laidMetH Tryd.prog Rows.glyphLinesRow.laid w) ∧ sizedMet enc Tryd.prog Tryd.f5 (OpenSpec.ofChange Rows.glyphLinesSpec) false w args)
      (Rows.glyphLinesSpec.post enc Tryd.prog Tryd.f5 false true false false) := by
  refine returnsInHanded_of_change_and (C := Tryd.checked) (X := fun w _ => laidMetH Tryd.prog Rows.glyphLinesRow.laid w) (fun _ _ _ hh h => h.of_heap hh) own' started (by kernel_rfl) (show Tryd.checked.prog.funcs[5]? = some Tryd.f5 by kernel_rfl)
    (ChangeSpec.witness_shaped (enc := enc) (C := Tryd.checked) (os := os) (X := fun w _ => laidMetH Tryd.prog Rows.glyphLinesRow.laid w) false (World.laidAll Tryd.prog os Rows.glyphLinesRow.laid) #[.string ⟨#[]⟩, .string ⟨#[]⟩] 12 (World.laidAll_os _ _ _)
      (World.shaped_of_ZipB (by kernel_rfl) (by kernel_rfl)) (by kernel_rfl) (by kernel_rfl) (by kernel_rfl)
      (by rw [MakeChecks.laidMetH_plain _ _ _ (by kernel_rfl)]; exact laidMet_laidAll _ (by kernel_rfl) (by kernel_rfl))) ?_
  intro W base args ds gs before hval hW _ _ hL _
  refine law_run (G := Tabs) (tb := Tryd.f5.resultTypes[0]!) 6 laidOut' (by kernel_rfl) (by kernel_rfl) (by kernel_rfl) rfl (fun ds h => ?_) hval hW (tabs_of hL) fun xs h => ?_
  · rw [show Tryd.f5.params.toList.length = 2 by kernel_rfl] at h
    match ds, h with
    | [d0, d1], _ => rfl
  · rw [show Tryd.f5.params.toList = [ty_string, ty_string] by kernel_rfl] at h
    cases h with
    | cons h1 h2 =>
      cases h2 with
      | cons h2 h3 => cases h3; obtain ⟨s, rfl, _⟩ := ty_str h1 ut_string; obtain ⟨t, rfl, _⟩ := ty_str h2 ut_string; exact glyphLines s t

theorem glyphLines_holds : Rows.GlyphLinesSaid :=
  OpenClaim.holds_of_wide 5 Tryd.f5 rfl rfl rfl rfl rfl rfl rfl ⟨rfl, rfl, rfl, rfl, rfl⟩ rfl rfl rfl rfl rfl (by kernel_rfl) (show Tryd.checked.prog.funcs[5]? = some Tryd.f5 by kernel_rfl) (by kernel_rfl)
    (of_decide_eq_true (by kernel_rfl)) (by unfold Func.isWrapper; first | (rw [if_pos (by decide +kernel)]; kernel_rfl) | (rw [if_neg (by decide +kernel)]; exact ⟨rfl, rfl⟩))
    (fun os started H enc _ => glyphLines_lifted os started H enc)

theorem glyphLines_card : Rows.GlyphLinesCardSaid :=
  Claim7.holds_tied_plain_at .later [] [.data, .pinned] true (true, "5ec28cc9dbae3206765bd3c45368b610ff9ab54c8fc9d008a65f33f97d14689f") false glyphLines_holds (fun _ h => by cases h) (by kernel_rfl) (fun _ h => by cases h) glyphLines_row_tie rfl ⟨rfl, rfl⟩ (by kernel_rfl) rfl
    (fun f fn hf hfn => by
      obtain rfl : f = 5 := Option.some.inj ((show Tryd.prog.funcNamed "paling/palinglaw3.GlyphLines" = some 5 by kernel_rfl).symm.trans hf) |>.symm
      obtain rfl : fn = Tryd.f5 := (Option.some.inj ((show Tryd.prog.funcs[5]? = some Tryd.f5 by kernel_rfl).symm.trans hfn)).symm
      refine ⟨by kernel_rfl, fun j t ht => ?_⟩
      have hall : (Tryd.f5.params.toList.all fun u => !Tryd.prog.wantsStandIn u) = true := by kernel_rfl
      have hm : t ∈ Tryd.f5.params.toList := by simpa using Array.mem_of_getElem? ht
      exact (show Tryd.prog.wantsStandIn t = false by simpa using List.all_eq_true.1 hall t hm))
    (by kernel_rfl)
#print axioms glyphLines_card
end Go.Proofs.YtcmedbbikpdgmaaDoor
