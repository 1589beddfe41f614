/-
  The law RingCopies holds of any entries and any number: its row.
-/
import Derived.Test.YtlajkgaclihhiaaRPA
import Derived.Test.YtlajkgaclihhiaaRows
set_option linter.all false
namespace Go.Proofs.Ytlajkgaclihhiaa
open Go Go.Proofs.Ytlajkgaclihhiaa.V Go.RowKit Go.ChangeShapes Go.WideShapes Go.ChangeAt Go.Proofs

theorem own' : ownKnob Try.prog.godebug = none := by kernel_rfl
theorem laidOut' : laidOutB Try.prog = true := by kernel_rfl
set_option maxRecDepth 100000 in
theorem ringCopies_lifted (os : Os) (started : os.Started) (H : Type) (enc : TypeId × Value → H) :
  ReturnsInHanded {} Try.checked os 3 .any (Rows.ringCopiesSpec.pre6 enc Try.prog Try.f3 Rows.ringCopiesRow.domain false) (Rows.ringCopiesSpec.post enc Try.prog Try.f3 false true false false) := by
 refine returnsInHanded_of_change (C := Try.checked) own' started (by kernel_rfl) (show Try.checked.prog.funcs[3]? = some Try.f3 by kernel_rfl)
  (ChangeSpec.witness6 (enc := enc) (C := Try.checked) false ⟨#[], #[.slice none 0 0, .int .i64 0], []⟩ 8 (by kernel_rfl) (by kernel_rfl) (by kernel_rfl) (by kernel_rfl)) ?_
 intro W base args ds gs before hval hW _ _
 refine law_run (G := fun _ => True) (tb := Try.f3.resultTypes[0]!) 8 laidOut' (by kernel_rfl) (by kernel_rfl) (by kernel_rfl) rfl (fun ds h => ?_) hval hW trivial fun xs h => ?_
 ·rw [show Try.f3.params.toList.length = 2 by kernel_rfl] at h
  match ds, h with
  | [d0, d1], _ => rfl
 ·rw [show Try.f3.params.toList = [ty_sl_api_Entry, ty_int] by kernel_rfl] at h
  cases h with
  | cons g0 h =>
   cases h with
   | cons g1 h =>
    cases h
    obtain ⟨a0, rfl⟩ := ents_ty g0
    obtain ⟨a1, rfl, r1⟩ := Go.Proofs.Ytlajkgaclihhiaa.V.ty_int (k := .i64) g1 (by kernel_rfl)
    exact ringCopies a0 a1

theorem ringCopies_holds : Rows.RingCopiesSaid :=
 OpenClaim.holds_of_wide 3 Try.f3 rfl rfl rfl rfl rfl rfl rfl ⟨rfl, rfl, rfl, rfl, rfl⟩ rfl rfl rfl rfl rfl (by kernel_rfl) (show Try.checked.prog.funcs[3]? = some Try.f3 by kernel_rfl) (by kernel_rfl)
  (of_decide_eq_true (by kernel_rfl)) (by unfold Func.isWrapper; first | (rw [if_pos (by decide +kernel)]; kernel_rfl) | (rw [if_neg (by decide +kernel)]; exact ⟨rfl, rfl⟩))
  (fun os started H enc _ => ringCopies_lifted os started H enc)
#print axioms ringCopies_holds
end Go.Proofs.Ytlajkgaclihhiaa
