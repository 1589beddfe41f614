/-
  Walks of the functions of the program, in the abstract semantics V; what the law needs of them.
-/
import Derived.Test.YtnndjlgkhfinjaaRC
import Derived.Test.YtnndjlgkhfinjaaRows
set_option linter.all false
set_option linter.unusedSimpArgs false
set_option linter.unusedVariables false
set_option linter.unnecessarySimpa false
namespace Go.Proofs.Ytnndjlgkhfinjaa
open Go Go.Proofs.Ytnndjlgkhfinjaa.V Go.RowKit Go.ChangeShapes Go.WideShapes Go.ChangeAt

theorem Try.own' : ownKnob Try.prog.godebug = none := by kernel_rfl
theorem Try.laidOut' : laidOutB Try.prog = true := by kernel_rfl

theorem wf64 {n : Int} (h : (Lit.int .i64 n).wf = true) : -9223372036854775808 ≤ n ∧ n ≤ 9223372036854775807 := by
  simp [Lit.wf, IntKind.min, IntKind.max, IntKind.signed, IntKind.bits] at h; omega

theorem tr_ent {H : Type} {enc : TypeId × Value → H} {W : World} {fuel : Nat} {cs : List Value} {x : DataW H × List MemPlace} (h : DataW.trod enc Try.prog W 0 (fun _ => true) true fuel 31 cs = some x) :
    ∃ e : Ent, cs = cE e ∧ (-9223372036854775808 ≤ e.1 ∧ e.1 ≤ 9223372036854775807) ∧ -9223372036854775808 ≤ e.2 ∧ e.2 ≤ 9223372036854775807 := by
  obtain ⟨hl, fuel', hf⟩ := tr_struct ut31 h
  rw [fl31'] at hf
  rw [show Try.prog.cellsOf 31 = 2 by kernel_rfl] at hl
  obtain ⟨y0, h0⟩ := hf _ (List.mem_cons_self ..)
  obtain ⟨y1, h1⟩ := hf _ (List.mem_cons_of_mem _ (List.mem_cons_self ..))
  rw [show ((Try.prog.fieldsOf 31)[0]!).type = 3 by kernel_rfl, show ((Try.prog.fieldsOf 31)[0]!).offset = 0 by kernel_rfl, show Try.prog.cellsOf 3 = 1 by kernel_rfl] at h0
  rw [show ((Try.prog.fieldsOf 31)[1]!).type = 2 by kernel_rfl, show ((Try.prog.fieldsOf 31)[1]!).offset = 1 by kernel_rfl, show Try.prog.cellsOf 2 = 1 by kernel_rfl] at h1
  obtain ⟨a, ha, wa⟩ := tr_int (k := .i64) (by kernel_rfl) h0
  obtain ⟨b, hb, wb⟩ := tr_int (k := .i64) (by kernel_rfl) h1
  match cs, hl with
  | [u, v], _ =>
    simp at ha hb
    subst ha; subst hb
    exact ⟨(a, b), rfl, wf64 wa, wf64 wb⟩

set_option maxRecDepth 100000 in
theorem ringNil_lifted (os : Os) (started : os.Started) (H : Type) (enc : TypeId × Value → H) :
    ReturnsInHanded {} Try.checked os 7 .any (Rows.ringNilSpec.pre6 enc Try.prog Try.f7 Rows.ringNilRow.domain false) (Rows.ringNilSpec.post enc Try.prog Try.f7 false true false false) := by
  refine returnsInHanded_of_change (C := Try.checked) Try.own' started (by kernel_rfl) (show Try.checked.prog.funcs[7]? = some Try.f7 by kernel_rfl)
    (ChangeSpec.witness6 (enc := enc) (C := Try.checked) false ⟨#[], #[.agg #[.int .i64 0, .int .i64 0]], []⟩ 8 (by kernel_rfl) (by kernel_rfl) (by kernel_rfl) (by kernel_rfl)) ?_
  intro W base args ds gs before hval0 hW hcnd _
  have hval : ∀ (j : Nat) t v, Try.f7.params[j]? = some t → args[j]? = some v → Value.okWide Try.prog W .any base t v := hval0
  have hpar : Try.f7.params = #[31] := by kernel_rfl
  have hW' := hW
  obtain ⟨p, q, hA0, hV, rfl, hfz, hnd⟩ := hW
  have hA : DataW.TrodAll enc Try.prog W 0 (fun _ => true) true Try.f7.params.toList args.toList ds p := hA0
  rw [hpar] at hA hval
  obtain ⟨v0, d0, rfl, rfl, h0⟩ := trodAll_one hA
  have hv0 := hval 0 31 v0 rfl rfl
  simp only [Value.okWide, ut31] at hv0
  obtain ⟨cs, rfl, _, _⟩ := hv0
  obtain ⟨fuel, hfu⟩ := h0
  obtain ⟨e, he, _⟩ := tr_ent hfu
  have hcs : cs = (cE e).toArray := by rw [← he]; simp [Value.cells]
  subst hcs
  refine (law_calls (ring_nil (st0 W) e (ok0 W)) (fun v hv => ?_)).mono ?_
  · simp only [List.mem_cons, List.not_mem_nil, or_false] at hv
    subst hv
    exact VRel.flat (by simp [cE, flatV, atom])
  · rintro e' W' ⟨rfl, hb⟩
    exact ⟨_, rfl, law_post Try.laidOut' (by rw [hpar]; simp; exact ⟨by kernel_rfl, of_decide_eq_true (by kernel_rfl)⟩) (tb := Try.f7.resultTypes[0]!) (by kernel_rfl) (by kernel_rfl) rfl rfl hW' hb⟩

theorem ringNil_holds : Rows.RingNilSaid :=
  OpenClaim.holds_of_wide 7 Try.f7 rfl rfl rfl rfl rfl rfl rfl ⟨rfl, rfl, rfl, rfl, rfl⟩ rfl rfl rfl rfl rfl (by kernel_rfl) (show Try.checked.prog.funcs[7]? = some Try.f7 by kernel_rfl) (by kernel_rfl)
    (of_decide_eq_true (by kernel_rfl)) (by unfold Func.isWrapper; first | (rw [if_pos (by decide +kernel)]; kernel_rfl) | (rw [if_neg (by decide +kernel)]; exact ⟨rfl, rfl⟩))
    (fun os started H enc _ => ringNil_lifted os started H enc)
#print axioms ringNil_holds
end Go.Proofs.Ytnndjlgkhfinjaa
