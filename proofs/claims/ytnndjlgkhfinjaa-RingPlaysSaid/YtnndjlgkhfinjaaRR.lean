/-
  The row of the ring's law RingPlays: true for every input.
-/
import Derived.Test.YtnndjlgkhfinjaaRQ
set_option linter.all false
set_option linter.unusedSimpArgs false
set_option linter.unusedVariables false
set_option linter.unnecessarySimpa false
namespace Go.Proofs.Ytnndjlgkhfinjaa
open Go Go.Proofs.Ytnndjlgkhfinjaa.V Go.RowKit Go.ChangeShapes Go.WideShapes Go.ChangeAt

theorem ut28 : Try.prog.underlying 28 = some (.struct (Try.prog.fieldsOf 28)) := by kernel_rfl
theorem fl28 : (Try.prog.fieldsOf 28).toList = [(Try.prog.fieldsOf 28)[0]!, (Try.prog.fieldsOf 28)[1]!, (Try.prog.fieldsOf 28)[2]!] := by kernel_rfl
theorem tr_act {H : Type} {enc : TypeId × Value → H} {W : World} {fuel : Nat} {cs : List Value} {x : DataW H × List MemPlace} (h : DataW.trod enc Try.prog W 0 (fun _ => true) true fuel 28 cs = some x) :
    ∃ e : ActR, cs = cA e ∧ (-9223372036854775808 ≤ e.d ∧ e.d ≤ 9223372036854775807) := by
  obtain ⟨hl, fuel', hf⟩ := tr_struct ut28 h
  rw [fl28] at hf
  rw [show Try.prog.cellsOf 28 = 3 by kernel_rfl] at hl
  obtain ⟨y0, h0⟩ := hf _ (List.mem_cons_self ..)
  obtain ⟨y1, h1⟩ := hf _ (List.mem_cons_of_mem _ (List.mem_cons_self ..))
  obtain ⟨y2, h2⟩ := hf _ (List.mem_cons_of_mem _ (List.mem_cons_of_mem _ (List.mem_cons_self ..)))
  rw [show ((Try.prog.fieldsOf 28)[0]!).type = 3 by kernel_rfl, show ((Try.prog.fieldsOf 28)[0]!).offset = 0 by kernel_rfl, show Try.prog.cellsOf 3 = 1 by kernel_rfl] at h0
  rw [show ((Try.prog.fieldsOf 28)[1]!).type = 3 by kernel_rfl, show ((Try.prog.fieldsOf 28)[1]!).offset = 1 by kernel_rfl, show Try.prog.cellsOf 3 = 1 by kernel_rfl] at h1
  rw [show ((Try.prog.fieldsOf 28)[2]!).type = 2 by kernel_rfl, show ((Try.prog.fieldsOf 28)[2]!).offset = 2 by kernel_rfl, show Try.prog.cellsOf 2 = 1 by kernel_rfl] at h2
  obtain ⟨a, ha, wa⟩ := tr_int (k := .i64) (by kernel_rfl) h0
  obtain ⟨b, hb, wb⟩ := tr_int (k := .i64) (by kernel_rfl) h1
  obtain ⟨c, hc, wc⟩ := tr_int (k := .i64) (by kernel_rfl) h2
  match cs, hl with
  | [u, v, w], _ =>
    simp at ha hb hc
    subst ha; subst hb; subst hc
    exact ⟨⟨a, b, c⟩, rfl, wf64 wa⟩
theorem cA_in (N : Nat) (e : ActR) : (cA e).all (inV N) = true := by simp [cA, inV, atom]

theorem arg_acts {W : World} {base : Nat} {v : Value} {t : TypeId} {H : Type} {enc : TypeId × Value → H} {d : DataW H} {p : List MemPlace} (hs : Try.prog.underlying t = some (.slice 28)) (h : Value.okWide Try.prog W .any base t v) (ht : DataW.Trod enc Try.prog W 0 (fun _ => true) true t v d p) :
    ∃ (xs : List ActR) (a : Option Addr) (n c : Nat), v = .slice a n c ∧ (∀ x ∈ xs, -9223372036854775808 ≤ x.d ∧ x.d ≤ 9223372036854775807) ∧ (∀ st, Rd W st 3 cA xs a n) ∧ VRel Try.prog W.heap.size (fun _ => none) v v := by
  obtain ⟨fuel, hfu⟩ := ht
  rcases slice_ok hs h with rfl | ⟨a, n, c, rfl, hb, hnc⟩
  · exact ⟨[], none, 0, 0, rfl, by simp, fun st => Rd.nil _ _ _ _ _, .atom _ rfl⟩
  · rcases tr_slice hs hfu with h1 | ⟨a', n', c', h1, h2, h3, fuel', h4⟩
    · simp [Value.cells] at h1
    · simp [Value.cells] at h1
      obtain ⟨rfl, rfl, rfl⟩ := h1
      rw [show Try.prog.cellsOf 28 = 3 by kernel_rfl] at h4
      obtain ⟨xs, _, hp, hr⟩ := old_rows (f := cA) (p := fun x => -9223372036854775808 ≤ x.d ∧ x.d ≤ 9223372036854775807) (W := W) (a := a) (len := n) (sz := 3) (by omega) (cA_in _) fun i hi => by
        obtain ⟨ys, y, h5, h6⟩ := h4 i hi
        obtain ⟨e, rfl, he⟩ := tr_act h6
        exact ⟨e, h5, he⟩
      exact ⟨xs, some a, n, c, rfl, hp, hr, .oldSlice a n c hb⟩

set_option maxRecDepth 100000 in
theorem ringPlays_lifted (os : Os) (started : os.Started) (H : Type) (enc : TypeId × Value → H) :
    ReturnsInHanded {} Try.checked os 3 .any (Rows.ringPlaysSpec.pre6 enc Try.prog Try.f3 Rows.ringPlaysRow.domain false) (Rows.ringPlaysSpec.post enc Try.prog Try.f3 false true false false) := by
  refine returnsInHanded_of_change (C := Try.checked) Try.own' started (by kernel_rfl) (show Try.checked.prog.funcs[3]? = some Try.f3 by kernel_rfl)
    (ChangeSpec.witness6 (enc := enc) (C := Try.checked) false ⟨#[], #[.slice none 0 0], []⟩ 8 (by kernel_rfl) (by kernel_rfl) (by kernel_rfl) (by kernel_rfl)) ?_
  intro W base args ds gs before hval0 hW hcnd _
  have hval : ∀ (j : Nat) t v, Try.f3.params[j]? = some t → args[j]? = some v → Value.okWide Try.prog W .any base t v := hval0
  have hpar : Try.f3.params = #[Try.f3.params[0]!] := by kernel_rfl
  have hW' := hW
  obtain ⟨p, q, hA0, hV, rfl, hfz, hnd⟩ := hW
  have hA : DataW.TrodAll enc Try.prog W 0 (fun _ => true) true Try.f3.params.toList args.toList ds p := hA0
  rw [hpar] at hA hval
  obtain ⟨v0, d0, rfl, rfl, h0⟩ := trodAll_one hA
  obtain ⟨xs, a, n, c, rfl, hx, hr, hvr⟩ := arg_acts (by kernel_rfl) (hval 0 _ v0 rfl rfl) h0
  refine (law_calls (ring_plays (st0 W) xs a n c (ok0 W) hr hx) (fun v hv => ?_)).mono ?_
  · simp only [List.mem_cons, List.not_mem_nil, or_false] at hv
    subst hv
    exact hvr
  · rintro e' W' ⟨rfl, hb⟩
    exact ⟨_, rfl, law_post Try.laidOut' (by
      intro t ht
      have : (Try.f3.params.toList.all fun t => Try.prog.readableRec t && decide (t < Try.prog.types.size)) = true := by kernel_rfl
      have h2 := List.all_eq_true.1 this t ht
      rw [Bool.and_eq_true] at h2
      exact ⟨h2.1, of_decide_eq_true h2.2⟩) (tb := Try.f3.resultTypes[0]!) (by kernel_rfl) (by kernel_rfl) rfl rfl hW' hb⟩

theorem ringPlays_holds : Rows.RingPlaysSaid :=
  OpenClaim.holds_of_wide 3 Try.f3 rfl rfl rfl rfl rfl rfl rfl ⟨rfl, rfl, rfl, rfl, rfl⟩ rfl rfl rfl rfl rfl (by kernel_rfl) (show Try.checked.prog.funcs[3]? = some Try.f3 by kernel_rfl) (by kernel_rfl)
    (of_decide_eq_true (by kernel_rfl)) (by unfold Func.isWrapper; first | (rw [if_pos (by decide +kernel)]; kernel_rfl) | (rw [if_neg (by decide +kernel)]; exact ⟨rfl, rfl⟩))
    (fun os started H enc _ => ringPlays_lifted os started H enc)
#print axioms ringPlays_holds
end Go.Proofs.Ytnndjlgkhfinjaa
