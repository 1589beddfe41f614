/-
  The rows of the ring's laws: RingGrows, RingNewest, RingPlays: each is true for every input.
-/
import Derived.Test.YtnndjlgkhfinjaaRH
import Derived.Test.YtnndjlgkhfinjaaRP
set_option linter.all false
set_option linter.unusedSimpArgs false
set_option linter.unusedVariables false
set_option linter.unnecessarySimpa false
namespace Go.Proofs.Ytnndjlgkhfinjaa
open Go Go.Proofs.Ytnndjlgkhfinjaa.V Go.RowKit Go.ChangeShapes Go.WideShapes Go.ChangeAt

theorem ok_int {W : World} {base : Nat} {t : TypeId} {v : Value} (ht : Try.prog.underlying t = some (.int .i64)) (h : Value.okWide Try.prog W .any base t v) : ∃ n, v = .int .i64 n ∧ -9223372036854775808 ≤ n ∧ n ≤ 9223372036854775807 := by
  simp only [Value.okWide, ht, Cell.okWide, Cell.ok] at h
  cases v with
  | int k n =>
    obtain ⟨rfl, h1, h2⟩ := h
    refine ⟨n, rfl, ?_, ?_⟩
    · have e : IntKind.min .i64 = -9223372036854775808 := by decide
      rw [e] at h1; exact h1
    · have e : IntKind.max .i64 = 9223372036854775807 := by decide
      rw [e] at h2; exact h2
  | _ => exact h.elim
theorem ok_ent {W : World} {base : Nat} {v : Value} {H : Type} {enc : TypeId × Value → H} {d : DataW H} {p : List MemPlace} (h : Value.okWide Try.prog W .any base 31 v) (ht : DataW.Trod enc Try.prog W 0 (fun _ => true) true 31 v d p) : ∃ e : Ent, v = .agg (cE e).toArray := by
  simp only [Value.okWide, ut31] at h
  obtain ⟨cs, rfl, _, _⟩ := h
  obtain ⟨fuel, hfu⟩ := ht
  obtain ⟨e, he, _⟩ := tr_ent hfu
  exact ⟨e, by rw [← he]; simp [Value.cells]⟩
theorem cE_in (N : Nat) (e : Ent) : (cE e).all (inV N) = true := by simp [cE, inV, atom]

/-- A slice of entries among the arguments. -/
theorem arg_ents {W : World} {base : Nat} {v : Value} {t : TypeId} {H : Type} {enc : TypeId × Value → H} {d : DataW H} {p : List MemPlace} (hs : Try.prog.underlying t = some (.slice 31)) (h : Value.okWide Try.prog W .any base t v) (ht : DataW.Trod enc Try.prog W 0 (fun _ => true) true t v d p) :
    ∃ (xs : List Ent) (a : Option Addr) (n c : Nat), v = .slice a n c ∧ (∀ st, Rd W st 2 cE xs a n) ∧ VRel Try.prog W.heap.size (fun _ => none) v v := by
  obtain ⟨fuel, hfu⟩ := ht
  rcases slice_ok hs h with rfl | ⟨a, n, c, rfl, hb, hnc⟩
  · exact ⟨[], none, 0, 0, rfl, fun st => Rd.nil _ _ _ _ _, .atom _ rfl⟩
  · rcases tr_slice hs hfu with h1 | ⟨a', n', c', h1, h2, h3, fuel', h4⟩
    · simp [Value.cells] at h1
    · simp [Value.cells] at h1
      obtain ⟨rfl, rfl, rfl⟩ := h1
      rw [show Try.prog.cellsOf 31 = 2 by kernel_rfl] at h4
      obtain ⟨xs, _, _, hr⟩ := old_rows (f := cE) (p := fun _ => True) (W := W) (a := a) (len := n) (sz := 2) (by omega) (cE_in _) fun i hi => by
        obtain ⟨ys, y, h5, h6⟩ := h4 i hi
        obtain ⟨e, rfl, _⟩ := tr_ent h6
        exact ⟨e, h5, trivial⟩
      exact ⟨xs, some a, n, c, rfl, hr, .oldSlice a n c hb⟩

set_option maxRecDepth 100000 in
theorem ringGrows_lifted (os : Os) (started : os.Started) (H : Type) (enc : TypeId × Value → H) :
    ReturnsInHanded {} Try.checked os 4 .any (Rows.ringGrowsSpec.pre6 enc Try.prog Try.f4 Rows.ringGrowsRow.domain false) (Rows.ringGrowsSpec.post enc Try.prog Try.f4 false true false false) := by
  refine returnsInHanded_of_change (C := Try.checked) Try.own' started (by kernel_rfl) (show Try.checked.prog.funcs[4]? = some Try.f4 by kernel_rfl)
    (ChangeSpec.witness6 (enc := enc) (C := Try.checked) false ⟨#[], #[.int .i64 0, .int .i64 0], []⟩ 8 (by kernel_rfl) (by kernel_rfl) (by kernel_rfl) (by kernel_rfl)) ?_
  intro W base args ds gs before hval0 hW hcnd _
  have hval : ∀ (j : Nat) t v, Try.f4.params[j]? = some t → args[j]? = some v → Value.okWide Try.prog W .any base t v := hval0
  have hpar : Try.f4.params = #[3, 3] := by kernel_rfl
  have hW' := hW
  obtain ⟨p, q, hA0, hV, rfl, hfz, hnd⟩ := hW
  have hA : DataW.TrodAll enc Try.prog W 0 (fun _ => true) true Try.f4.params.toList args.toList ds p := hA0
  rw [hpar] at hA hval
  obtain ⟨v0, v1, d0, d1, p0, p1, rfl, rfl, rfl, h0, h1⟩ := trodAll_two hA
  obtain ⟨n, rfl, hn⟩ := ok_int (by kernel_rfl) (hval 0 3 v0 rfl rfl)
  obtain ⟨gp, rfl, hgp⟩ := ok_int (by kernel_rfl) (hval 1 3 v1 rfl rfl)
  refine (law_calls (ring_grows (st0 W) n gp hn hgp (ok0 W)) (fun v hv => ?_)).mono ?_
  · simp only [List.mem_cons, List.not_mem_nil, or_false] at hv
    rcases hv with rfl | rfl <;> exact .atom _ rfl
  · rintro e' W' ⟨rfl, hb⟩
    exact ⟨_, rfl, law_post Try.laidOut' (by rw [hpar]; simp; exact ⟨by kernel_rfl, of_decide_eq_true (by kernel_rfl)⟩) (tb := Try.f4.resultTypes[0]!) (by kernel_rfl) (by kernel_rfl) rfl rfl hW' hb⟩

theorem ringGrows_holds : Rows.RingGrowsSaid :=
  OpenClaim.holds_of_wide 4 Try.f4 rfl rfl rfl rfl rfl rfl rfl ⟨rfl, rfl, rfl, rfl, rfl⟩ rfl rfl rfl rfl rfl (by kernel_rfl) (show Try.checked.prog.funcs[4]? = some Try.f4 by kernel_rfl) (by kernel_rfl)
    (of_decide_eq_true (by kernel_rfl)) (by unfold Func.isWrapper; first | (rw [if_pos (by decide +kernel)]; kernel_rfl) | (rw [if_neg (by decide +kernel)]; exact ⟨rfl, rfl⟩))
    (fun os started H enc _ => ringGrows_lifted os started H enc)

set_option maxRecDepth 100000 in
theorem ringNewest_lifted (os : Os) (started : os.Started) (H : Type) (enc : TypeId × Value → H) :
    ReturnsInHanded {} Try.checked os 5 .any (Rows.ringNewestSpec.pre6 enc Try.prog Try.f5 Rows.ringNewestRow.domain false) (Rows.ringNewestSpec.post enc Try.prog Try.f5 false true false false) := by
  refine returnsInHanded_of_change (C := Try.checked) Try.own' started (by kernel_rfl) (show Try.checked.prog.funcs[5]? = some Try.f5 by kernel_rfl)
    (ChangeSpec.witness6 (enc := enc) (C := Try.checked) false ⟨#[], #[.slice none 0 0, .agg #[.int .i64 0, .int .i64 0], .int .i64 0], []⟩ 8 (by kernel_rfl) (by kernel_rfl) (by kernel_rfl) (by kernel_rfl)) ?_
  intro W base args ds gs before hval0 hW hcnd _
  have hval : ∀ (j : Nat) t v, Try.f5.params[j]? = some t → args[j]? = some v → Value.okWide Try.prog W .any base t v := hval0
  have hpar : Try.f5.params = #[Try.f5.params[0]!, 31, 3] := by kernel_rfl
  have hW' := hW
  obtain ⟨p, q, hA0, hV, rfl, hfz, hnd⟩ := hW
  have hA : DataW.TrodAll enc Try.prog W 0 (fun _ => true) true Try.f5.params.toList args.toList ds p := hA0
  rw [hpar] at hA hval
  obtain ⟨v0, v1, v2, d0, d1, d2, p0, p1, p2, rfl, rfl, rfl, h0, h1, h2⟩ := trodAll_three hA
  obtain ⟨xs, a, n, c, rfl, hr, hvr⟩ := arg_ents (by kernel_rfl) (hval 0 _ v0 rfl rfl) h0
  obtain ⟨e, rfl⟩ := ok_ent (hval 1 _ v1 rfl rfl) h1
  obtain ⟨x, rfl, _⟩ := ok_int (by kernel_rfl) (hval 2 3 v2 rfl rfl)
  refine (law_calls (ring_newest (st0 W) xs e x a n c (ok0 W) hr) (fun v hv => ?_)).mono ?_
  · simp only [List.mem_cons, List.not_mem_nil, or_false] at hv
    rcases hv with rfl | rfl | rfl
    · exact hvr
    · exact VRel.flat (by simp [cE, flatV, atom])
    · exact .atom _ rfl
  · rintro e' W' ⟨rfl, hb⟩
    exact ⟨_, rfl, law_post Try.laidOut' (by
      intro t ht
      have : (Try.f5.params.toList.all fun t => Try.prog.readableRec t && decide (t < Try.prog.types.size)) = true := by kernel_rfl
      have h2 := List.all_eq_true.1 this t ht
      rw [Bool.and_eq_true] at h2
      exact ⟨h2.1, of_decide_eq_true h2.2⟩) (tb := Try.f5.resultTypes[0]!) (by kernel_rfl) (by kernel_rfl) rfl rfl hW' hb⟩

theorem ringNewest_holds : Rows.RingNewestSaid :=
  OpenClaim.holds_of_wide 5 Try.f5 rfl rfl rfl rfl rfl rfl rfl ⟨rfl, rfl, rfl, rfl, rfl⟩ rfl rfl rfl rfl rfl (by kernel_rfl) (show Try.checked.prog.funcs[5]? = some Try.f5 by kernel_rfl) (by kernel_rfl)
    (of_decide_eq_true (by kernel_rfl)) (by unfold Func.isWrapper; first | (rw [if_pos (by decide +kernel)]; kernel_rfl) | (rw [if_neg (by decide +kernel)]; exact ⟨rfl, rfl⟩))
    (fun os started H enc _ => ringNewest_lifted os started H enc)
#print axioms ringNewest_holds
end Go.Proofs.Ytnndjlgkhfinjaa
