/-
  Walks of functions of the program, and what the laws need of them.
-/
import Derived.Test.YtcmedbbikpdgmaaDoorRRefEnd
import Derived.Test.YtcmedbbikpdgmaaDoorRGlyphC
import Derived.Test.YtcmedbbikpdgmaaDoorRBook
set_option linter.all false
set_option linter.unusedSimpArgs false
set_option linter.unusedVariables false
set_option linter.unnecessarySimpa false
namespace Go.Proofs.YtcmedbbikpdgmaaDoor
open Go Go.Proofs.YtcmedbbikpdgmaaDoor.V Go.Proofs
section
attribute [local irreducible] TwS TwR thenT inBlockT retT
variable {G : World → Prop}

theorem same_spec (xs : List Spot) : Pure prog G n_law_same [.lst 6 (xs.map cSpot), .lst 6 (xs.map cSpot)] (tB true) := by
  refine Pure.of mixedOk (fn := f_law_same) rfl (by kernel_rfl) ok_law_same rfl fun C hP hG hp => ?_
  simp only [fs_law_same, targEnv, Nat.zero_add, Nat.reduceAdd]
  refine ts_bound (t := 0) rfl fun hb => ?_
  rw [List.length_map] at hb
  repeat' (first | refine ts_seq (fun K hK hW => ?_) | refine ts_reg ?_ | refine tr_nil ?_ | refine tr_ev rfl ?_ | refine use_K (by assumption) ?_ | refine tr_guard_u rfl ?_ | refine tr_guard_y rfl rfl ?_ | refine tr_guard_n rfl rfl ?_ | refine tr_alloc rfl ?_ | refine tr_store rfl rfl rfl rfl rfl rfl rfl ?_ | refine ts_cond_t rfl rfl ?_ | refine ts_cond_f rfl rfl ?_ | refine ts_nop ?_ | refine ts_block ?_ | refine ts_exit ?_ | refine ts_ret ?_ | refine th_exit ?_ | refine th_ret ?_ | refine bl_normal ?_ | refine bl_ret ?_ | refine bl_hit ?_ | refine bl_miss rfl ?_ | refine tret_of (.inr rfl) rfl ?_ | (refine ts_cond rfl (fun h => (by simp at h)) fun _ => ?_) | (refine tg_split rfl (fun h => ?_) (fun h => ?_) <;> try simp only [decide_eq_true_eq, decide_eq_false_iff_not, Bool.not_eq_true', Bool.not_eq_false', Bool.not_true, Bool.not_false, Bool.not_not, beq_iff_eq, Bool.not_eq_true, Bool.not_eq_false] at h) | (refine ts_cond rfl (fun h => ?_) (fun h => ?_) <;> try simp only [decide_eq_true_eq, decide_eq_false_iff_not, Bool.not_eq_true', Bool.not_eq_false', Bool.not_true, Bool.not_false, Bool.not_not, beq_iff_eq, Bool.not_eq_true, Bool.not_eq_false] at h))
  refine ts_loop (fun m env σ => ∃ i : Nat, m = xs.length - i ∧ i ≤ xs.length ∧ env = [(0, .lst 6 (xs.map cSpot)), (1, .lst 6 (xs.map cSpot)), (5, tI i)] ∧ σ = ⟨[], 0⟩) xs.length (w_sub [0, 1, 5] rfl) ⟨0, rfl, by omega, rfl, rfl⟩ ?_
  rintro m env σ ⟨i, rfl, hi, rfl, rfl⟩
  by_cases hlt : i < xs.length
  · have hg : xs[i]? = some xs[i] := List.getElem?_eq_getElem hlt
    generalize xs[i] = x at hg
    repeat' (first | refine ts_seq (fun K hK hW => ?_) | refine ts_reg ?_ | refine tr_nil ?_ | refine tr_ev rfl ?_ | refine use_K (by assumption) ?_ | refine tr_guard_u rfl ?_ | refine tr_guard_y rfl rfl ?_ | refine tr_guard_n rfl rfl ?_ | refine tr_alloc rfl ?_ | refine tr_store rfl rfl rfl rfl rfl rfl rfl ?_ | refine ts_cond_t rfl rfl ?_ | refine ts_cond_f rfl rfl ?_ | refine ts_nop ?_ | refine ts_block ?_ | refine ts_exit ?_ | refine ts_ret ?_ | refine th_exit ?_ | refine th_ret ?_ | refine bl_normal ?_ | refine bl_ret ?_ | refine bl_hit ?_ | refine bl_miss rfl ?_ | refine tret_of (.inr rfl) rfl ?_ | refine ts_cond_t rfl (decide_eq_true (by rw [List.length_map]; omega)) ?_ | refine tr_light (tl_ixm (m := i) rfl rfl rfl hg) ?_ | refine tr_light (tl_neb (by rw [hP]; exact ut_bool) rfl rfl) ?_ | (refine tg_split rfl (fun h => (by simp at h)) fun _ => ?_) | (refine ts_cond rfl (fun h => (by simp at h)) fun _ => ?_) | (refine tg_split rfl (fun h => ?_) (fun h => ?_) <;> try simp only [decide_eq_true_eq, decide_eq_false_iff_not, Bool.not_eq_true', Bool.not_eq_false', Bool.not_true, Bool.not_false, Bool.not_not, beq_iff_eq, Bool.not_eq_true, Bool.not_eq_false] at h) | (refine ts_cond rfl (fun h => ?_) (fun h => ?_) <;> try simp only [decide_eq_true_eq, decide_eq_false_iff_not, Bool.not_eq_true', Bool.not_eq_false', Bool.not_true, Bool.not_false, Bool.not_not, beq_iff_eq, Bool.not_eq_true, Bool.not_eq_false] at h))
    refine loop_again (m' := xs.length - (i + 1)) (by omega) ?_ ⟨i + 1, rfl, by omega, rfl, rfl⟩
    (refine w_ren [] rfl (by rw [hp]; intro j hj; cases hj) rfl ?_ ?_ <;> repeat' (first | exact .nil | exact .f _ rfl | exact .s _ _ _ _ _ _ rfl | exact .p _ _ _ rfl | exact .rows _ _ _ | exact .iter _ _ | exact RenL.nil _ | refine RenL.cons ?_ ?_ | refine .cells _ _ _ ?_ | refine .cons _ _ _ _ rfl ?_ ?_ | refine .cons _ _ _ _ _ rfl rfl ?_ ?_ | refine .rowsE ?_ | refine .sE rfl ?_ | exact .m _ _ rfl | refine .fE rfl ?_ | fail))
    rw [w64 (by omega)]; rfl
  · repeat' (first | refine ts_seq (fun K hK hW => ?_) | refine ts_reg ?_ | refine tr_nil ?_ | refine tr_ev rfl ?_ | refine use_K (by assumption) ?_ | refine tr_guard_u rfl ?_ | refine tr_guard_y rfl rfl ?_ | refine tr_guard_n rfl rfl ?_ | refine tr_alloc rfl ?_ | refine tr_store rfl rfl rfl rfl rfl rfl rfl ?_ | refine ts_cond_t rfl rfl ?_ | refine ts_cond_f rfl rfl ?_ | refine ts_nop ?_ | refine ts_block ?_ | refine ts_exit ?_ | refine ts_ret ?_ | refine th_exit ?_ | refine th_ret ?_ | refine bl_normal ?_ | refine bl_ret ?_ | refine bl_hit ?_ | refine bl_miss rfl ?_ | refine tret_of (.inr rfl) rfl ?_ | refine ts_cond_f rfl (decide_eq_false (by rw [List.length_map]; omega)) ?_ | (refine tg_split rfl (fun h => ?_) (fun h => ?_) <;> try simp only [decide_eq_true_eq, decide_eq_false_iff_not, Bool.not_eq_true', Bool.not_eq_false', Bool.not_true, Bool.not_false, Bool.not_not, beq_iff_eq, Bool.not_eq_true, Bool.not_eq_false] at h) | (refine ts_cond rfl (fun h => ?_) (fun h => ?_) <;> try simp only [decide_eq_true_eq, decide_eq_false_iff_not, Bool.not_eq_true', Bool.not_eq_false', Bool.not_true, Bool.not_false, Bool.not_not, beq_iff_eq, Bool.not_eq_true, Bool.not_eq_false] at h))
    exact .fr rfl

theorem sh_spot : shapeOf prog 10000 ty_glyph_Spot = some [.i .i32, .i .i64, .i .i64, .i .i64, .i .i64, .b] := by kernel_rfl
theorem ag_spot : (prog.underlying ty_glyph_Spot).map aggD = some true := by kernel_rfl
theorem eg_spot : prog.eqGuardType prog.depth ty_glyph_Spot = false := by kernel_rfl

theorem sp1 : (spots (bs [195, 169, 10])).map cSpot = [cSpot ⟨233, 0, 2, 1, 1, false⟩, cSpot ⟨10, 2, 1, 1, 2, false⟩] := by kernel_rfl
theorem en1 : endS (bs [97, 10, 195, 169, 98]) = (2, 3) := by kernel_rfl

theorem alive_spec : Pure prog Tabs n_law_alive [] (tB true) := by
  refine Pure.of mixedOk (fn := f_law_alive) rfl (by kernel_rfl) ok_law_alive rfl fun C hP hG hp => ?_
  simp only [fs_law_alive, targEnv, Nat.zero_add, Nat.reduceAdd]
  have e1 := spots_spec (bs [195, 169, 10]) (by decide)
  rw [sp1] at e1
  have e2 := end_spec (G := Tabs) (bs [97, 10, 195, 169, 98]) (by decide)
  rw [en1] at e2
  repeat' (first | refine ts_seq (fun K hK hW => ?_) | refine ts_reg ?_ | refine tr_nil ?_ | refine tr_ev rfl ?_ | refine use_K (by assumption) ?_ | refine tr_guard_u rfl ?_ | refine tr_guard_y rfl rfl ?_ | refine tr_guard_n rfl rfl ?_ | refine tr_alloc rfl ?_ | refine tr_store rfl rfl rfl rfl rfl rfl rfl ?_ | refine ts_cond_t rfl rfl ?_ | refine ts_cond_f rfl rfl ?_ | refine ts_nop ?_ | refine ts_block ?_ | refine ts_exit ?_ | refine ts_ret ?_ | refine th_exit ?_ | refine th_ret ?_ | refine bl_normal ?_ | refine bl_ret ?_ | refine bl_hit ?_ | refine bl_miss rfl ?_ | refine tret_of (.inr rfl) rfl ?_ | refine tr_call rfl (by rw [hP, hG]; exact e1) (.inl rfl) ?_ | refine tr_call rfl (by rw [hP, hG]; exact e2) (.inl rfl) ?_ | refine tr_call rfl (by rw [hP]; exact letter_spec _) (.inl rfl) ?_ | refine tr_light (tl_ixf (m := 0) rfl rfl rfl rfl) ?_ | refine tr_light (tl_ixf (m := 1) rfl rfl rfl rfl) ?_ | refine tr_light (tl_eqs (by rw [hP]; exact sh_spot) (by rw [hP]; exact ag_spot) (by rw [hP]; exact eg_spot) rfl rfl rfl rfl rfl rfl) ?_)
  exact .fr rfl
end
end Go.Proofs.YtcmedbbikpdgmaaDoor
