/-
  Walks of functions of the program, and what the laws need of them.
-/
import Derived.Test.YtmfkngldfphhmaaDoorRNamesB
set_option linter.all false
set_option linter.unusedSimpArgs false
set_option linter.unusedVariables false
set_option linter.unnecessarySimpa false
namespace Go.Proofs.YtmfkngldfphhmaaDoor
open Go Go.Proofs.YtmfkngldfphhmaaDoor.V Go.Proofs
section
attribute [local irreducible] TwS TwR thenT inBlockT retT idx idxI opOf spots letter digit wordB
variable {G : World → Prop}

theorem op_spec (s : ByteArray) : Pure prog G n_names_Op [tS s] (.tup [tI (opOf s).1, tI (opOf s).2.1, tB (opOf s).2.2]) := by
  refine Pure.of mixedOk (fn := f_names_Op) rfl (by kernel_rfl) ok_names_Op rfl fun C hP hG hp => ?_
  simp only [fs_names_Op, targEnv, Nat.zero_add, Nat.reduceAdd]
  have hl1 : jumpsL.length = 10 := rfl
  have hl2 : opsL.length = 14 := rfl
  by_cases h0 : s = bs []
  · repeat' (first | refine ts_seq (fun K hK hW => ?_) | refine ts_reg ?_ | refine tr_nil ?_ | refine tr_ev rfl ?_ | refine use_K (by assumption) ?_ | refine tr_guard_u rfl ?_ | refine tr_guard_y rfl rfl ?_ | refine tr_guard_n rfl rfl ?_ | refine tr_alloc rfl ?_ | refine tr_store rfl rfl rfl rfl rfl rfl rfl ?_ | refine ts_cond_t rfl rfl ?_ | refine ts_cond_f rfl rfl ?_ | refine ts_nop ?_ | refine ts_block ?_ | refine ts_exit ?_ | refine ts_ret ?_ | refine th_exit ?_ | refine th_ret ?_ | refine bl_normal ?_ | refine bl_ret ?_ | refine bl_hit ?_ | refine bl_miss rfl ?_ | refine tret_of (.inr rfl) rfl ?_ | refine tr_call rfl (by rw [hP]; exact ops_spec) (.inl rfl) ?_ | refine tr_call rfl (by rw [hP]; exact jumps_spec) (.inl rfl) ?_ | (refine tg_split rfl (fun h => ?_) (fun h => ?_) <;> (try simp only [decide_eq_true_eq, decide_eq_false_iff_not, Bool.not_eq_true', Bool.not_eq_false', Bool.not_true, Bool.not_false, Bool.not_not, beq_iff_eq, Bool.not_eq_true, Bool.not_eq_false] at h) <;> try (exfalso; (exact h h0); done)) | (refine ts_cond rfl (fun h => ?_) (fun h => ?_) <;> (try simp only [decide_eq_true_eq, decide_eq_false_iff_not, Bool.not_eq_true', Bool.not_eq_false', Bool.not_true, Bool.not_false, Bool.not_not, beq_iff_eq, Bool.not_eq_true, Bool.not_eq_false] at h) <;> try (exfalso; (exact h h0); done)) | fail)
    rw [h0, op_nil]; exact .fr rfl
  repeat' (first | refine ts_seq (fun K hK hW => ?_) | refine ts_reg ?_ | refine tr_nil ?_ | refine tr_ev rfl ?_ | refine use_K (by assumption) ?_ | refine tr_guard_u rfl ?_ | refine tr_guard_y rfl rfl ?_ | refine tr_guard_n rfl rfl ?_ | refine tr_alloc rfl ?_ | refine tr_store rfl rfl rfl rfl rfl rfl rfl ?_ | refine ts_cond_t rfl rfl ?_ | refine ts_cond_f rfl rfl ?_ | refine ts_nop ?_ | refine ts_block ?_ | refine ts_exit ?_ | refine ts_ret ?_ | refine th_exit ?_ | refine th_ret ?_ | refine bl_normal ?_ | refine bl_ret ?_ | refine bl_hit ?_ | refine bl_miss rfl ?_ | refine tret_of (.inr rfl) rfl ?_ | refine tr_call rfl (by rw [hP]; exact ops_spec) (.inl rfl) ?_ | refine tr_call rfl (by rw [hP]; exact jumps_spec) (.inl rfl) ?_ | (refine tg_split rfl (fun h => ?_) (fun h => ?_) <;> (try simp only [decide_eq_true_eq, decide_eq_false_iff_not, Bool.not_eq_true', Bool.not_eq_false', Bool.not_true, Bool.not_false, Bool.not_not, beq_iff_eq, Bool.not_eq_true, Bool.not_eq_false] at h) <;> try (exfalso; (exact h0 h); done)) | (refine ts_cond rfl (fun h => ?_) (fun h => ?_) <;> (try simp only [decide_eq_true_eq, decide_eq_false_iff_not, Bool.not_eq_true', Bool.not_eq_false', Bool.not_true, Bool.not_false, Bool.not_not, beq_iff_eq, Bool.not_eq_true, Bool.not_eq_false] at h) <;> try (exfalso; (exact h0 h); done)) | fail)
  refine ts_loop (fun m env σ => ∃ i : Nat, m = opsL.length - i ∧ i ≤ opsL.length ∧ env = [(0, tS s), (11, .lst 1 (opsL.map fun s => [tS s])), (12, tI 14), (13, tI i)] ∧ σ = ⟨[], 0⟩ ∧ ∀ (j : Nat) (w : ByteArray), j < i → opsL[j]? = some w → w ≠ s) opsL.length (w_sub [0, 11, 12, 13] rfl) ⟨0, rfl, by omega, rfl, rfl, fun j w hj => by omega⟩ ?_
  rintro m env σ ⟨i, rfl, hi, rfl, rfl, hn⟩
  by_cases hlt : i < opsL.length
  · have hg : opsL[i]? = some opsL[i] := List.getElem?_eq_getElem hlt
    generalize opsL[i] = w at hg
    repeat' (first | refine ts_seq (fun K hK hW => ?_) | refine ts_reg ?_ | refine tr_nil ?_ | refine tr_ev rfl ?_ | refine use_K (by assumption) ?_ | refine tr_guard_u rfl ?_ | refine tr_guard_y rfl rfl ?_ | refine tr_guard_n rfl rfl ?_ | refine tr_alloc rfl ?_ | refine tr_store rfl rfl rfl rfl rfl rfl rfl ?_ | refine ts_cond_t rfl rfl ?_ | refine ts_cond_f rfl rfl ?_ | refine ts_nop ?_ | refine ts_block ?_ | refine ts_exit ?_ | refine ts_ret ?_ | refine th_exit ?_ | refine th_ret ?_ | refine bl_normal ?_ | refine bl_ret ?_ | refine bl_hit ?_ | refine bl_miss rfl ?_ | refine tret_of (.inr rfl) rfl ?_ | refine ts_cond_t rfl (decide_eq_true (by omega)) ?_ | refine tr_light (tl_ixm (m := i) rfl rfl rfl hg) ?_ | (refine tg_split rfl (fun h => ?_) (fun h => ?_) <;> try simp only [decide_eq_true_eq, decide_eq_false_iff_not, Bool.not_eq_true', Bool.not_eq_false', Bool.not_true, Bool.not_false, Bool.not_not, beq_iff_eq, Bool.not_eq_true, Bool.not_eq_false] at h) | (refine ts_cond rfl (fun h => ?_) (fun h => ?_) <;> try simp only [decide_eq_true_eq, decide_eq_false_iff_not, Bool.not_eq_true', Bool.not_eq_false', Bool.not_true, Bool.not_false, Bool.not_not, beq_iff_eq, Bool.not_eq_true, Bool.not_eq_false] at h) | fail)
    · subst h
      rw [op_some h0 (idx_some hg hn), w64 (by omega)]; exact .fr rfl
    · refine loop_again (m' := opsL.length - (i + 1)) (by omega) ?_ ⟨i + 1, rfl, by omega, rfl, rfl, fun j v hj hv => ?_⟩
      · (refine w_ren [] rfl (by rw [hp]; intro j hj; cases hj) rfl ?_ ?_ <;> repeat' (first | exact .nil | exact .f _ rfl | exact .s _ _ _ _ _ _ rfl | exact .p _ _ _ rfl | exact .rows _ _ _ | exact .iter _ _ | exact RenL.nil _ | refine RenL.cons ?_ ?_ | refine .cells _ _ _ ?_ | refine .cons _ _ _ _ rfl ?_ ?_ | refine .cons _ _ _ _ _ rfl rfl ?_ ?_ | refine .rowsE ?_ | refine .sE rfl ?_ | exact .m _ _ rfl | refine .fE rfl ?_ | fail))
        rw [w64 (by omega)]; rfl
      · rcases Nat.lt_or_ge j i with hji | hji
        · exact hn j v hji hv
        · have : j = i := by omega
          subst this; rw [hg] at hv; cases hv; exact h
  have e1 := idx_none fun j w hw => hn j w (by have := (List.getElem?_eq_some_iff.1 hw).1; omega) hw
  clear hn
  repeat' (first | refine ts_seq (fun K hK hW => ?_) | refine ts_reg ?_ | refine tr_nil ?_ | refine tr_ev rfl ?_ | refine use_K (by assumption) ?_ | refine tr_guard_u rfl ?_ | refine tr_guard_y rfl rfl ?_ | refine tr_guard_n rfl rfl ?_ | refine tr_alloc rfl ?_ | refine tr_store rfl rfl rfl rfl rfl rfl rfl ?_ | refine ts_cond_t rfl rfl ?_ | refine ts_cond_f rfl rfl ?_ | refine ts_nop ?_ | refine ts_block ?_ | refine ts_exit ?_ | refine ts_ret ?_ | refine th_exit ?_ | refine th_ret ?_ | refine bl_normal ?_ | refine bl_ret ?_ | refine bl_hit ?_ | refine bl_miss rfl ?_ | refine tret_of (.inr rfl) rfl ?_ | refine ts_cond_f rfl (decide_eq_false (by omega)) ?_ | refine tr_call rfl (by rw [hP]; exact jumps_spec) (.inl rfl) ?_ | (refine tg_split rfl (fun h => ?_) (fun h => ?_) <;> try simp only [decide_eq_true_eq, decide_eq_false_iff_not, Bool.not_eq_true', Bool.not_eq_false', Bool.not_true, Bool.not_false, Bool.not_not, beq_iff_eq, Bool.not_eq_true, Bool.not_eq_false] at h) | (refine ts_cond rfl (fun h => ?_) (fun h => ?_) <;> try simp only [decide_eq_true_eq, decide_eq_false_iff_not, Bool.not_eq_true', Bool.not_eq_false', Bool.not_true, Bool.not_false, Bool.not_not, beq_iff_eq, Bool.not_eq_true, Bool.not_eq_false] at h) | fail)
  refine ts_loop (fun m env σ => ∃ i : Nat, m = jumpsL.length - i ∧ i ≤ jumpsL.length ∧ env = [(0, tS s), (24, .lst 1 (jumpsL.map fun s => [tS s])), (25, tI 10), (26, tI i)] ∧ σ = ⟨[], 0⟩ ∧ ∀ (j : Nat) (w : ByteArray), j < i → jumpsL[j]? = some w → w ≠ s) jumpsL.length (w_sub [0, 24, 25, 26] rfl) ⟨0, rfl, by omega, rfl, rfl, fun j w hj => by omega⟩ ?_
  rintro m env σ ⟨i, rfl, hi, rfl, rfl, hn⟩
  by_cases hlt : i < jumpsL.length
  · have hg : jumpsL[i]? = some jumpsL[i] := List.getElem?_eq_getElem hlt
    generalize jumpsL[i] = w at hg
    repeat' (first | refine ts_seq (fun K hK hW => ?_) | refine ts_reg ?_ | refine tr_nil ?_ | refine tr_ev rfl ?_ | refine use_K (by assumption) ?_ | refine tr_guard_u rfl ?_ | refine tr_guard_y rfl rfl ?_ | refine tr_guard_n rfl rfl ?_ | refine tr_alloc rfl ?_ | refine tr_store rfl rfl rfl rfl rfl rfl rfl ?_ | refine ts_cond_t rfl rfl ?_ | refine ts_cond_f rfl rfl ?_ | refine ts_nop ?_ | refine ts_block ?_ | refine ts_exit ?_ | refine ts_ret ?_ | refine th_exit ?_ | refine th_ret ?_ | refine bl_normal ?_ | refine bl_ret ?_ | refine bl_hit ?_ | refine bl_miss rfl ?_ | refine tret_of (.inr rfl) rfl ?_ | refine ts_cond_t rfl (decide_eq_true (by omega)) ?_ | refine tr_light (tl_ixm (m := i) rfl rfl rfl hg) ?_ | (refine tg_split rfl (fun h => ?_) (fun h => ?_) <;> try simp only [decide_eq_true_eq, decide_eq_false_iff_not, Bool.not_eq_true', Bool.not_eq_false', Bool.not_true, Bool.not_false, Bool.not_not, beq_iff_eq, Bool.not_eq_true, Bool.not_eq_false] at h) | (refine ts_cond rfl (fun h => ?_) (fun h => ?_) <;> try simp only [decide_eq_true_eq, decide_eq_false_iff_not, Bool.not_eq_true', Bool.not_eq_false', Bool.not_true, Bool.not_false, Bool.not_not, beq_iff_eq, Bool.not_eq_true, Bool.not_eq_false] at h) | fail)
    · subst h
      rw [op_jump h0 e1 (idx_some hg hn), w64 (by omega)]; exact .fr rfl
    · refine loop_again (m' := jumpsL.length - (i + 1)) (by omega) ?_ ⟨i + 1, rfl, by omega, rfl, rfl, fun j v hj hv => ?_⟩
      · (refine w_ren [] rfl (by rw [hp]; intro j hj; cases hj) rfl ?_ ?_ <;> repeat' (first | exact .nil | exact .f _ rfl | exact .s _ _ _ _ _ _ rfl | exact .p _ _ _ rfl | exact .rows _ _ _ | exact .iter _ _ | exact RenL.nil _ | refine RenL.cons ?_ ?_ | refine .cells _ _ _ ?_ | refine .cons _ _ _ _ rfl ?_ ?_ | refine .cons _ _ _ _ _ rfl rfl ?_ ?_ | refine .rowsE ?_ | refine .sE rfl ?_ | exact .m _ _ rfl | refine .fE rfl ?_ | fail))
        rw [w64 (by omega)]; rfl
      · rcases Nat.lt_or_ge j i with hji | hji
        · exact hn j v hji hv
        · have : j = i := by omega
          subst this; rw [hg] at hv; cases hv; exact h
  have e2 := idx_none fun j w hw => hn j w (by have := (List.getElem?_eq_some_iff.1 hw).1; omega) hw
  repeat' (first | refine ts_seq (fun K hK hW => ?_) | refine ts_reg ?_ | refine tr_nil ?_ | refine tr_ev rfl ?_ | refine use_K (by assumption) ?_ | refine tr_guard_u rfl ?_ | refine tr_guard_y rfl rfl ?_ | refine tr_guard_n rfl rfl ?_ | refine tr_alloc rfl ?_ | refine tr_store rfl rfl rfl rfl rfl rfl rfl ?_ | refine ts_cond_t rfl rfl ?_ | refine ts_cond_f rfl rfl ?_ | refine ts_nop ?_ | refine ts_block ?_ | refine ts_exit ?_ | refine ts_ret ?_ | refine th_exit ?_ | refine th_ret ?_ | refine bl_normal ?_ | refine bl_ret ?_ | refine bl_hit ?_ | refine bl_miss rfl ?_ | refine tret_of (.inr rfl) rfl ?_ | refine ts_cond_f rfl (decide_eq_false (by omega)) ?_ | (refine tg_split rfl (fun h => ?_) (fun h => ?_) <;> try simp only [decide_eq_true_eq, decide_eq_false_iff_not, Bool.not_eq_true', Bool.not_eq_false', Bool.not_true, Bool.not_false, Bool.not_not, beq_iff_eq, Bool.not_eq_true, Bool.not_eq_false] at h) | (refine ts_cond rfl (fun h => ?_) (fun h => ?_) <;> try simp only [decide_eq_true_eq, decide_eq_false_iff_not, Bool.not_eq_true', Bool.not_eq_false', Bool.not_true, Bool.not_false, Bool.not_not, beq_iff_eq, Bool.not_eq_true, Bool.not_eq_false] at h) | fail)
  rw [op_none e1 e2]
  exact .fr rfl

theorem op_spec2 (s : ByteArray) : Pure prog G n_ref1_Op [tS s] (.tup [tI (opOf s).1, tI (opOf s).2.1, tB (opOf s).2.2]) := by
  refine Pure.of mixedOk (fn := f_ref1_Op) rfl (by kernel_rfl) ok_ref1_Op rfl fun C hP hG hp => ?_
  simp only [fs_ref1_Op, targEnv, Nat.zero_add, Nat.reduceAdd]
  by_cases h0 : s = bs []
  · repeat' (first | refine ts_seq (fun K hK hW => ?_) | refine ts_reg ?_ | refine tr_nil ?_ | refine tr_ev rfl ?_ | refine use_K (by assumption) ?_ | refine tr_guard_u rfl ?_ | refine tr_guard_y rfl rfl ?_ | refine tr_guard_n rfl rfl ?_ | refine tr_alloc rfl ?_ | refine tr_store rfl rfl rfl rfl rfl rfl rfl ?_ | refine ts_cond_t rfl rfl ?_ | refine ts_cond_f rfl rfl ?_ | refine ts_nop ?_ | refine ts_block ?_ | refine ts_exit ?_ | refine ts_ret ?_ | refine th_exit ?_ | refine th_ret ?_ | refine bl_normal ?_ | refine bl_ret ?_ | refine bl_hit ?_ | refine bl_miss rfl ?_ | refine tret_of (.inr rfl) rfl ?_ | (refine tg_split rfl (fun h => ?_) (fun h => ?_) <;> (try simp only [decide_eq_true_eq, decide_eq_false_iff_not, Bool.not_eq_true', Bool.not_eq_false', Bool.not_true, Bool.not_false, Bool.not_not, beq_iff_eq, Bool.not_eq_true, Bool.not_eq_false] at h) <;> try (exfalso; (exact h h0); done)) | (refine ts_cond rfl (fun h => ?_) (fun h => ?_) <;> (try simp only [decide_eq_true_eq, decide_eq_false_iff_not, Bool.not_eq_true', Bool.not_eq_false', Bool.not_true, Bool.not_false, Bool.not_not, beq_iff_eq, Bool.not_eq_true, Bool.not_eq_false] at h) <;> try (exfalso; (exact h h0); done)) | fail)
    rw [h0, op_nil]; exact .fr rfl
  have c1 := fun G => index_spec (G := G) (bs [] :: opsL) s
  have c2 := fun G => index_spec (G := G) (bs [] :: jumpsL) s
  have k1 := idx_cons (r := opsL) (fun e => h0 e.symm : bs [] ≠ s)
  have k2 := idx_cons (r := jumpsL) (fun e => h0 e.symm : bs [] ≠ s)
  cases h1 : idx opsL s with
  | some i =>
    rw [h1] at k1
    simp only [idxI_some k1] at c1
    rw [op_some h0 h1]
    repeat' (first | refine ts_seq (fun K hK hW => ?_) | refine ts_reg ?_ | refine tr_nil ?_ | refine tr_ev rfl ?_ | refine use_K (by assumption) ?_ | refine tr_guard_u rfl ?_ | refine tr_guard_y rfl rfl ?_ | refine tr_guard_n rfl rfl ?_ | refine tr_alloc rfl ?_ | refine tr_store rfl rfl rfl rfl rfl rfl rfl ?_ | refine ts_cond_t rfl rfl ?_ | refine ts_cond_f rfl rfl ?_ | refine ts_nop ?_ | refine ts_block ?_ | refine ts_exit ?_ | refine ts_ret ?_ | refine th_exit ?_ | refine th_ret ?_ | refine bl_normal ?_ | refine bl_ret ?_ | refine bl_hit ?_ | refine bl_miss rfl ?_ | refine tret_of (.inr rfl) rfl ?_ | refine tr_call rfl (by rw [hP]; exact ops_spec2) (.inl rfl) ?_ | refine tr_call rfl (by rw [hP]; exact c1 _) (.inl rfl) ?_ | (refine tg_split rfl (fun h => ?_) (fun h => ?_) <;> (try simp only [decide_eq_true_eq, decide_eq_false_iff_not, Bool.not_eq_true', Bool.not_eq_false', Bool.not_true, Bool.not_false, Bool.not_not, beq_iff_eq, Bool.not_eq_true, Bool.not_eq_false] at h) <;> try (exfalso; (first | (exact h0 h) | omega); done)) | (refine ts_cond rfl (fun h => ?_) (fun h => ?_) <;> (try simp only [decide_eq_true_eq, decide_eq_false_iff_not, Bool.not_eq_true', Bool.not_eq_false', Bool.not_true, Bool.not_false, Bool.not_not, beq_iff_eq, Bool.not_eq_true, Bool.not_eq_false] at h) <;> try (exfalso; (first | (exact h0 h) | omega); done)) | fail)
    exact .fr rfl
  | none =>
    rw [h1] at k1
    simp only [idxI_none k1] at c1
    cases h2 : idx jumpsL s with
    | some i =>
      rw [h2] at k2
      simp only [idxI_some k2] at c2
      rw [op_jump h0 h1 h2]
      repeat' (first | refine ts_seq (fun K hK hW => ?_) | refine ts_reg ?_ | refine tr_nil ?_ | refine tr_ev rfl ?_ | refine use_K (by assumption) ?_ | refine tr_guard_u rfl ?_ | refine tr_guard_y rfl rfl ?_ | refine tr_guard_n rfl rfl ?_ | refine tr_alloc rfl ?_ | refine tr_store rfl rfl rfl rfl rfl rfl rfl ?_ | refine ts_cond_t rfl rfl ?_ | refine ts_cond_f rfl rfl ?_ | refine ts_nop ?_ | refine ts_block ?_ | refine ts_exit ?_ | refine ts_ret ?_ | refine th_exit ?_ | refine th_ret ?_ | refine bl_normal ?_ | refine bl_ret ?_ | refine bl_hit ?_ | refine bl_miss rfl ?_ | refine tret_of (.inr rfl) rfl ?_ | refine tr_call rfl (by rw [hP]; exact ops_spec2) (.inl rfl) ?_ | refine tr_call rfl (by rw [hP]; exact c1 _) (.inl rfl) ?_ | refine tr_call rfl (by rw [hP]; exact conds_spec) (.inl rfl) ?_ | refine tr_call rfl (by rw [hP]; exact c2 _) (.inl rfl) ?_ | (refine tg_split rfl (fun h => ?_) (fun h => ?_) <;> (try simp only [decide_eq_true_eq, decide_eq_false_iff_not, Bool.not_eq_true', Bool.not_eq_false', Bool.not_true, Bool.not_false, Bool.not_not, beq_iff_eq, Bool.not_eq_true, Bool.not_eq_false] at h) <;> try (exfalso; (first | (exact h0 h) | omega); done)) | (refine ts_cond rfl (fun h => ?_) (fun h => ?_) <;> (try simp only [decide_eq_true_eq, decide_eq_false_iff_not, Bool.not_eq_true', Bool.not_eq_false', Bool.not_true, Bool.not_false, Bool.not_not, beq_iff_eq, Bool.not_eq_true, Bool.not_eq_false] at h) <;> try (exfalso; (first | (exact h0 h) | omega); done)) | fail)
      exact .fr rfl
    | none =>
      rw [h2] at k2
      simp only [idxI_none k2] at c2
      rw [op_none h1 h2]
      repeat' (first | refine ts_seq (fun K hK hW => ?_) | refine ts_reg ?_ | refine tr_nil ?_ | refine tr_ev rfl ?_ | refine use_K (by assumption) ?_ | refine tr_guard_u rfl ?_ | refine tr_guard_y rfl rfl ?_ | refine tr_guard_n rfl rfl ?_ | refine tr_alloc rfl ?_ | refine tr_store rfl rfl rfl rfl rfl rfl rfl ?_ | refine ts_cond_t rfl rfl ?_ | refine ts_cond_f rfl rfl ?_ | refine ts_nop ?_ | refine ts_block ?_ | refine ts_exit ?_ | refine ts_ret ?_ | refine th_exit ?_ | refine th_ret ?_ | refine bl_normal ?_ | refine bl_ret ?_ | refine bl_hit ?_ | refine bl_miss rfl ?_ | refine tret_of (.inr rfl) rfl ?_ | refine tr_call rfl (by rw [hP]; exact ops_spec2) (.inl rfl) ?_ | refine tr_call rfl (by rw [hP]; exact c1 _) (.inl rfl) ?_ | refine tr_call rfl (by rw [hP]; exact conds_spec) (.inl rfl) ?_ | refine tr_call rfl (by rw [hP]; exact c2 _) (.inl rfl) ?_ | (refine tg_split rfl (fun h => ?_) (fun h => ?_) <;> (try simp only [decide_eq_true_eq, decide_eq_false_iff_not, Bool.not_eq_true', Bool.not_eq_false', Bool.not_true, Bool.not_false, Bool.not_not, beq_iff_eq, Bool.not_eq_true, Bool.not_eq_false] at h) <;> try (exfalso; (first | (exact h0 h) | omega); done)) | (refine ts_cond rfl (fun h => ?_) (fun h => ?_) <;> (try simp only [decide_eq_true_eq, decide_eq_false_iff_not, Bool.not_eq_true', Bool.not_eq_false', Bool.not_true, Bool.not_false, Bool.not_not, beq_iff_eq, Bool.not_eq_true, Bool.not_eq_false] at h) <;> try (exfalso; (first | (exact h0 h) | omega); done)) | fail)
      exact .fr rfl
end
section
attribute [local irreducible] TwS TwR thenT inBlockT retT idx idxI opOf spots letter digit
variable {G : World → Prop}
theorem word_spec (s : ByteArray) : Pure prog G n_names_Word [tS s] (tB (wordB s)) := by
  refine Pure.of mixedOk (fn := f_names_Word) rfl (by kernel_rfl) ok_names_Word rfl fun C hP hG hp => ?_
  simp only [fs_names_Word, targEnv, Nat.zero_add, Nat.reduceAdd]
  repeat' (first | refine ts_seq (fun K hK hW => ?_) | refine ts_reg ?_ | refine tr_nil ?_ | refine tr_ev rfl ?_ | refine use_K (by assumption) ?_ | refine tr_guard_u rfl ?_ | refine tr_guard_y rfl rfl ?_ | refine tr_guard_n rfl rfl ?_ | refine tr_alloc rfl ?_ | refine tr_store rfl rfl rfl rfl rfl rfl rfl ?_ | refine ts_cond_t rfl rfl ?_ | refine ts_cond_f rfl rfl ?_ | refine ts_nop ?_ | refine ts_block ?_ | refine ts_exit ?_ | refine ts_ret ?_ | refine th_exit ?_ | refine th_ret ?_ | refine bl_normal ?_ | refine bl_ret ?_ | refine bl_hit ?_ | refine bl_miss rfl ?_ | refine tret_of (.inr rfl) rfl ?_ | refine tr_call rfl (by rw [hP]; exact reg_spec _) (.inl rfl) ?_ | refine tr_call rfl (by rw [hP]; exact op_spec _) (.inl rfl) ?_ | (refine tg_split rfl (fun h => ?_) (fun h => ?_) <;> try simp only [decide_eq_true_eq, decide_eq_false_iff_not, Bool.not_eq_true', Bool.not_eq_false', Bool.not_true, Bool.not_false, Bool.not_not, beq_iff_eq, Bool.not_eq_true, Bool.not_eq_false] at h) | (refine ts_cond rfl (fun h => ?_) (fun h => ?_) <;> try simp only [decide_eq_true_eq, decide_eq_false_iff_not, Bool.not_eq_true', Bool.not_eq_false', Bool.not_true, Bool.not_false, Bool.not_not, beq_iff_eq, Bool.not_eq_true, Bool.not_eq_false] at h) | fail)
  all_goals refine .vb ?_
  all_goals simp_all [wordB]

theorem word_none (s : ByteArray) (h0 : s ≠ bs []) : wordB s = (decide (s = bs [115, 121, 109]) || decide (s = bs [116, 104, 114, 101, 97, 100]) || decide (s = bs [108, 111, 99, 107]) || (idx regsL s).isSome || (idx opsL s).isSome || (idx jumpsL s).isSome) := by
  have e : (opOf s).2.2 = ((idx opsL s).isSome || (idx jumpsL s).isSome) := by
    cases h1 : idx opsL s with
    | some i => rw [op_some h0 h1]; rfl
    | none =>
      cases h2 : idx jumpsL s with
      | some i => rw [op_jump h0 h1 h2]; rfl
      | none => rw [op_none h1 h2]; rfl
  rw [wordB, e, ← Bool.or_assoc]
theorem idxI_neg {l : List ByteArray} {s : ByteArray} : decide (idxI l s ≥ 0) = (idx l s).isSome := by
  cases h : idx l s with
  | none => rw [idxI_none h]; rfl
  | some i => rw [idxI_some h]; simp
theorem idxI_pos {l : List ByteArray} {s : ByteArray} (h0 : s ≠ bs []) : decide (0 < idxI (bs [] :: l) s) = (idx l s).isSome := by
  have k1 := idx_cons (r := l) (fun e => h0 e.symm : bs [] ≠ s)
  cases h : idx l s with
  | none => rw [h] at k1; rw [idxI_none k1]; rfl
  | some i => rw [h] at k1; rw [idxI_some k1]; simp
theorem word_nil : wordB (bs []) = false := by
  rw [wordB, op_nil]
  have : idx regsL (bs []) = none := by decide +kernel
  rw [this]; decide +kernel
theorem word_spec2 (s : ByteArray) : Pure prog G n_ref1_Word [tS s] (tB (wordB s)) := by
  refine Pure.of mixedOk (fn := f_ref1_Word) rfl (by kernel_rfl) ok_ref1_Word rfl fun C hP hG hp => ?_
  simp only [fs_ref1_Word, targEnv, Nat.zero_add, Nat.reduceAdd]
  by_cases h0 : s = bs []
  · subst h0
    repeat' (first | refine ts_seq (fun K hK hW => ?_) | refine ts_reg ?_ | refine tr_nil ?_ | refine tr_ev rfl ?_ | refine use_K (by assumption) ?_ | refine tr_guard_u rfl ?_ | refine tr_guard_y rfl rfl ?_ | refine tr_guard_n rfl rfl ?_ | refine tr_alloc rfl ?_ | refine tr_store rfl rfl rfl rfl rfl rfl rfl ?_ | refine ts_cond_t rfl rfl ?_ | refine ts_cond_f rfl rfl ?_ | refine ts_nop ?_ | refine ts_block ?_ | refine ts_exit ?_ | refine ts_ret ?_ | refine th_exit ?_ | refine th_ret ?_ | refine bl_normal ?_ | refine bl_ret ?_ | refine bl_hit ?_ | refine bl_miss rfl ?_ | refine tret_of (.inr rfl) rfl ?_ | (refine tg_split rfl (fun h => ?_) (fun h => ?_) <;> (try simp only [decide_eq_true_eq, decide_eq_false_iff_not, Bool.not_eq_true', Bool.not_eq_false', Bool.not_true, Bool.not_false, Bool.not_not, beq_iff_eq, Bool.not_eq_true, Bool.not_eq_false] at h) <;> try (exfalso; (exact h rfl); done)) | (refine ts_cond rfl (fun h => ?_) (fun h => ?_) <;> (try simp only [decide_eq_true_eq, decide_eq_false_iff_not, Bool.not_eq_true', Bool.not_eq_false', Bool.not_true, Bool.not_false, Bool.not_not, beq_iff_eq, Bool.not_eq_true, Bool.not_eq_false] at h) <;> try (exfalso; (exact h rfl); done)) | fail)
    exact .vb (by rw [word_nil])
  have k1 := idxI_pos (l := opsL) h0
  have k2 := idxI_pos (l := jumpsL) h0
  have k3 := idxI_neg (l := regsL) (s := s)
  rw [word_none s h0]
  repeat' (first | refine ts_seq (fun K hK hW => ?_) | refine ts_reg ?_ | refine tr_nil ?_ | refine tr_ev rfl ?_ | refine use_K (by assumption) ?_ | refine tr_guard_u rfl ?_ | refine tr_guard_y rfl rfl ?_ | refine tr_guard_n rfl rfl ?_ | refine tr_alloc rfl ?_ | refine tr_store rfl rfl rfl rfl rfl rfl rfl ?_ | refine ts_cond_t rfl rfl ?_ | refine ts_cond_f rfl rfl ?_ | refine ts_nop ?_ | refine ts_block ?_ | refine ts_exit ?_ | refine ts_ret ?_ | refine th_exit ?_ | refine th_ret ?_ | refine bl_normal ?_ | refine bl_ret ?_ | refine bl_hit ?_ | refine bl_miss rfl ?_ | refine tret_of (.inr rfl) rfl ?_ | refine tr_call rfl (by rw [hP]; exact regs_spec2) (.inl rfl) ?_ | refine tr_call rfl (by rw [hP]; exact ops_spec2) (.inl rfl) ?_ | refine tr_call rfl (by rw [hP]; exact conds_spec) (.inl rfl) ?_ | refine tr_call rfl (by rw [hP]; exact index_spec _ _) (.inl rfl) ?_ | (refine tg_split rfl (fun h => ?_) (fun h => ?_) <;> (try simp only [decide_eq_true_eq, decide_eq_false_iff_not, Bool.not_eq_true', Bool.not_eq_false', Bool.not_true, Bool.not_false, Bool.not_not, beq_iff_eq, Bool.not_eq_true, Bool.not_eq_false] at h) <;> try (exfalso; (exact h0 h); done)) | (refine ts_cond rfl (fun h => ?_) (fun h => ?_) <;> (try simp only [decide_eq_true_eq, decide_eq_false_iff_not, Bool.not_eq_true', Bool.not_eq_false', Bool.not_true, Bool.not_false, Bool.not_not, beq_iff_eq, Bool.not_eq_true, Bool.not_eq_false] at h) <;> try (exfalso; (exact h0 h); done)) | fail)
  all_goals refine .vb ?_
  all_goals simp_all
end
end Go.Proofs.YtmfkngldfphhmaaDoor
