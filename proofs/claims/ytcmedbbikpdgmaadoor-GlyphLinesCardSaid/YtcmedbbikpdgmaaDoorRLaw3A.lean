/-
  Walks of functions of the program, and what the laws need of them.
-/
import Derived.Test.YtcmedbbikpdgmaaDoorRLaw3
set_option linter.all false
set_option linter.unusedSimpArgs false
set_option linter.unusedVariables false
set_option linter.unnecessarySimpa false
namespace Go.Proofs.YtcmedbbikpdgmaaDoor
open Go Go.Proofs.YtcmedbbikpdgmaaDoor.V Go.Proofs
section
attribute [local irreducible] TwS TwR thenT inBlockT retT endS spots short letter digit blank

theorem glyphTells (s : ByteArray) : Pure prog Tabs n_law_GlyphTells [.v (.string s)] (tB true) := by
  refine Pure.of mixedOk (fn := f_law_GlyphTells) rfl (by kernel_rfl) ok_law_GlyphTells rfl fun C hP hG hp => ?_
  simp only [fs_law_GlyphTells, targEnv, Nat.zero_add, Nat.reduceAdd]
  have hs : (short s 600).size ≤ 1000000000000 := Nat.le_trans (short_size s 600) (by decide)
  repeat' (first | refine ts_seq (fun K hK hW => ?_) | refine ts_reg ?_ | refine tr_nil ?_ | refine tr_ev rfl ?_ | refine use_K (by assumption) ?_ | refine tr_guard_u rfl ?_ | refine tr_guard_y rfl rfl ?_ | refine tr_guard_n rfl rfl ?_ | refine tr_alloc rfl ?_ | refine tr_store rfl rfl rfl rfl rfl rfl rfl ?_ | refine ts_cond_t rfl rfl ?_ | refine ts_cond_f rfl rfl ?_ | refine ts_nop ?_ | refine ts_block ?_ | refine ts_exit ?_ | refine ts_ret ?_ | refine th_exit ?_ | refine th_ret ?_ | refine bl_normal ?_ | refine bl_ret ?_ | refine bl_hit ?_ | refine bl_miss rfl ?_ | refine tret_of (.inr rfl) rfl ?_ | refine tr_call rfl (by rw [hP]; exact short_spec s 600) (.inl rfl) ?_ | refine tr_call rfl (by rw [hP]; exact end_spec _ hs) (.inl rfl) ?_ | refine tr_call rfl (by rw [hP]; exact end_spec2 _ hs) (.inl rfl) ?_ | refine tr_call rfl (by rw [hP, hG]; exact spots_spec _ hs) (.inl rfl) ?_ | refine tr_call rfl (by rw [hP]; exact spots_spec2 _ hs) (.inl rfl) ?_ | refine tr_call rfl (by rw [hP]; exact same_spec _) (.inl rfl) ?_ | refine tr_call rfl (by rw [hP, hG]; exact alive_spec) (.inl rfl) ?_ | (refine tg_split rfl (fun h => ?_) (fun h => ?_) <;> (try simp only [decide_eq_true_eq, decide_eq_false_iff_not, Bool.not_eq_true', Bool.not_eq_false', Bool.not_true, Bool.not_false, Bool.not_not, beq_iff_eq, Bool.not_eq_true, Bool.not_eq_false] at h) <;> try (exfalso; simp at h; done)) | (refine ts_cond rfl (fun h => ?_) (fun h => ?_) <;> (try simp only [decide_eq_true_eq, decide_eq_false_iff_not, Bool.not_eq_true', Bool.not_eq_false', Bool.not_true, Bool.not_false, Bool.not_not, beq_iff_eq, Bool.not_eq_true, Bool.not_eq_false] at h) <;> try (exfalso; simp at h; done)))
  exact .fr rfl

theorem glyphClasses (r : Int) : Pure prog Tabs n_law_GlyphClasses [.v (.int .i32 r)] (tB true) := by
  have h1 : ¬ (letter r = true ∧ digit r = true) := by simp only [letter, digit, decide_eq_true_eq]; omega
  have h2 : ¬ (letter r = true ∧ blank r = true) := by simp only [letter, blank, decide_eq_true_eq]; omega
  have h3 : ¬ (digit r = true ∧ blank r = true) := by simp only [digit, blank, decide_eq_true_eq]; omega
  refine Pure.of mixedOk (fn := f_law_GlyphClasses) rfl (by kernel_rfl) ok_law_GlyphClasses rfl fun C hP hG hp => ?_
  simp only [fs_law_GlyphClasses, targEnv, Nat.zero_add, Nat.reduceAdd]
  repeat' (first | refine ts_seq (fun K hK hW => ?_) | refine ts_reg ?_ | refine tr_nil ?_ | refine tr_ev rfl ?_ | refine use_K (by assumption) ?_ | refine tr_guard_u rfl ?_ | refine tr_guard_y rfl rfl ?_ | refine tr_guard_n rfl rfl ?_ | refine tr_alloc rfl ?_ | refine tr_store rfl rfl rfl rfl rfl rfl rfl ?_ | refine ts_cond_t rfl rfl ?_ | refine ts_cond_f rfl rfl ?_ | refine ts_nop ?_ | refine ts_block ?_ | refine ts_exit ?_ | refine ts_ret ?_ | refine th_exit ?_ | refine th_ret ?_ | refine bl_normal ?_ | refine bl_ret ?_ | refine bl_hit ?_ | refine bl_miss rfl ?_ | refine tret_of (.inr rfl) rfl ?_ | refine tr_call rfl (by rw [hP]; exact letter_spec _) (.inl rfl) ?_ | refine tr_call rfl (by rw [hP]; exact letter_spec2 _) (.inl rfl) ?_ | refine tr_call rfl (by rw [hP]; exact digit_spec _) (.inl rfl) ?_ | refine tr_call rfl (by rw [hP]; exact digit_spec2 _) (.inl rfl) ?_ | refine tr_call rfl (by rw [hP]; exact blank_spec _) (.inl rfl) ?_ | refine tr_call rfl (by rw [hP]; exact blank_spec2 _) (.inl rfl) ?_ | refine tr_light (tl_eqb (by rw [hP]; exact ut_bool) rfl rfl) ?_ | refine tr_call rfl (by rw [hP, hG]; exact alive_spec) (.inl rfl) ?_ | (refine tg_split rfl (fun h => ?_) (fun h => ?_) <;> (try simp only [decide_eq_true_eq, decide_eq_false_iff_not, Bool.not_eq_true', Bool.not_eq_false', Bool.not_true, Bool.not_false, Bool.not_not, beq_iff_eq, Bool.not_eq_true, Bool.not_eq_false] at h) <;> try (exfalso; simp_all; done)) | (refine ts_cond rfl (fun h => ?_) (fun h => ?_) <;> (try simp only [decide_eq_true_eq, decide_eq_false_iff_not, Bool.not_eq_true', Bool.not_eq_false', Bool.not_true, Bool.not_false, Bool.not_not, beq_iff_eq, Bool.not_eq_true, Bool.not_eq_false] at h) <;> try (exfalso; simp_all; done)))
  all_goals exact .fr rfl

theorem end_nil (s : ByteArray) (n pos : Nat) (lc : Int × Int) (h : spotsOf s n pos lc = []) : endOf s n pos lc = lc := by rw [end_last, h]; rfl
/-- The rune that comes, if there is one. -/
theorem spots_next (s : ByteArray) (n pos : Nat) (lc : Int × Int) (h : spotsOf s n pos lc ≠ []) : ∃ k, n = k + 1 ∧ pos < s.size ∧ spotsOf s n pos lc = spotAt s pos lc :: spotsOf s k (pos + (Utf8.decode s pos).2) (stepN lc (Utf8.decode s pos).1) ∧
    endOf s n pos lc = endOf s k (pos + (Utf8.decode s pos).2) (stepN lc (Utf8.decode s pos).1) := by
  cases n with
  | zero => exact absurd rfl h
  | succ k =>
    by_cases hp : pos < s.size
    · exact ⟨k, rfl, hp, by simp only [spotsOf, if_pos hp], by simp only [endOf, if_pos hp]⟩
    · exact absurd (by simp only [spotsOf, if_neg hp]) h

theorem spots_def (s : ByteArray) : spots s = spotsOf s s.size 0 (1, 1) := by unfold spots; rfl
theorem endS_def (s : ByteArray) : endS s = endOf s s.size 0 (1, 1) := by unfold endS; rfl

theorem glyphOrder (s : ByteArray) : Pure prog Tabs n_law_GlyphOrder [.v (.string s)] (tB true) := by
  refine Pure.of mixedOk (fn := f_law_GlyphOrder) rfl (by kernel_rfl) ok_law_GlyphOrder rfl fun C hP hG hp => ?_
  simp only [fs_law_GlyphOrder, targEnv, Nat.zero_add, Nat.reduceAdd]
  have hs : (short s 600).size ≤ 1000000000000 := Nat.le_trans (short_size s 600) (by decide)
  have hs6 := short_size s 600
  have hsl : (spots (short s 600)).length ≤ 600 := by rw [spots_def]; exact Nat.le_trans (spots_len ..) hs6
  repeat' (first | refine ts_seq (fun K hK hW => ?_) | refine ts_reg ?_ | refine tr_nil ?_ | refine tr_ev rfl ?_ | refine use_K (by assumption) ?_ | refine tr_guard_u rfl ?_ | refine tr_guard_y rfl rfl ?_ | refine tr_guard_n rfl rfl ?_ | refine tr_alloc rfl ?_ | refine tr_store rfl rfl rfl rfl rfl rfl rfl ?_ | refine ts_cond_t rfl rfl ?_ | refine ts_cond_f rfl rfl ?_ | refine ts_nop ?_ | refine ts_block ?_ | refine ts_exit ?_ | refine ts_ret ?_ | refine th_exit ?_ | refine th_ret ?_ | refine bl_normal ?_ | refine bl_ret ?_ | refine bl_hit ?_ | refine bl_miss rfl ?_ | refine tret_of (.inr rfl) rfl ?_ | refine tr_call rfl (by rw [hP]; exact short_spec s 600) (.inl rfl) ?_ | refine tr_call rfl (by rw [hP, hG]; exact spots_spec _ hs) (.inl rfl) ?_ | (refine tg_split rfl (fun h => ?_) (fun h => ?_) <;> try simp only [decide_eq_true_eq, decide_eq_false_iff_not, Bool.not_eq_true', Bool.not_eq_false', Bool.not_true, Bool.not_false, Bool.not_not, beq_iff_eq, Bool.not_eq_true, Bool.not_eq_false] at h) | (refine ts_cond rfl (fun h => ?_) (fun h => ?_) <;> try simp only [decide_eq_true_eq, decide_eq_false_iff_not, Bool.not_eq_true', Bool.not_eq_false', Bool.not_true, Bool.not_false, Bool.not_not, beq_iff_eq, Bool.not_eq_true, Bool.not_eq_false] at h))
  generalize hx : short s 600 = x at hs hs6 hsl
  refine ts_loop (fun m env σ => ∃ (n pos : Nat) (lc : Int × Int) (pre : List Spot), m = n ∧ env = [(0, .v (.string x)), (3, .lst 6 ((spots x).map cSpot)), (4, tI lc.1), (5, tI lc.2), (6, tI pre.length)] ∧ σ = ⟨[], 0⟩ ∧
    pre ++ spotsOf x n pos lc = spots x ∧ endOf x n pos lc = endS x ∧ 0 ≤ lc.1 ∧ lc.1 ≤ pos + 1 ∧ 0 ≤ lc.2 ∧ lc.2 ≤ pos + 1 ∧ pos ≤ 10000) x.size (w_sub [0, 3, 4, 5, 6] rfl) ⟨x.size, 0, (1, 1), [], rfl, rfl, rfl, (spots_def x).symm, (endS_def x).symm, by simp, by simp, by simp, by simp, by simp⟩ ?_
  rintro m env σ ⟨n, pos, lc, pre, rfl, rfl, rfl, hpre, hend, h1, h2, h3, h4, h5⟩
  have hlen : (spots x).length = pre.length + (spotsOf x m pos lc).length := by rw [← hpre, List.length_append]
  by_cases hnil : spotsOf x m pos lc = []
  · have hl : (spots x).length = pre.length := by rw [hlen, hnil]; rfl
    have he : endS x = lc := by rw [← hend, end_nil _ _ _ _ hnil]
    repeat' (first | refine ts_seq (fun K hK hW => ?_) | refine ts_reg ?_ | refine tr_nil ?_ | refine tr_ev rfl ?_ | refine use_K (by assumption) ?_ | refine tr_guard_u rfl ?_ | refine tr_guard_y rfl rfl ?_ | refine tr_guard_n rfl rfl ?_ | refine tr_alloc rfl ?_ | refine tr_store rfl rfl rfl rfl rfl rfl rfl ?_ | refine ts_cond_t rfl rfl ?_ | refine ts_cond_f rfl rfl ?_ | refine ts_nop ?_ | refine ts_block ?_ | refine ts_exit ?_ | refine ts_ret ?_ | refine th_exit ?_ | refine th_ret ?_ | refine bl_normal ?_ | refine bl_ret ?_ | refine bl_hit ?_ | refine bl_miss rfl ?_ | refine tret_of (.inr rfl) rfl ?_ | refine ts_cond_f rfl (decide_eq_false (by rw [List.length_map]; omega)) ?_ | refine tr_call rfl (by rw [hP]; exact end_spec _ hs) (.inl rfl) ?_ | refine tr_call rfl (by rw [hP, hG]; exact alive_spec) (.inl rfl) ?_ | (refine tg_split rfl (fun h => ?_) (fun h => ?_) <;> (try simp only [decide_eq_true_eq, decide_eq_false_iff_not, Bool.not_eq_true', Bool.not_eq_false', Bool.not_true, Bool.not_false, Bool.not_not, beq_iff_eq, Bool.not_eq_true, Bool.not_eq_false] at h) <;> try (exfalso; (simp [he] at h); done)) | (refine ts_cond rfl (fun h => ?_) (fun h => ?_) <;> (try simp only [decide_eq_true_eq, decide_eq_false_iff_not, Bool.not_eq_true', Bool.not_eq_false', Bool.not_true, Bool.not_false, Bool.not_not, beq_iff_eq, Bool.not_eq_true, Bool.not_eq_false] at h) <;> try (exfalso; (simp [he] at h); done)))
    exact .fr rfl
  · obtain ⟨k, rfl, hp', hsp, hen⟩ := spots_next _ _ _ _ hnil
    have hd := decode_pos x pos
    have hg : (spots x)[pre.length]? = some (spotAt x pos lc) := by rw [← hpre, hsp]; simp
    repeat' (first | refine ts_seq (fun K hK hW => ?_) | refine ts_reg ?_ | refine tr_nil ?_ | refine tr_ev rfl ?_ | refine use_K (by assumption) ?_ | refine tr_guard_u rfl ?_ | refine tr_guard_y rfl rfl ?_ | refine tr_guard_n rfl rfl ?_ | refine tr_alloc rfl ?_ | refine tr_store rfl rfl rfl rfl rfl rfl rfl ?_ | refine ts_cond_t rfl rfl ?_ | refine ts_cond_f rfl rfl ?_ | refine ts_nop ?_ | refine ts_block ?_ | refine ts_exit ?_ | refine ts_ret ?_ | refine th_exit ?_ | refine th_ret ?_ | refine bl_normal ?_ | refine bl_ret ?_ | refine bl_hit ?_ | refine bl_miss rfl ?_ | refine tret_of (.inr rfl) rfl ?_ | refine ts_cond_t rfl (decide_eq_true (by rw [List.length_map, hlen, hsp, List.length_cons]; omega)) ?_ | refine tr_light (tl_ixm (m := pre.length) rfl rfl rfl hg) ?_ | (refine tg_split rfl (fun h => ?_) (fun h => ?_) <;> (try simp only [decide_eq_true_eq, decide_eq_false_iff_not, Bool.not_eq_true', Bool.not_eq_false', Bool.not_true, Bool.not_false, Bool.not_not, beq_iff_eq, Bool.not_eq_true, Bool.not_eq_false] at h) <;> try (exfalso; (simp [spotAt] at h); done)) | (refine ts_cond rfl (fun h => ?_) (fun h => ?_) <;> (try simp only [decide_eq_true_eq, decide_eq_false_iff_not, Bool.not_eq_true', Bool.not_eq_false', Bool.not_true, Bool.not_false, Bool.not_not, beq_iff_eq, Bool.not_eq_true, Bool.not_eq_false] at h) <;> try (exfalso; (simp [spotAt] at h); done)))
    all_goals refine loop_again (m' := k) (by omega) ?_ ⟨k, pos + (Utf8.decode x pos).2, stepN lc (Utf8.decode x pos).1, pre ++ [spotAt x pos lc], rfl, rfl, rfl, by rw [← hpre, hsp, List.append_assoc]; rfl, by rw [← hend, hen], ?_, ?_, ?_, ?_, by omega⟩
    all_goals try (simp only [stepN]; split <;> simp only <;> omega)
    all_goals (refine w_ren [] rfl (by rw [hp]; intro j hj; cases hj) rfl ?_ ?_ <;> repeat' (first | exact .nil | exact .f _ rfl | exact .s _ _ _ _ _ _ rfl | exact .p _ _ _ rfl | exact .rows _ _ _ | exact .iter _ _ | exact RenL.nil _ | refine RenL.cons ?_ ?_ | refine .cells _ _ _ ?_ | refine .cons _ _ _ _ rfl ?_ ?_ | refine .cons _ _ _ _ _ rfl rfl ?_ ?_ | refine .rowsE ?_ | refine .sE rfl ?_ | exact .m _ _ rfl | refine .fE rfl ?_ | fail))
    all_goals try (rw [List.length_append, w64 (by omega)]; rfl)
    all_goals have h' := h
    all_goals simp only [spotAt] at h'
    all_goals first | rw [stepN_yes _ _ (by assumption)] | rw [stepN_no _ _ (by assumption)]
    all_goals first | rfl | (rw [w64 (by omega)])
end
end Go.Proofs.YtcmedbbikpdgmaaDoor
