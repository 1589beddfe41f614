/-
  Walks of functions of the program, and what the laws need of them.
-/
import Derived.Test.YtmfkngldfphhmaaDoorRNamesD
set_option linter.all false
set_option linter.unusedSimpArgs false
set_option linter.unusedVariables false
set_option linter.unnecessarySimpa false
namespace Go.Proofs.YtmfkngldfphhmaaDoor
open Go Go.Proofs.YtmfkngldfphhmaaDoor.V Go.Proofs
section
attribute [local irreducible] TwS TwR thenT inBlockT retT idx idxI opOf spots letter digit wordB okAt okAll rightB regT opT short

theorem alive_spec : Pure prog Tabs n_law_alive [] (tB true) := by
  have c1 := fun G => op_spec (G := G) (bs [106, 110, 101])
  have c2 := fun G => reg_spec (G := G) (bs [114, 56])
  have c3 := right_spec (bs [120, 49]) (by decide)
  have c4 := right_spec (bs [109, 111, 118]) (by decide)
  have c5 := fun G => word_spec (G := G) (bs [115, 121, 109])
  have c6 := fun G => opText_spec (G := G) 1 1
  simp only [show opOf (bs [106, 110, 101]) = (11, 2, true) by kernel_rfl] at c1
  simp only [show idx regsL (bs [114, 56]) = some 6 by kernel_rfl] at c2
  simp only [show rightB (bs [120, 49]) = true by kernel_rfl] at c3
  simp only [show rightB (bs [109, 111, 118]) = false by kernel_rfl] at c4
  simp only [show wordB (bs [115, 121, 109]) = true by kernel_rfl] at c5
  simp only [show opT 1 1 = bs [] by kernel_rfl] at c6
  refine Pure.of mixedOk (fn := f_law_alive) rfl (by kernel_rfl) ok_law_alive rfl fun C hP hG hp => ?_
  simp only [fs_law_alive, targEnv, Nat.zero_add, Nat.reduceAdd]
  repeat' (first | refine ts_seq (fun K hK hW => ?_) | refine ts_reg ?_ | refine tr_nil ?_ | refine tr_ev rfl ?_ | refine use_K (by assumption) ?_ | refine tr_guard_u rfl ?_ | refine tr_guard_y rfl rfl ?_ | refine tr_guard_n rfl rfl ?_ | refine tr_alloc rfl ?_ | refine tr_store rfl rfl rfl rfl rfl rfl rfl ?_ | refine ts_cond_t rfl rfl ?_ | refine ts_cond_f rfl rfl ?_ | refine ts_nop ?_ | refine ts_block ?_ | refine ts_exit ?_ | refine ts_ret ?_ | refine th_exit ?_ | refine th_ret ?_ | refine bl_normal ?_ | refine bl_ret ?_ | refine bl_hit ?_ | refine bl_miss rfl ?_ | refine tret_of (.inr rfl) rfl ?_ | refine tr_call rfl (by rw [hP]; exact c1 _) (.inl rfl) ?_ | refine tr_call rfl (by rw [hP]; exact c2 _) (.inl rfl) ?_ | refine tr_call rfl (by rw [hP, hG]; exact c3) (.inl rfl) ?_ | refine tr_call rfl (by rw [hP, hG]; exact c4) (.inl rfl) ?_ | refine tr_call rfl (by rw [hP]; exact c5 _) (.inl rfl) ?_ | refine tr_call rfl (by rw [hP]; exact c6 _) (.inl rfl) ?_ | fail)
  exact .fr rfl

theorem namesTell (s : ByteArray) : Pure prog Tabs n_law_NamesTell [tS s] (tB true) := by
  refine Pure.of mixedOk (fn := f_law_NamesTell) rfl (by kernel_rfl) ok_law_NamesTell rfl fun C hP hG hp => ?_
  simp only [fs_law_NamesTell, targEnv, Nat.zero_add, Nat.reduceAdd]
  have hs : (short s 80).size ≤ 1000000000000 := Nat.le_trans (short_size s 80) (by decide)
  repeat' (first | refine ts_seq (fun K hK hW => ?_) | refine ts_reg ?_ | refine tr_nil ?_ | refine tr_ev rfl ?_ | refine use_K (by assumption) ?_ | refine tr_guard_u rfl ?_ | refine tr_guard_y rfl rfl ?_ | refine tr_guard_n rfl rfl ?_ | refine tr_alloc rfl ?_ | refine tr_store rfl rfl rfl rfl rfl rfl rfl ?_ | refine ts_cond_t rfl rfl ?_ | refine ts_cond_f rfl rfl ?_ | refine ts_nop ?_ | refine ts_block ?_ | refine ts_exit ?_ | refine ts_ret ?_ | refine th_exit ?_ | refine th_ret ?_ | refine bl_normal ?_ | refine bl_ret ?_ | refine bl_hit ?_ | refine bl_miss rfl ?_ | refine tret_of (.inr rfl) rfl ?_ | refine tr_call rfl (by rw [hP]; exact short_spec s 80) (.inl rfl) ?_ | refine tr_call rfl (by rw [hP]; exact reg_spec _) (.inl rfl) ?_ | refine tr_call rfl (by rw [hP]; exact reg_spec2 _) (.inl rfl) ?_ | refine tr_call rfl (by rw [hP]; exact op_spec _) (.inl rfl) ?_ | refine tr_call rfl (by rw [hP]; exact op_spec2 _) (.inl rfl) ?_ | refine tr_call rfl (by rw [hP]; exact word_spec _) (.inl rfl) ?_ | refine tr_call rfl (by rw [hP]; exact word_spec2 _) (.inl rfl) ?_ | refine tr_call rfl (by rw [hP, hG]; exact right_spec _ hs) (.inl rfl) ?_ | refine tr_call rfl (by rw [hP, hG]; exact right_spec2 _ hs) (.inl rfl) ?_ | refine tr_call rfl (by rw [hP, hG]; exact alive_spec) (.inl rfl) ?_ | refine tr_light (tl_eqb (by rw [hP]; exact ut_bool) rfl rfl) ?_ | (refine tg_split rfl (fun h => ?_) (fun h => ?_) <;> (try simp only [decide_eq_true_eq, decide_eq_false_iff_not, Bool.not_eq_true', Bool.not_eq_false', Bool.not_true, Bool.not_false, Bool.not_not, beq_iff_eq, Bool.not_eq_true, Bool.not_eq_false] at h) <;> try (exfalso; (simp at h); done)) | (refine ts_cond rfl (fun h => ?_) (fun h => ?_) <;> (try simp only [decide_eq_true_eq, decide_eq_false_iff_not, Bool.not_eq_true', Bool.not_eq_false', Bool.not_true, Bool.not_false, Bool.not_not, beq_iff_eq, Bool.not_eq_true, Bool.not_eq_false] at h) <;> try (exfalso; (simp at h); done)) | fail)
  all_goals exact .fr rfl

theorem namesTexts (r op cond : Int) : Pure prog Tabs n_law_NamesTexts [tI r, tI op, tI cond] (tB true) := by
  refine Pure.of mixedOk (fn := f_law_NamesTexts) rfl (by kernel_rfl) ok_law_NamesTexts rfl fun C hP hG hp => ?_
  simp only [fs_law_NamesTexts, targEnv, Nat.zero_add, Nat.reduceAdd]
  repeat' (first | refine ts_seq (fun K hK hW => ?_) | refine ts_reg ?_ | refine tr_nil ?_ | refine tr_ev rfl ?_ | refine use_K (by assumption) ?_ | refine tr_guard_u rfl ?_ | refine tr_guard_y rfl rfl ?_ | refine tr_guard_n rfl rfl ?_ | refine tr_alloc rfl ?_ | refine tr_store rfl rfl rfl rfl rfl rfl rfl ?_ | refine ts_cond_t rfl rfl ?_ | refine ts_cond_f rfl rfl ?_ | refine ts_nop ?_ | refine ts_block ?_ | refine ts_exit ?_ | refine ts_ret ?_ | refine th_exit ?_ | refine th_ret ?_ | refine bl_normal ?_ | refine bl_ret ?_ | refine bl_hit ?_ | refine bl_miss rfl ?_ | refine tret_of (.inr rfl) rfl ?_ | refine tr_call rfl (by rw [hP]; exact regText_spec _) (.inl rfl) ?_ | refine tr_call rfl (by rw [hP]; exact regText_spec2 _) (.inl rfl) ?_ | refine tr_call rfl (by rw [hP]; exact opText_spec _ _) (.inl rfl) ?_ | refine tr_call rfl (by rw [hP]; exact opText_spec2 _ _) (.inl rfl) ?_ | refine tr_call rfl (by rw [hP, hG]; exact alive_spec) (.inl rfl) ?_ | (refine tg_split rfl (fun h => ?_) (fun h => ?_) <;> (try simp only [decide_eq_true_eq, decide_eq_false_iff_not, Bool.not_eq_true', Bool.not_eq_false', Bool.not_true, Bool.not_false, Bool.not_not, beq_iff_eq, Bool.not_eq_true, Bool.not_eq_false] at h) <;> try (exfalso; (simp at h); done)) | (refine ts_cond rfl (fun h => ?_) (fun h => ?_) <;> (try simp only [decide_eq_true_eq, decide_eq_false_iff_not, Bool.not_eq_true', Bool.not_eq_false', Bool.not_true, Bool.not_false, Bool.not_not, beq_iff_eq, Bool.not_eq_true, Bool.not_eq_false] at h) <;> try (exfalso; (simp at h); done)) | fail)
  all_goals exact .fr rfl
end
end Go.Proofs.YtmfkngldfphhmaaDoor
