/-
  Walks of functions of the program, and what the laws need of them.
-/
import Derived.Test.YtmfkngldfphhmaaDoorRGlyphA
import Derived.Test.YtmfkngldfphhmaaDoorRLay
set_option linter.all false
set_option linter.unusedSimpArgs false
set_option linter.unusedVariables false
set_option linter.unnecessarySimpa false
namespace Go.Proofs.YtmfkngldfphhmaaDoor
open Go Go.Proofs.YtmfkngldfphhmaaDoor.V Go.Proofs
section
attribute [local irreducible] TwS TwR thenT inBlockT retT

variable {G : World → Prop}
theorem runeLen_spec (r : Int) : Pure prog G n_utf8_RuneLen [.v (.int .i32 r)] (.v (.int .i64 (runeLen r))) := by
  refine Pure.of mixedOk (fn := f_utf8_RuneLen) rfl (by kernel_rfl) ok_utf8_RuneLen rfl fun C hP hG hp => ?_
  simp only [fs_utf8_RuneLen, targEnv, Nat.zero_add, Nat.reduceAdd]
  repeat' (first | refine ts_seq (fun K hK hW => ?_) | refine ts_reg ?_ | refine tr_nil ?_ | refine tr_ev rfl ?_ | refine use_K (by assumption) ?_ | refine tr_guard_u rfl ?_ | refine tr_guard_y rfl rfl ?_ | refine tr_guard_n rfl rfl ?_ | refine tr_alloc rfl ?_ | refine tr_store rfl rfl rfl rfl rfl rfl rfl ?_ | refine ts_cond_t rfl rfl ?_ | refine ts_cond_f rfl rfl ?_ | refine ts_nop ?_ | refine ts_block ?_ | refine ts_exit ?_ | refine ts_ret ?_ | refine th_exit ?_ | refine th_ret ?_ | refine bl_normal ?_ | refine bl_ret ?_ | refine bl_hit ?_ | refine bl_miss rfl ?_ | refine tret_of (.inr rfl) rfl ?_ | (refine tg_split rfl (fun h => ?_) (fun h => ?_) <;> try simp only [decide_eq_true_eq, decide_eq_false_iff_not, Bool.not_eq_true', Bool.not_eq_false', Bool.not_true, Bool.not_false, Bool.not_not, beq_iff_eq, Bool.not_eq_true, Bool.not_eq_false] at h) | (refine ts_cond rfl (fun h => ?_) (fun h => ?_) <;> try simp only [decide_eq_true_eq, decide_eq_false_iff_not, Bool.not_eq_true', Bool.not_eq_false', Bool.not_true, Bool.not_false, Bool.not_not, beq_iff_eq, Bool.not_eq_true, Bool.not_eq_false] at h) | fail)
  all_goals refine .vi ?_
  all_goals unfold runeLen
  all_goals repeat' split
  all_goals omega

theorem decode_tail (s : ByteArray) (i : Nat) (h : i < s.size) : Lib.decodeGo (s.extract i s.size) = Utf8.decode s i := by
  have hs : (s.extract i s.size).size = s.size - i := by simp [ByteArray.size_extract]
  have hl : (s.extract i s.size).data.toList = s.data.toList.drop i := by
    simp only [ByteArray.data_extract, Array.toList_extract, List.extract_eq_take_drop]
    rw [List.take_of_length_le (by simp)]
  have hg : ∀ k, (s.extract i s.size).get! k = s.get! (i + k) := by
    intro k
    rw [get_eq, get_eq, hl, List.getElem?_drop]
  have hc : ∀ k, decide (k < s.size - i) = decide (i + k < s.size) := fun k => decide_eq_decide.2 (by omega)
  unfold Lib.decodeGo
  rw [if_neg (by omega)]
  unfold Utf8.decode
  simp only [hs, Nat.zero_add, hg, hc, Nat.add_zero]
theorem spots_spec (s : ByteArray) (hs : s.size ≤ 1000000000000) : Pure prog Tabs n_glyph_Spots [.v (.string s)] (.lst 6 ((spots s).map cSpot)) := by
  refine Pure.of mixedOk (fn := f_glyph_Spots) rfl (by kernel_rfl) ok_glyph_Spots rfl fun C hP hG hp => ?_
  simp only [fs_glyph_Spots, targEnv, Nat.zero_add, Nat.reduceAdd]
  repeat' (first | refine ts_seq (fun K hK hW => ?_) | refine ts_reg ?_ | refine tr_nil ?_ | refine tr_ev rfl ?_ | refine use_K (by assumption) ?_ | refine tr_guard_u rfl ?_ | refine tr_guard_y rfl rfl ?_ | refine tr_guard_n rfl rfl ?_ | refine tr_alloc rfl ?_ | refine tr_store rfl rfl rfl rfl rfl rfl rfl ?_ | refine ts_cond_t rfl rfl ?_ | refine ts_cond_f rfl rfl ?_ | refine ts_nop ?_ | refine ts_block ?_ | refine ts_exit ?_ | refine ts_ret ?_ | refine th_exit ?_ | refine th_ret ?_ | refine bl_normal ?_ | refine bl_ret ?_ | refine bl_hit ?_ | refine bl_miss rfl ?_ | refine tret_of (.inr rfl) rfl ?_ | fail)
  refine ts_loop (fun m env σ => ∃ (pos : Nat) (lc : Int × Int) (xs : List Spot), m = s.size - pos ∧ env = [(0, .v (.string s)), (3, .s 1 6 0 xs.length true), (4, .v (.int .i64 lc.1)), (5, .v (.int .i64 lc.2)), (10, .p 0 0)] ∧ σ = ⟨[(1, .rows 6 (xs.map cSpot) ty_glyph_Spot), (0, .iter s pos)], 2⟩ ∧
    xs ++ spotsOf s m pos lc = spots s ∧ 0 ≤ lc.1 ∧ lc.1 ≤ pos + 1 ∧ 0 ≤ lc.2 ∧ lc.2 ≤ pos + 1 ∧ pos < 1000000000005 ∧ xs.length ≤ pos)
    s.size ((w_virt (d := 3) 6 ty_glyph_Spot rfl).trans (w_sub [0, 3, 4, 5, 10] rfl)) ⟨0, (1, 1), [], rfl, rfl, rfl, rfl, by omega, by omega, by omega, by omega, by omega, by simp⟩ ?_
  rintro m env σ ⟨pos, lc, xs, rfl, rfl, rfl, he, h1, h2, h3, h4, h5, h6⟩
  by_cases hlt : pos < s.size
  · have hd := decode_pos s pos
    have hspot : spotsOf s (s.size - pos) pos lc = spotAt s pos lc :: spotsOf s (s.size - (pos + (Utf8.decode s pos).2)) (pos + (Utf8.decode s pos).2) (stepN lc (Utf8.decode s pos).1) := by
      rw [show s.size - pos = (s.size - pos - 1) + 1 by omega, spotsOf, if_pos hlt]
      rw [spots_more _ _ (s.size - (pos + (Utf8.decode s pos).2)) _ _ (by omega) (by omega)]
    have hbnd : 0 ≤ (stepN lc (Utf8.decode s pos).1).1 ∧ (stepN lc (Utf8.decode s pos).1).1 ≤ ((pos + (Utf8.decode s pos).2 : Nat) : Int) + 1 ∧ 0 ≤ (stepN lc (Utf8.decode s pos).1).2 ∧ (stepN lc (Utf8.decode s pos).1).2 ≤ ((pos + (Utf8.decode s pos).2 : Nat) : Int) + 1 := by
      simp only [stepN]
      split <;> simp only <;> omega
    repeat' (first | refine ts_seq (fun K hK hW => ?_) | refine ts_reg ?_ | refine tr_nil ?_ | refine tr_ev rfl ?_ | refine use_K (by assumption) ?_ | refine tr_guard_u rfl ?_ | refine tr_guard_y rfl rfl ?_ | refine tr_guard_n rfl rfl ?_ | refine tr_alloc rfl ?_ | refine tr_store rfl rfl rfl rfl rfl rfl rfl ?_ | refine ts_cond_t rfl rfl ?_ | refine ts_cond_f rfl rfl ?_ | refine ts_nop ?_ | refine ts_block ?_ | refine ts_exit ?_ | refine ts_ret ?_ | refine th_exit ?_ | refine th_ret ?_ | refine bl_normal ?_ | refine bl_ret ?_ | refine bl_hit ?_ | refine bl_miss rfl ?_ | refine tret_of (.inr rfl) rfl ?_ | refine tr_next rfl rfl rfl hlt ?_ | refine tr_light (tl_slS (by rw [hP]; kernel_rfl) rfl rfl rfl (by simp; omega)) ?_ | refine tr_call rfl (by rw [hP, hG]; exact decode_spec _) (.inl rfl) ?_ | refine tr_call rfl (by rw [hP]; exact runeLen_spec _) (.inl rfl) ?_ | refine tr_call rfl (by rw [hP]; exact step_spec _ _ (by omega) (by omega)) (.inl rfl) ?_ | refine tr_append rfl rfl (by rw [List.length_map]) (.inr (.inr ⟨_, _, _, _, rfl, rfl, rfl⟩)) (by simp only [List.length_cons, List.length_nil]; omega) rfl ?_ | (refine tg_split rfl (fun h => ?_) (fun h => ?_) <;> try simp only [decide_eq_true_eq, decide_eq_false_iff_not, Bool.not_eq_true', Bool.not_eq_false', Bool.not_true, Bool.not_false, Bool.not_not, beq_iff_eq, Bool.not_eq_true, Bool.not_eq_false] at h) | (refine ts_cond rfl (fun h => ?_) (fun h => ?_) <;> try simp only [decide_eq_true_eq, decide_eq_false_iff_not, Bool.not_eq_true', Bool.not_eq_false', Bool.not_true, Bool.not_false, Bool.not_not, beq_iff_eq, Bool.not_eq_true, Bool.not_eq_false] at h) | fail)
    all_goals refine loop_again (m' := s.size - (pos + (Utf8.decode s pos).2)) (by omega) ?_ ⟨pos + (Utf8.decode s pos).2, stepN lc (Utf8.decode s pos).1, xs ++ [spotAt s pos lc], rfl, rfl, rfl, by rw [← he, hspot, List.append_assoc]; rfl, hbnd.1, hbnd.2.1, hbnd.2.2.1, hbnd.2.2.2, by omega, by rw [List.length_append]; simp only [List.length_cons, List.length_nil]; omega⟩
    · (refine w_ren [(1, 4), (0, 0)] rfl (by rw [hp]; intro j hj; cases hj) rfl ?_ ?_ <;> repeat' (first | exact .nil | exact .f _ rfl | exact .s _ _ _ _ _ _ rfl | exact .p _ _ _ rfl | exact .rows _ _ _ | exact .iter _ _ | exact RenL.nil _ | refine RenL.cons ?_ ?_ | refine .cells _ _ _ ?_ | refine .cons _ _ _ _ rfl ?_ ?_ | refine .cons _ _ _ _ _ rfl rfl ?_ ?_ | refine .rowsE ?_ | refine .sE rfl ?_ | exact .m _ _ rfl | refine .fE rfl ?_ | fail))
      · rw [List.length_append]; rfl
      · have e := decode_tail s pos hlt
        rw [List.map_append]
        congr 1
        have h' : (Utf8.decode s pos).1 = 65533 := by omega
        simp [cSpot, spotAt, e, h']
        omega
    · (refine w_ren [(1, 4), (0, 0)] rfl (by rw [hp]; intro j hj; cases hj) rfl ?_ ?_ <;> repeat' (first | exact .nil | exact .f _ rfl | exact .s _ _ _ _ _ _ rfl | exact .p _ _ _ rfl | exact .rows _ _ _ | exact .iter _ _ | exact RenL.nil _ | refine RenL.cons ?_ ?_ | refine .cells _ _ _ ?_ | refine .cons _ _ _ _ rfl ?_ ?_ | refine .cons _ _ _ _ _ rfl rfl ?_ ?_ | refine .rowsE ?_ | refine .sE rfl ?_ | exact .m _ _ rfl | refine .fE rfl ?_ | fail))
      · rw [List.length_append]; rfl
      · rw [List.map_append]
        congr 1
        have h' : (Utf8.decode s pos).1 ≠ 65533 := by omega
        simp [cSpot, spotAt, decode_len s pos h', h']
  · repeat' (first | refine ts_seq (fun K hK hW => ?_) | refine ts_reg ?_ | refine tr_nil ?_ | refine tr_ev rfl ?_ | refine use_K (by assumption) ?_ | refine tr_guard_u rfl ?_ | refine tr_guard_y rfl rfl ?_ | refine tr_guard_n rfl rfl ?_ | refine tr_alloc rfl ?_ | refine tr_store rfl rfl rfl rfl rfl rfl rfl ?_ | refine ts_cond_t rfl rfl ?_ | refine ts_cond_f rfl rfl ?_ | refine ts_nop ?_ | refine ts_block ?_ | refine ts_exit ?_ | refine ts_ret ?_ | refine th_exit ?_ | refine th_ret ?_ | refine bl_normal ?_ | refine bl_ret ?_ | refine bl_hit ?_ | refine bl_miss rfl ?_ | refine tret_of (.inr rfl) rfl ?_ | refine tr_next_end rfl rfl rfl hlt ?_ | fail)
    rw [spots_stop _ _ _ _ hlt, List.append_nil] at he
    rw [← he]
    exact .s _ _ _ _ _ _ rfl (by rw [List.length_map])
end
end Go.Proofs.YtmfkngldfphhmaaDoor
