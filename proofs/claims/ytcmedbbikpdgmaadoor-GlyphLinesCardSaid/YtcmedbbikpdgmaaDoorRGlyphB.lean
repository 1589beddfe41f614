/-
  Walks of functions of the program, and what the laws need of them.
-/
import Derived.Test.YtcmedbbikpdgmaaDoorRGlyphA
set_option linter.all false
set_option linter.unusedSimpArgs false
set_option linter.unusedVariables false
set_option linter.unnecessarySimpa false
namespace Go.Proofs.YtcmedbbikpdgmaaDoor
open Go Go.Proofs.YtcmedbbikpdgmaaDoor.V Go.Proofs
section
attribute [local irreducible] TwS TwR thenT inBlockT retT
variable {G : World → Prop}

/-- Where a rune behind all would stand. -/
def endOf (s : ByteArray) : Nat → Nat → Int × Int → Int × Int
  | 0, _, lc => lc
  | n + 1, pos, lc => if pos < s.size then endOf s n (pos + (Utf8.decode s pos).2) (stepN lc (Utf8.decode s pos).1) else lc

def blank (r : Int) : Bool := decide (r = 32 ∨ r = 9)
theorem blank_spec (r : Int) : Pure prog G n_glyph_Blank [.v (.int .i32 r)] (.v (.bool (blank r))) := by
  refine Pure.of mixedOk (fn := f_glyph_Blank) rfl (by kernel_rfl) ok_glyph_Blank rfl fun C hP hG hp => ?_
  simp only [fs_glyph_Blank, targEnv, Nat.zero_add, Nat.reduceAdd]
  repeat' (first | refine ts_seq (fun K hK hW => ?_) | refine ts_reg ?_ | refine tr_nil ?_ | refine tr_ev rfl ?_ | refine use_K (by assumption) ?_ | refine tr_guard_u rfl ?_ | refine tr_guard_y rfl rfl ?_ | refine tr_guard_n rfl rfl ?_ | refine tr_alloc rfl ?_ | refine tr_store rfl rfl rfl rfl rfl rfl rfl ?_ | refine ts_cond_t rfl rfl ?_ | refine ts_cond_f rfl rfl ?_ | refine ts_nop ?_ | refine ts_block ?_ | refine ts_exit ?_ | refine ts_ret ?_ | refine th_exit ?_ | refine th_ret ?_ | refine bl_normal ?_ | refine bl_ret ?_ | refine bl_hit ?_ | refine bl_miss rfl ?_ | refine tret_of (.inr rfl) rfl ?_ | (refine tg_split rfl (fun h => ?_) (fun h => ?_) <;> try simp only [decide_eq_true_eq, decide_eq_false_iff_not, Bool.not_eq_true', Bool.not_eq_false', Bool.not_true, Bool.not_false, Bool.not_not, beq_iff_eq, Bool.not_eq_true, Bool.not_eq_false] at h) | (refine ts_cond rfl (fun h => ?_) (fun h => ?_) <;> try simp only [decide_eq_true_eq, decide_eq_false_iff_not, Bool.not_eq_true', Bool.not_eq_false', Bool.not_true, Bool.not_false, Bool.not_not, beq_iff_eq, Bool.not_eq_true, Bool.not_eq_false] at h))
  all_goals exact .vb (by rw [Bool.eq_iff_iff]; simp only [blank, decide_eq_true_eq, Bool.and_eq_true, Bool.or_eq_true, Bool.not_eq_true', decide_eq_false_iff_not, Bool.false_eq_true, true_iff, iff_true, false_iff, iff_false]; omega)
theorem blank_spec2 (r : Int) : Pure prog G n_ref1_Blank [.v (.int .i32 r)] (.v (.bool (blank r))) := by
  refine Pure.of mixedOk (fn := f_ref1_Blank) rfl (by kernel_rfl) ok_ref1_Blank rfl fun C hP hG hp => ?_
  simp only [fs_ref1_Blank, targEnv, Nat.zero_add, Nat.reduceAdd]
  repeat' (first | refine ts_seq (fun K hK hW => ?_) | refine ts_reg ?_ | refine tr_nil ?_ | refine tr_ev rfl ?_ | refine use_K (by assumption) ?_ | refine tr_guard_u rfl ?_ | refine tr_guard_y rfl rfl ?_ | refine tr_guard_n rfl rfl ?_ | refine tr_alloc rfl ?_ | refine tr_store rfl rfl rfl rfl rfl rfl rfl ?_ | refine ts_cond_t rfl rfl ?_ | refine ts_cond_f rfl rfl ?_ | refine ts_nop ?_ | refine ts_block ?_ | refine ts_exit ?_ | refine ts_ret ?_ | refine th_exit ?_ | refine th_ret ?_ | refine bl_normal ?_ | refine bl_ret ?_ | refine bl_hit ?_ | refine bl_miss rfl ?_ | refine tret_of (.inr rfl) rfl ?_ | (refine tg_split rfl (fun h => ?_) (fun h => ?_) <;> try simp only [decide_eq_true_eq, decide_eq_false_iff_not, Bool.not_eq_true', Bool.not_eq_false', Bool.not_true, Bool.not_false, Bool.not_not, beq_iff_eq, Bool.not_eq_true, Bool.not_eq_false] at h) | (refine ts_cond rfl (fun h => ?_) (fun h => ?_) <;> try simp only [decide_eq_true_eq, decide_eq_false_iff_not, Bool.not_eq_true', Bool.not_eq_false', Bool.not_true, Bool.not_false, Bool.not_not, beq_iff_eq, Bool.not_eq_true, Bool.not_eq_false] at h))
  all_goals exact .vb (by rw [Bool.eq_iff_iff]; simp only [blank, decide_eq_true_eq, Bool.and_eq_true, Bool.or_eq_true, Bool.not_eq_true', decide_eq_false_iff_not, Bool.false_eq_true, true_iff, iff_true, false_iff, iff_false]; omega)
theorem end_stop (s : ByteArray) : ∀ (n pos : Nat) (lc : Int × Int), ¬ pos < s.size → endOf s n pos lc = lc
  | 0, _, _, _ => rfl
  | n + 1, pos, lc, h => by simp [endOf, h]
theorem end_more (s : ByteArray) : ∀ (n m pos : Nat) (lc : Int × Int), s.size - pos ≤ n → s.size - pos ≤ m → endOf s n pos lc = endOf s m pos lc
  | 0, m, pos, lc, h, _ => by rw [end_stop s m pos lc (by omega)]; rfl
  | n + 1, 0, pos, lc, _, h => by rw [end_stop s (n + 1) pos lc (by omega)]; rfl
  | n + 1, m + 1, pos, lc, h1, h2 => by
    have := decode_pos s pos
    simp only [endOf]
    split
    · exact end_more s n m _ _ (by omega) (by omega)
    · rfl
def endS (s : ByteArray) : Int × Int := endOf s s.size 0 (1, 1)

theorem end_spec (s : ByteArray) (hs : s.size ≤ 1000000000000) : Pure prog G n_glyph_End [.v (.string s)] (.tup [.v (.int .i64 (endS s).1), .v (.int .i64 (endS s).2)]) := by
  refine Pure.of mixedOk (fn := f_glyph_End) rfl (by kernel_rfl) ok_glyph_End rfl fun C hP hG hp => ?_
  simp only [fs_glyph_End, targEnv, Nat.zero_add, Nat.reduceAdd]
  repeat' (first | refine ts_seq (fun K hK hW => ?_) | refine ts_reg ?_ | refine tr_nil ?_ | refine tr_ev rfl ?_ | refine use_K (by assumption) ?_ | refine tr_guard_u rfl ?_ | refine tr_guard_y rfl rfl ?_ | refine tr_guard_n rfl rfl ?_ | refine tr_alloc rfl ?_ | refine tr_store rfl rfl rfl rfl rfl rfl rfl ?_ | refine ts_cond_t rfl rfl ?_ | refine ts_cond_f rfl rfl ?_ | refine ts_nop ?_ | refine ts_block ?_ | refine ts_exit ?_ | refine ts_ret ?_ | refine th_exit ?_ | refine th_ret ?_ | refine bl_normal ?_ | refine bl_ret ?_ | refine bl_hit ?_ | refine bl_miss rfl ?_ | refine tret_of (.inr rfl) rfl ?_)
  refine ts_loop (fun m env σ => ∃ (pos : Nat) (lc : Int × Int), m = s.size - pos ∧ env = [(0, .v (.string s)), (4, .v (.int .i64 lc.1)), (5, .v (.int .i64 lc.2)), (9, .p 0 0)] ∧ σ = ⟨[(0, .iter s pos)], 1⟩ ∧ endOf s m pos lc = endS s ∧ 0 ≤ lc.1 ∧ lc.1 ≤ pos + 1 ∧ 0 ≤ lc.2 ∧ lc.2 ≤ pos + 1 ∧ pos < 1000000000005)
    s.size (w_sub [0, 4, 5, 9] rfl) ⟨0, (1, 1), rfl, rfl, rfl, rfl, by omega, by omega, by omega, by omega, by omega⟩ ?_
  rintro m env σ ⟨pos, lc, rfl, rfl, rfl, he, h1, h2, h3, h4, h5⟩
  by_cases hlt : pos < s.size
  · have hd := decode_pos s pos
    repeat' (first | refine ts_seq (fun K hK hW => ?_) | refine ts_reg ?_ | refine tr_nil ?_ | refine tr_ev rfl ?_ | refine use_K (by assumption) ?_ | refine tr_guard_u rfl ?_ | refine tr_guard_y rfl rfl ?_ | refine tr_guard_n rfl rfl ?_ | refine tr_alloc rfl ?_ | refine tr_store rfl rfl rfl rfl rfl rfl rfl ?_ | refine ts_cond_t rfl rfl ?_ | refine ts_cond_f rfl rfl ?_ | refine ts_nop ?_ | refine ts_block ?_ | refine ts_exit ?_ | refine ts_ret ?_ | refine th_exit ?_ | refine th_ret ?_ | refine bl_normal ?_ | refine bl_ret ?_ | refine bl_hit ?_ | refine bl_miss rfl ?_ | refine tret_of (.inr rfl) rfl ?_ | refine tr_next rfl rfl rfl hlt ?_ | refine tr_call rfl (by rw [hP]; exact step_spec _ _ (by omega) (by omega)) (.inl rfl) ?_)
    refine loop_again (m' := s.size - (pos + (Utf8.decode s pos).2)) (by omega) (w_sub [0, 4, 5, 9] rfl) ⟨pos + (Utf8.decode s pos).2, stepN lc (Utf8.decode s pos).1, rfl, rfl, rfl, ?_, ?_⟩
    · rw [← he, show s.size - pos = (s.size - pos - 1) + 1 by omega, endOf, if_pos hlt]
      exact end_more _ _ _ _ _ (by omega) (by omega)
    · simp only [stepN]
      split <;> simp only <;> omega
  · repeat' (first | refine ts_seq (fun K hK hW => ?_) | refine ts_reg ?_ | refine tr_nil ?_ | refine tr_ev rfl ?_ | refine use_K (by assumption) ?_ | refine tr_guard_u rfl ?_ | refine tr_guard_y rfl rfl ?_ | refine tr_guard_n rfl rfl ?_ | refine tr_alloc rfl ?_ | refine tr_store rfl rfl rfl rfl rfl rfl rfl ?_ | refine ts_cond_t rfl rfl ?_ | refine ts_cond_f rfl rfl ?_ | refine ts_nop ?_ | refine ts_block ?_ | refine ts_exit ?_ | refine ts_ret ?_ | refine th_exit ?_ | refine th_ret ?_ | refine bl_normal ?_ | refine bl_ret ?_ | refine bl_hit ?_ | refine bl_miss rfl ?_ | refine tret_of (.inr rfl) rfl ?_ | refine tr_next_end rfl rfl rfl hlt ?_)
    rw [end_stop _ _ _ _ hlt] at he
    rw [← he]
    exact .fr rfl
end
end Go.Proofs.YtcmedbbikpdgmaaDoor
