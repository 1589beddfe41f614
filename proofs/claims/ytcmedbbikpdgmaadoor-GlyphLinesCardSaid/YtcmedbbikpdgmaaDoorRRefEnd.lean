/-
  Walks of functions of the program, and what the laws need of them.
-/
import Derived.Test.YtcmedbbikpdgmaaDoorRRefSpots
import Derived.Test.YtcmedbbikpdgmaaDoorRGlyphB
set_option linter.all false
set_option linter.unusedSimpArgs false
set_option linter.unusedVariables false
set_option linter.unnecessarySimpa false
namespace Go.Proofs.YtcmedbbikpdgmaaDoor
open Go Go.Proofs.YtcmedbbikpdgmaaDoor.V Go.Proofs
section
attribute [local irreducible] TwS TwR thenT inBlockT retT
variable {G : World → Prop}

/-- The end is behind the last rune. -/
theorem end_last (s : ByteArray) : ∀ (n pos : Nat) (lc : Int × Int), endOf s n pos lc = match (spotsOf s n pos lc).getLast? with | none => lc | some x => stepN (x.line, x.col) x.rune
  | 0, _, _ => rfl
  | n + 1, pos, lc => by
    simp only [endOf, spotsOf]
    split
    · rw [end_last s n _ _]
      cases h : spotsOf s n (pos + (Utf8.decode s pos).2) (stepN lc (Utf8.decode s pos).1) with
      | nil => simp [spotAt]
      | cons y r =>
        obtain ⟨w, hw⟩ : ∃ w, (y :: r).getLast? = some w := ⟨_, List.getLast?_eq_some_getLast (by simp)⟩
        rw [List.getLast?_cons_cons, hw]
    · rfl

theorem spots_rng (s : ByteArray) : ∀ (n pos : Nat) (lc : Int × Int) (x : Spot), 0 ≤ lc.1 → lc.1 ≤ pos + 1 → 0 ≤ lc.2 → lc.2 ≤ pos + 1 → x ∈ spotsOf s n pos lc → 0 ≤ x.line ∧ x.line ≤ s.size + 1 ∧ 0 ≤ x.col ∧ x.col ≤ s.size + 1
  | 0, _, _, _, _, _, _, _, h => by cases h
  | n + 1, pos, lc, x, h1, h2, h3, h4, h => by
    simp only [spotsOf] at h
    split at h
    · rename_i hlt
      have hd := decode_pos s pos
      rcases List.mem_cons.1 h with rfl | h
      · simp only [spotAt]; omega
      · refine spots_rng s n _ _ x ?_ ?_ ?_ ?_ h <;> simp only [stepN] <;> split <;> simp only <;> omega
    · cases h

theorem end_spec2 (s : ByteArray) (hs : s.size ≤ 1000000000000) : Pure prog G n_ref1_End [.v (.string s)] (.tup [.v (.int .i64 (endS s).1), .v (.int .i64 (endS s).2)]) := by
  have hE : endS s = match (spots s).getLast? with | none => ((1, 1) : Int × Int) | some x => stepN (x.line, x.col) x.rune := end_last ..
  have hrng := fun x h => spots_rng s s.size 0 (1, 1) x (by simp) (by simp) (by simp) (by simp) h
  refine Pure.of mixedOk (fn := f_ref1_End) rfl (by kernel_rfl) ok_ref1_End rfl fun C hP hG hp => ?_
  simp only [fs_ref1_End, targEnv, Nat.zero_add, Nat.reduceAdd]
  repeat' (first | refine ts_seq (fun K hK hW => ?_) | refine ts_reg ?_ | refine tr_nil ?_ | refine tr_ev rfl ?_ | refine use_K (by assumption) ?_ | refine tr_guard_u rfl ?_ | refine tr_guard_y rfl rfl ?_ | refine tr_guard_n rfl rfl ?_ | refine tr_alloc rfl ?_ | refine tr_store rfl rfl rfl rfl rfl rfl rfl ?_ | refine ts_cond_t rfl rfl ?_ | refine ts_cond_f rfl rfl ?_ | refine ts_nop ?_ | refine ts_block ?_ | refine ts_exit ?_ | refine ts_ret ?_ | refine th_exit ?_ | refine th_ret ?_ | refine bl_normal ?_ | refine bl_ret ?_ | refine bl_hit ?_ | refine bl_miss rfl ?_ | refine tret_of (.inr rfl) rfl ?_ | refine tr_call rfl (by rw [hP]; exact spots_spec2 s hs) (.inl rfl) ?_ | (refine ts_cond rfl (fun h => ?_) fun h => ?_) | (refine tg_split rfl (fun h => ?_) (fun h => ?_) <;> try simp only [decide_eq_true_eq, decide_eq_false_iff_not, Bool.not_eq_true', Bool.not_eq_false', Bool.not_true, Bool.not_false, Bool.not_not, beq_iff_eq, Bool.not_eq_true, Bool.not_eq_false] at h) | (refine ts_cond rfl (fun h => ?_) (fun h => ?_) <;> try simp only [decide_eq_true_eq, decide_eq_false_iff_not, Bool.not_eq_true', Bool.not_eq_false', Bool.not_true, Bool.not_false, Bool.not_not, beq_iff_eq, Bool.not_eq_true, Bool.not_eq_false] at h))
  · simp only [decide_eq_true_eq, decide_eq_false_iff_not, Bool.not_eq_true', Bool.not_eq_false', Bool.not_true, Bool.not_false, Bool.not_not, beq_iff_eq, Bool.not_eq_true, Bool.not_eq_false] at h
    have hn : spots s = [] := by
      have : (List.map cSpot (spots s)).length = 0 := by omega
      rw [List.length_map] at this
      exact List.length_eq_zero_iff.1 this
    rw [hE, hn]
    exact .fr rfl
  · simp only [decide_eq_true_eq, decide_eq_false_iff_not, Bool.not_eq_true', Bool.not_eq_false', Bool.not_true, Bool.not_false, Bool.not_not, beq_iff_eq, Bool.not_eq_true, Bool.not_eq_false] at h
    rw [List.length_map] at h
    obtain ⟨ys, z, hz⟩ : ∃ ys z, spots s = ys ++ [z] := by
      rcases List.eq_nil_or_concat (spots s) with h' | ⟨ys, z, h'⟩
      · rw [h'] at h; simp at h
      · exact ⟨ys, z, by rw [h', List.concat_eq_append]⟩
    have hg : (spots s)[ys.length]? = some z := by rw [hz]; simp
    have hl : (spots s).length = ys.length + 1 := by rw [hz]; simp
    have hb : (spots s).length ≤ s.size := spots_len ..
    have hr := hrng z (List.mem_of_getElem? hg)
    rw [hz, List.getLast?_append] at hE
    simp only [List.getLast?_singleton, Option.some_or] at hE
    repeat' (first | refine ts_seq (fun K hK hW => ?_) | refine ts_reg ?_ | refine tr_nil ?_ | refine tr_ev rfl ?_ | refine use_K (by assumption) ?_ | refine tr_guard_u rfl ?_ | refine tr_guard_y rfl rfl ?_ | refine tr_guard_n rfl rfl ?_ | refine tr_alloc rfl ?_ | refine tr_store rfl rfl rfl rfl rfl rfl rfl ?_ | refine ts_cond_t rfl rfl ?_ | refine ts_cond_f rfl rfl ?_ | refine ts_nop ?_ | refine ts_block ?_ | refine ts_exit ?_ | refine ts_ret ?_ | refine th_exit ?_ | refine th_ret ?_ | refine bl_normal ?_ | refine bl_ret ?_ | refine bl_hit ?_ | refine bl_miss rfl ?_ | refine tret_of (.inr rfl) rfl ?_ | refine tr_light (tl_ixm (m := ys.length) rfl rfl (by rw [List.length_map, hl, w64 (by omega)]; omega) hg) ?_ | (refine tg_split rfl (fun h => ?_) (fun h => ?_) <;> try simp only [decide_eq_true_eq, decide_eq_false_iff_not, Bool.not_eq_true', Bool.not_eq_false', Bool.not_true, Bool.not_false, Bool.not_not, beq_iff_eq, Bool.not_eq_true, Bool.not_eq_false] at h) | (refine ts_cond rfl (fun h => ?_) (fun h => ?_) <;> try simp only [decide_eq_true_eq, decide_eq_false_iff_not, Bool.not_eq_true', Bool.not_eq_false', Bool.not_true, Bool.not_false, Bool.not_not, beq_iff_eq, Bool.not_eq_true, Bool.not_eq_false] at h))
    · rw [hE, stepN_yes _ _ (by assumption), w64 (by omega)]
      exact .fr rfl
    · rw [hE, stepN_no _ _ (by assumption), w64 (by omega)]
      exact .fr rfl
end
end Go.Proofs.YtcmedbbikpdgmaaDoor
