/-
  Walks of functions of the program, and what the laws need of them.
-/
import Derived.Test.YtmfkngldfphhmaaDoorRNamesG
import Derived.Test.YtmfkngldfphhmaaDoorRGlyphD
set_option linter.all false
set_option linter.unusedSimpArgs false
set_option linter.unusedVariables false
set_option linter.unnecessarySimpa false
namespace Go.Proofs.YtmfkngldfphhmaaDoor
open Go Go.Proofs.YtmfkngldfphhmaaDoor.V Go.Proofs

theorem okAll_app : ∀ (l m : List Spot) (j : Nat), okAll j (l ++ m) = (okAll j l && okAll (j + l.length) m)
  | [], m, j => by simp [okAll]
  | x :: l, m, j => by
    rw [List.cons_append, okAll, okAll, okAll_app l m (j + 1), Bool.and_assoc, List.length_cons, show j + (l.length + 1) = j + 1 + l.length by omega]
theorem right_parts {s : ByteArray} (h : rightB s = true) : okAll 0 (spots s) = true ∧ 1 ≤ (spots s).length ∧ (spots s).length ≤ 16 ∧ wordB s = false := by
  simp only [rightB, Bool.and_eq_true, decide_eq_true_eq, Bool.not_eq_true'] at h
  exact ⟨h.1.1, h.1.2.1, h.1.2.2, h.2⟩
theorem right_one {s u : ByteArray} {x : Spot} (h : rightB s = true) (e : spots (s ++ u) = spots s ++ [x]) : rightB (s ++ u) = (okAt (spots s).length x && (decide (((spots s).length : Int) < 16) && !wordB (s ++ u))) := by
  obtain ⟨h1, h2, h3, _⟩ := right_parts h
  rw [rightB, e, okAll_app, h1, Bool.true_and, Nat.zero_add, okAll, okAll, Bool.and_true, List.length_append, List.length_singleton, Bool.and_assoc]
  congr 2
  exact decide_eq_decide.2 (by omega)
def onesM : List ByteArray := [bs [48], bs [122], bs [95], bs [195, 169]]
theorem ones_ok : (onesM.all fun u => decide (u.size ≤ 4) && decide (0 < u.size) && !decide ((u.get! 0).toNat / 64 = 2) && decide ((Utf8.decode u 0).2 = u.size) && !decide ((Utf8.decode u 0).1 = 65533 ∧ (Utf8.decode u 0).2 = 1) && (letter ((Utf8.decode u 0).1 : Int) || digit ((Utf8.decode u 0).1 : Int))) = true := by kernel_rfl
theorem no_ok : ([bs [45], bs [32], bs [255]].all fun u => decide (0 < u.size) && !decide ((u.get! 0).toNat / 64 = 2) && decide ((Utf8.decode u 0).2 = u.size) && (decide ((Utf8.decode u 0).1 = 65533 ∧ (Utf8.decode u 0).2 = 1) || (!letter ((Utf8.decode u 0).1 : Int) && !digit ((Utf8.decode u 0).1 : Int)))) = true := by kernel_rfl

theorem grow_yes {s u : ByteArray} (h : rightB s = true) (hu : u ∈ onesM) : rightB (s ++ u) = (decide (((spots s).length : Int) < 16) && !wordB (s ++ u)) := by
  have := List.all_eq_true.1 ones_ok u hu
  simp only [Bool.and_eq_true, decide_eq_true_eq, Bool.not_eq_true', decide_eq_false_iff_not, Bool.or_eq_true] at this
  obtain ⟨⟨⟨⟨⟨_, k1⟩, k2⟩, k3⟩, k4⟩, k5⟩ := this
  obtain ⟨x, e1, e2, e3⟩ := spots_one s u k1 k2 k3
  obtain ⟨_, h2, _, _⟩ := right_parts h
  rw [right_one h e1, show okAt (spots s).length x = true by
    rw [okAt_iff, e2, e3]
    exact ⟨decide_eq_false k4, k5.imp id fun k => ⟨by omega, k⟩⟩, Bool.true_and]
theorem grow_no {s u : ByteArray} (h : rightB s = true) (hu : u ∈ [bs [45], bs [32], bs [255]]) : rightB (s ++ u) = false := by
  have := List.all_eq_true.1 no_ok u hu
  simp only [Bool.and_eq_true, decide_eq_true_eq, Bool.not_eq_true', decide_eq_false_iff_not, Bool.or_eq_true] at this
  obtain ⟨⟨⟨k1, k2⟩, k3⟩, k4⟩ := this
  obtain ⟨x, e1, e2, e3⟩ := spots_one s u k1 k2 k3
  rw [right_one h e1]
  have : okAt (spots s).length x = false := by
    rw [← Bool.not_eq_true, okAt_iff, e2, e3]
    rintro ⟨g1, g2⟩
    rcases k4 with k4 | ⟨k4, k5⟩
    · exact absurd k4 (of_decide_eq_false g1)
    · rcases g2 with g2 | ⟨_, g2⟩
      · rw [k4] at g2; cases g2
      · rw [k5] at g2; cases g2
  rw [this]; rfl
theorem grow_front (s : ByteArray) : rightB (bs [49] ++ s) = false := by
  have hz : (bs [49] ++ s).size = 1 + s.size := by rw [ByteArray.size_append]; rfl
  obtain ⟨l, e⟩ := spots_first (bs [49] ++ s) (by omega)
  have g : (bs [49] ++ s).get! 0 = 49 := by rw [gget_app, if_pos (by decide)]; rfl
  have d : Utf8.decode (bs [49] ++ s) 0 = (49, 1) := by
    unfold Utf8.decode
    simp only [Nat.add_zero, g]
    rfl
  have : okAt 0 (spotAt (bs [49] ++ s) 0 (1, 1)) = false := by
    simp only [okAt, spotAt, d]
    decide
  rw [rightB, e, okAll, this]; rfl

theorem runes_len (s : ByteArray) : ∀ (n pos : Nat) (lc lc' : Int × Int), (spotsOf s n pos lc).length = (spotsOf s n pos lc').length
  | 0, _, _, _ => rfl
  | n + 1, pos, lc, lc' => by
    simp only [spotsOf]
    split
    · rw [List.length_cons, List.length_cons, runes_len s n]
    · rfl

section
attribute [local irreducible] TwS TwR thenT inBlockT retT idx idxI opOf spots letter digit wordB okAt okAll rightB regT opT short rep spotsOf

theorem namesGrow (s : ByteArray) (b : Int) : Pure prog Tabs n_law_NamesGrow [tS s, tI b] (tB true) := by
  have s1 := fun G => short_spec (G := G) s 80
  have hx := short_size s 80
  generalize short s 80 = x at s1 hx
  obtain ⟨q, hq, hq4⟩ := mod_nat b 4 (by decide)
  have p2 := fun G => pick_spec (G := G) b 3 (by decide)
  simp only [Nat.reduceAdd, hq] at p2
  have hg : onesM[q]? = some onesM[q] := List.getElem?_eq_getElem hq4
  have hm : onesM[q] ∈ onesM := List.getElem_mem _
  generalize onesM[q] = u at hg hm
  have hus : u.size ≤ 4 := by
    have := List.all_eq_true.1 ones_ok u hm
    simp only [Bool.and_eq_true, decide_eq_true_eq] at this
    exact this.1.1.1.1.1
  have hrow : ([[tS (bs [48])], [tS (bs [122])], [tS (bs [95])], [tS (bs [195, 169])]] : List (List TV))[q]? = some [tS u] := by
    have : ([[tS (bs [48])], [tS (bs [122])], [tS (bs [95])], [tS (bs [195, 169])]] : List (List TV)) = onesM.map fun s => [tS s] := rfl
    rw [this, List.getElem?_map, hg]; rfl
  have z : ∀ w : ByteArray, (x ++ w).size = x.size + w.size := fun w => ByteArray.size_append
  have c0 := right_spec x (by omega)
  have z49 : (bs [49]).size = 1 := rfl
  have z45 : (bs [45]).size = 1 := rfl
  have z32 : (bs [32]).size = 1 := rfl
  have z255 : (bs [255]).size = 1 := rfl
  refine Pure.of mixedOk (fn := f_law_NamesGrow) rfl (by kernel_rfl) ok_law_NamesGrow rfl fun C hP hG hp => ?_
  simp only [fs_law_NamesGrow, targEnv, Nat.zero_add, Nat.reduceAdd]
  cases hr : rightB x with
  | false =>
    rw [hr] at c0
    repeat' (first | refine ts_seq (fun K hK hW => ?_) | refine ts_reg ?_ | refine tr_nil ?_ | refine tr_ev rfl ?_ | refine use_K (by assumption) ?_ | refine tr_guard_u rfl ?_ | refine tr_guard_y rfl rfl ?_ | refine tr_guard_n rfl rfl ?_ | refine tr_alloc rfl ?_ | refine tr_store rfl rfl rfl rfl rfl rfl rfl ?_ | refine ts_cond_t rfl rfl ?_ | refine ts_cond_f rfl rfl ?_ | refine ts_nop ?_ | refine ts_block ?_ | refine ts_exit ?_ | refine ts_ret ?_ | refine th_exit ?_ | refine th_ret ?_ | refine bl_normal ?_ | refine bl_ret ?_ | refine bl_hit ?_ | refine bl_miss rfl ?_ | refine tret_of (.inr rfl) rfl ?_ | refine tr_call rfl (by rw [hP]; exact s1 _) (.inl rfl) ?_ | refine tr_call rfl (by rw [hP, hG]; exact c0) (.inl rfl) ?_ | refine tr_call rfl (by rw [hP, hG]; exact alive_spec) (.inl rfl) ?_ | fail)
    exact .fr rfl
  | true =>
    obtain ⟨_, hn1, hn2, hwd⟩ := right_parts hr
    have c1 := right_spec (x ++ u) (by rw [z]; omega)
    have c2 := right_spec (bs [49] ++ x) (by rw [ByteArray.size_append]; have : (bs [49]).size = 1 := rfl; omega)
    have c3 := right_spec (x ++ bs [45]) (by rw [z]; have : (bs [45]).size = 1 := rfl; omega)
    have c4 := right_spec (x ++ bs [32]) (by rw [z]; have : (bs [32]).size = 1 := rfl; omega)
    have c5 := right_spec (x ++ bs [255]) (by rw [z]; have : (bs [255]).size = 1 := rfl; omega)
    have c6 := fun G => word_spec (G := G) x
    have c7 := fun G => word_spec2 (G := G) (x ++ u)
    rw [hr] at c0
    rw [grow_yes hr hm] at c1
    rw [grow_front] at c2
    rw [grow_no hr (by simp)] at c3
    rw [grow_no hr (by simp)] at c4
    rw [grow_no hr (by simp)] at c5
    simp only [hwd] at c6
    have hsp : spots x = spotsOf x x.size 0 (1, 1) := by unfold spots; rfl
    repeat' (first | refine ts_seq (fun K hK hW => ?_) | refine ts_reg ?_ | refine tr_nil ?_ | refine tr_ev rfl ?_ | refine use_K (by assumption) ?_ | refine tr_guard_u rfl ?_ | refine tr_guard_y rfl rfl ?_ | refine tr_guard_n rfl rfl ?_ | refine tr_alloc rfl ?_ | refine tr_store rfl rfl rfl rfl rfl rfl rfl ?_ | refine ts_cond_t rfl rfl ?_ | refine ts_cond_f rfl rfl ?_ | refine ts_nop ?_ | refine ts_block ?_ | refine ts_exit ?_ | refine ts_ret ?_ | refine th_exit ?_ | refine th_ret ?_ | refine bl_normal ?_ | refine bl_ret ?_ | refine bl_hit ?_ | refine bl_miss rfl ?_ | refine tret_of (.inr rfl) rfl ?_ | refine tr_call rfl (by rw [hP]; exact s1 _) (.inl rfl) ?_ | refine tr_call rfl (by rw [hP, hG]; exact c0) (.inl rfl) ?_ | refine tr_call rfl (by rw [hP]; exact p2 _) (.inl rfl) ?_ | refine tr_light (tl_ixo (m := q) rfl rfl rfl hq4) ?_ | refine tr_light (tl_ldE rfl rfl hrow rfl) ?_ | fail)
    refine ts_loop (fun m env σ => ∃ (pos i : Nat), m = x.size - pos ∧ env = [(0, tS x), (5, tS u), (6, tI i), (20, .p 0 0)] ∧ σ = ⟨[(0, .iter x pos)], 1⟩ ∧ i + (spotsOf x m pos (1, 1)).length = (spots x).length) x.size ?_ ⟨0, 0, rfl, rfl, rfl, by rw [hsp]; simp⟩ ?_
    · (refine w_ren [(0, 1)] rfl (by rw [hp]; intro j hj; cases hj) rfl ?_ ?_ <;> repeat' (first | exact .nil | exact .f _ rfl | exact .s _ _ _ _ _ _ rfl | exact .p _ _ _ rfl | exact .rows _ _ _ | exact .iter _ _ | exact RenL.nil _ | refine RenL.cons ?_ ?_ | refine .cells _ _ _ ?_ | refine .cons _ _ _ _ rfl ?_ ?_ | refine .cons _ _ _ _ _ rfl rfl ?_ ?_ | refine .rowsE ?_ | refine .sE rfl ?_ | exact .m _ _ rfl | refine .fE rfl ?_ | fail))
    rintro m env σ ⟨pos, i, rfl, rfl, rfl, hi⟩
    by_cases hlt : pos < x.size
    · have hd := decode_pos x pos
      repeat' (first | refine ts_seq (fun K hK hW => ?_) | refine ts_reg ?_ | refine tr_nil ?_ | refine tr_ev rfl ?_ | refine use_K (by assumption) ?_ | refine tr_guard_u rfl ?_ | refine tr_guard_y rfl rfl ?_ | refine tr_guard_n rfl rfl ?_ | refine tr_alloc rfl ?_ | refine tr_store rfl rfl rfl rfl rfl rfl rfl ?_ | refine ts_cond_t rfl rfl ?_ | refine ts_cond_f rfl rfl ?_ | refine ts_nop ?_ | refine ts_block ?_ | refine ts_exit ?_ | refine ts_ret ?_ | refine th_exit ?_ | refine th_ret ?_ | refine bl_normal ?_ | refine bl_ret ?_ | refine bl_hit ?_ | refine bl_miss rfl ?_ | refine tret_of (.inr rfl) rfl ?_ | refine tr_next rfl rfl rfl hlt ?_ | fail)
      refine loop_again (m' := x.size - (pos + (Utf8.decode x pos).2)) (by omega) ?_ ⟨pos + (Utf8.decode x pos).2, i + 1, rfl, rfl, rfl, ?_⟩
      · (refine w_ren [(0, 0)] rfl (by rw [hp]; intro j hj; cases hj) rfl ?_ ?_ <;> repeat' (first | exact .nil | exact .f _ rfl | exact .s _ _ _ _ _ _ rfl | exact .p _ _ _ rfl | exact .rows _ _ _ | exact .iter _ _ | exact RenL.nil _ | refine RenL.cons ?_ ?_ | refine .cells _ _ _ ?_ | refine .cons _ _ _ _ rfl ?_ ?_ | refine .cons _ _ _ _ _ rfl rfl ?_ ?_ | refine .rowsE ?_ | refine .sE rfl ?_ | exact .m _ _ rfl | refine .fE rfl ?_ | fail))
        all_goals (rw [w64 (by omega)]; rfl)
      · rw [← hi, show x.size - pos = (x.size - pos - 1) + 1 by omega]
        have e : spotsOf x (x.size - pos - 1 + 1) pos (1, 1) = spotAt x pos (1, 1) :: spotsOf x (x.size - pos - 1) (pos + (Utf8.decode x pos).2) (stepN (1, 1) (Utf8.decode x pos).1) := by
          rw [spotsOf.eq_def]; simp only [if_pos hlt]
        rw [e, List.length_cons, runes_len x _ _ (stepN (1, 1) (Utf8.decode x pos).1) (1, 1), spots_more x (x.size - pos - 1) (x.size - (pos + (Utf8.decode x pos).2)) _ _ (by omega) (by omega)]
        omega
    · rw [spots_stop x _ _ _ hlt] at hi
      have hi' : i = (spots x).length := by simpa using hi
      subst hi'
      cases hwu : wordB (x ++ u) with
      | true =>
        simp only [hwu] at c7
        rw [hwu] at c1
        simp only [Bool.not_true, Bool.and_false] at c1
        repeat' (first | refine ts_seq (fun K hK hW => ?_) | refine ts_reg ?_ | refine tr_nil ?_ | refine tr_ev rfl ?_ | refine use_K (by assumption) ?_ | refine tr_guard_u rfl ?_ | refine tr_guard_y rfl rfl ?_ | refine tr_guard_n rfl rfl ?_ | refine tr_alloc rfl ?_ | refine tr_store rfl rfl rfl rfl rfl rfl rfl ?_ | refine ts_cond_t rfl rfl ?_ | refine ts_cond_f rfl rfl ?_ | refine ts_nop ?_ | refine ts_block ?_ | refine ts_exit ?_ | refine ts_ret ?_ | refine th_exit ?_ | refine th_ret ?_ | refine bl_normal ?_ | refine bl_ret ?_ | refine bl_hit ?_ | refine bl_miss rfl ?_ | refine tret_of (.inr rfl) rfl ?_ | refine tr_next_end rfl rfl rfl hlt ?_ | refine tr_light (tl_sadd rfl rfl (by omega)) ?_ | refine tr_call rfl (by rw [hP, hG]; exact c1) (.inl rfl) ?_ | refine tr_call rfl (by rw [hP, hG]; exact c2) (.inl rfl) ?_ | refine tr_call rfl (by rw [hP, hG]; exact c3) (.inl rfl) ?_ | refine tr_call rfl (by rw [hP, hG]; exact c4) (.inl rfl) ?_ | refine tr_call rfl (by rw [hP, hG]; exact c5) (.inl rfl) ?_ | refine tr_call rfl (by rw [hP]; exact c6 _) (.inl rfl) ?_ | refine tr_call rfl (by rw [hP]; exact c7 _) (.inl rfl) ?_ | refine tr_light (tl_eqb (by rw [hP]; exact ut_bool) rfl rfl) ?_ | refine tr_call rfl (by rw [hP, hG]; exact alive_spec) (.inl rfl) ?_ | (refine tg_split rfl (fun h => ?_) (fun h => ?_) <;> (try simp only [decide_eq_true_eq, decide_eq_false_iff_not, Bool.not_eq_true', Bool.not_eq_false', Bool.not_true, Bool.not_false, Bool.not_not, beq_iff_eq, Bool.not_eq_true, Bool.not_eq_false] at h) <;> try (exfalso; (first | (simp at h; done) | omega); done)) | (refine ts_cond rfl (fun h => ?_) (fun h => ?_) <;> (try simp only [decide_eq_true_eq, decide_eq_false_iff_not, Bool.not_eq_true', Bool.not_eq_false', Bool.not_true, Bool.not_false, Bool.not_not, beq_iff_eq, Bool.not_eq_true, Bool.not_eq_false] at h) <;> try (exfalso; (first | (simp at h; done) | omega); done)) | fail)
        all_goals exact .fr rfl
      | false =>
        simp only [hwu] at c7
        rw [hwu] at c1
        simp only [Bool.not_false, Bool.and_true] at c1
        repeat' (first | refine ts_seq (fun K hK hW => ?_) | refine ts_reg ?_ | refine tr_nil ?_ | refine tr_ev rfl ?_ | refine use_K (by assumption) ?_ | refine tr_guard_u rfl ?_ | refine tr_guard_y rfl rfl ?_ | refine tr_guard_n rfl rfl ?_ | refine tr_alloc rfl ?_ | refine tr_store rfl rfl rfl rfl rfl rfl rfl ?_ | refine ts_cond_t rfl rfl ?_ | refine ts_cond_f rfl rfl ?_ | refine ts_nop ?_ | refine ts_block ?_ | refine ts_exit ?_ | refine ts_ret ?_ | refine th_exit ?_ | refine th_ret ?_ | refine bl_normal ?_ | refine bl_ret ?_ | refine bl_hit ?_ | refine bl_miss rfl ?_ | refine tret_of (.inr rfl) rfl ?_ | refine tr_next_end rfl rfl rfl hlt ?_ | refine tr_light (tl_sadd rfl rfl (by omega)) ?_ | refine tr_call rfl (by rw [hP, hG]; exact c1) (.inl rfl) ?_ | refine tr_call rfl (by rw [hP, hG]; exact c2) (.inl rfl) ?_ | refine tr_call rfl (by rw [hP, hG]; exact c3) (.inl rfl) ?_ | refine tr_call rfl (by rw [hP, hG]; exact c4) (.inl rfl) ?_ | refine tr_call rfl (by rw [hP, hG]; exact c5) (.inl rfl) ?_ | refine tr_call rfl (by rw [hP]; exact c6 _) (.inl rfl) ?_ | refine tr_call rfl (by rw [hP]; exact c7 _) (.inl rfl) ?_ | refine tr_light (tl_eqb (by rw [hP]; exact ut_bool) rfl rfl) ?_ | refine tr_call rfl (by rw [hP, hG]; exact alive_spec) (.inl rfl) ?_ | (refine tg_split rfl (fun h => ?_) (fun h => ?_) <;> (try simp only [decide_eq_true_eq, decide_eq_false_iff_not, Bool.not_eq_true', Bool.not_eq_false', Bool.not_true, Bool.not_false, Bool.not_not, beq_iff_eq, Bool.not_eq_true, Bool.not_eq_false] at h) <;> try (exfalso; (first | (simp at h; done) | omega | (simp at h; omega)); done)) | (refine ts_cond rfl (fun h => ?_) (fun h => ?_) <;> (try simp only [decide_eq_true_eq, decide_eq_false_iff_not, Bool.not_eq_true', Bool.not_eq_false', Bool.not_true, Bool.not_false, Bool.not_not, beq_iff_eq, Bool.not_eq_true, Bool.not_eq_false] at h) <;> try (exfalso; (first | (simp at h; done) | omega | (simp at h; omega)); done)) | fail)
        all_goals exact .fr rfl
end
end Go.Proofs.YtmfkngldfphhmaaDoor
