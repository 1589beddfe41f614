/-
  Walks of functions of the program, and what the laws need of them.
-/
import Derived.Test.YtcmedbbikpdgmaaDoorRLaw3C
set_option linter.all false
set_option linter.unusedSimpArgs false
set_option linter.unusedVariables false
set_option linter.unnecessarySimpa false
namespace Go.Proofs.YtcmedbbikpdgmaaDoor
open Go Go.Proofs.YtcmedbbikpdgmaaDoor.V Go.Proofs

/-- Two that are alike, if not to the letter. -/
theorem v_nes_eq {P : Program} {w0 : World} {env : TEnv} {σ : TS} {t : TypeId} {x y : Operand} {cs ds : List TV} {xs : List Value} {sh : List Sh} (hsh : shapeOf P 10000 t = some sh) (hagg : (P.underlying t).map aggD = some true) (hm : P.eqGuardType P.depth t = false)
    (hx : tO env x = some (.agg cs)) (hy : tO env y = some (.agg ds)) (he : ds = cs) (h1 : vsOf cs = some xs) (f1 : fitsL sh xs = true) : TL P w0 env σ (.bin .neq t x y) (.v (.bool false)) := by
  subst he; exact v_nes_self hsh hagg hm hx hy h1 f1

theorem w64a {a b : Int} (h1 : -9223372036854775808 ≤ a ∧ a ≤ 9223372036854775807) (h2 : -9223372036854775808 ≤ a + b ∧ a + b ≤ 9223372036854775807) : IntKind.i64.wrap (IntKind.i64.wrap a + b) = a + b := by rw [w64 h1, w64 h2]
theorem w64s {a b : Int} (h1 : -9223372036854775808 ≤ a ∧ a ≤ 9223372036854775807) (h2 : -9223372036854775808 ≤ a - b ∧ a - b ≤ 9223372036854775807) : IntKind.i64.wrap (IntKind.i64.wrap a - b) = a - b := by rw [w64 h1, w64 h2]
theorem spots_at (s : ByteArray) : ∀ (n pos : Nat) (lc : Int × Int) (x : Spot), x ∈ spotsOf s n pos lc → x.at' < s.size
  | 0, _, _, _, h => by cases h
  | n + 1, pos, lc, x, h => by
    simp only [spotsOf] at h
    split at h
    · rcases List.mem_cons.1 h with rfl | h
      · assumption
      · exact spots_at s n _ _ x h
    · cases h
theorem end_rng (s : ByteArray) : 0 ≤ (endS s).1 ∧ (endS s).1 ≤ s.size + 2 := by
  have hE : endS s = match (spots s).getLast? with | none => ((1, 1) : Int × Int) | some x => stepN (x.line, x.col) x.rune := end_last ..
  have hrng := fun x h => spots_rng s s.size 0 (1, 1) x (by simp) (by simp) (by simp) (by simp) h
  rw [hE]
  split
  · simp only; omega
  · rename_i x hx
    have := hrng x (List.mem_of_getLast? hx)
    simp only [stepN]
    split <;> simp only <;> omega

section
attribute [local irreducible] TwS TwR thenT inBlockT retT endS spots short letter digit blank

theorem glyphLines (s t : ByteArray) : Pure prog Tabs n_law_GlyphLines [.v (.string s), .v (.string t)] (tB true) := by
  have s1 := fun G => short_spec (G := G) s 300
  have s2 := fun G => short_spec (G := G) t 300
  have hx := short_size s 300
  have hy := short_size t 300
  generalize short s 300 = x at s1 hx
  generalize short t 300 = y at s2 hy
  obtain ⟨e1, e2⟩ := spots_add x y
  have z1 : (bs [10]).size = 1 := rfl
  have q1 : (x ++ bs [10]).size = x.size + 1 := by rw [ByteArray.size_append, z1]
  have q2 : (x ++ bs [10] ++ y).size = x.size + 1 + y.size := by rw [ByteArray.size_append, q1]
  have c1 := spots_spec x (by omega)
  have c2 := spots_spec y (by omega)
  have c3 := spots_spec (x ++ bs [10] ++ y) (by omega)
  have c4 := fun G => end_spec (G := G) (x ++ bs [10]) (by omega)
  rw [e1] at c3
  rw [e2] at c4
  have hl := end_rng x
  have la : (spots x).length ≤ 300 := by rw [spots_def]; exact Nat.le_trans (spots_len ..) hx
  have lb : (spots y).length ≤ 300 := by rw [spots_def]; exact Nat.le_trans (spots_len ..) hy
  have rb : ∀ z ∈ spots y, z.at' < y.size ∧ 0 ≤ z.line ∧ z.line ≤ y.size + 1 := fun z hz => by
    rw [spots_def] at hz
    have h1 := spots_at _ _ _ _ _ hz
    have h2 := spots_rng y y.size 0 (1, 1) z (by simp) (by simp) (by simp) (by simp) hz
    exact ⟨h1, h2.1, h2.2.1⟩
  generalize spots x = a at *
  generalize spots y = b at *
  generalize (endS x).1 = l at *
  generalize (endS x).2 = cc at *
  refine Pure.of mixedOk (fn := f_law_GlyphLines) rfl (by kernel_rfl) ok_law_GlyphLines rfl fun C hP hG hp => ?_
  simp only [fs_law_GlyphLines, targEnv, Nat.zero_add, Nat.reduceAdd]
  repeat' (first | refine ts_seq (fun K hK hW => ?_) | refine ts_reg ?_ | refine tr_nil ?_ | refine tr_ev rfl ?_ | refine use_K (by assumption) ?_ | refine tr_guard_u rfl ?_ | refine tr_guard_y rfl rfl ?_ | refine tr_guard_n rfl rfl ?_ | refine tr_alloc rfl ?_ | refine tr_store rfl rfl rfl rfl rfl rfl rfl ?_ | refine ts_cond_t rfl rfl ?_ | refine ts_cond_f rfl rfl ?_ | refine ts_nop ?_ | refine ts_block ?_ | refine ts_exit ?_ | refine ts_ret ?_ | refine th_exit ?_ | refine th_ret ?_ | refine bl_normal ?_ | refine bl_ret ?_ | refine bl_hit ?_ | refine bl_miss rfl ?_ | refine tret_of (.inr rfl) rfl ?_ | refine tr_call rfl (by rw [hP]; exact s1 _) (.inl rfl) ?_ | refine tr_call rfl (by rw [hP]; exact s2 _) (.inl rfl) ?_ | refine tr_call rfl (by rw [hP, hG]; exact c1) (.inl rfl) ?_ | refine tr_call rfl (by rw [hP, hG]; exact c2) (.inl rfl) ?_ | refine tr_call rfl (by rw [hP, hG]; exact c3) (.inl rfl) ?_ | refine tr_call rfl (by rw [hP]; exact c4 _) (.inl rfl) ?_ | refine tr_light (tl_sadd rfl rfl (by omega)) ?_ | (refine tg_split rfl (fun h => ?_) (fun h => ?_) <;> (try simp only [decide_eq_true_eq, decide_eq_false_iff_not, Bool.not_eq_true', Bool.not_eq_false', Bool.not_true, Bool.not_false, Bool.not_not, beq_iff_eq, Bool.not_eq_true, Bool.not_eq_false] at h) <;> try (exfalso; (simp only [List.length_map, List.length_append, List.length_cons] at h; rw [w64a (by omega) (by omega)] at h; omega); done)) | (refine ts_cond rfl (fun h => ?_) (fun h => ?_) <;> (try simp only [decide_eq_true_eq, decide_eq_false_iff_not, Bool.not_eq_true', Bool.not_eq_false', Bool.not_true, Bool.not_false, Bool.not_not, beq_iff_eq, Bool.not_eq_true, Bool.not_eq_false] at h) <;> try (exfalso; (simp only [List.length_map, List.length_append, List.length_cons] at h; rw [w64a (by omega) (by omega)] at h; omega); done)))
  refine ts_loop (fun m env σ => ∃ i : Nat, m = a.length - i ∧ i ≤ a.length ∧ env = [(0, .v (.string x)), (5, .lst 6 (a.map cSpot)), (6, .lst 6 (b.map cSpot)), (7, .lst 6 ((a ++ ⟨10, x.size, 1, l, cc, false⟩ :: b.map (shift (x.size + 1) l)).map cSpot)), (8, tI (l + 1)), (10, tI i)] ∧ σ = ⟨[], 0⟩)
    a.length (w_sub [0, 5, 6, 7, 8, 10] rfl) ⟨0, rfl, by omega, rfl, rfl⟩ ?_
  rintro m env σ ⟨i, rfl, hi, rfl, rfl⟩
  by_cases hlt : i < a.length
  · have hg : a[i]? = some a[i] := List.getElem?_eq_getElem hlt
    have hg2 : (a ++ ⟨10, x.size, 1, l, cc, false⟩ :: b.map (shift (x.size + 1) l))[i]? = some a[i] := by rw [List.getElem?_append_left hlt, hg]
    generalize a[i] = z at hg hg2
    repeat' (first | refine ts_seq (fun K hK hW => ?_) | refine ts_reg ?_ | refine tr_nil ?_ | refine tr_ev rfl ?_ | refine use_K (by assumption) ?_ | refine tr_guard_u rfl ?_ | refine tr_guard_y rfl rfl ?_ | refine tr_guard_n rfl rfl ?_ | refine tr_alloc rfl ?_ | refine tr_store rfl rfl rfl rfl rfl rfl rfl ?_ | refine ts_cond_t rfl rfl ?_ | refine ts_cond_f rfl rfl ?_ | refine ts_nop ?_ | refine ts_block ?_ | refine ts_exit ?_ | refine ts_ret ?_ | refine th_exit ?_ | refine th_ret ?_ | refine bl_normal ?_ | refine bl_ret ?_ | refine bl_hit ?_ | refine bl_miss rfl ?_ | refine tret_of (.inr rfl) rfl ?_ | refine ts_cond_t rfl (decide_eq_true (by rw [List.length_map]; omega)) ?_ | refine tr_light (tl_ixm (m := i) rfl rfl rfl hg2) ?_ | refine tr_light (tl_ixm (m := i) rfl rfl rfl hg) ?_ | refine tr_light (v_nes_self (by rw [hP]; exact sh_spot) (by rw [hP]; exact ag_spot) (by rw [hP]; exact eg_spot) rfl rfl rfl rfl) ?_ | (refine tg_split rfl (fun h => ?_) (fun h => ?_) <;> (try simp only [decide_eq_true_eq, decide_eq_false_iff_not, Bool.not_eq_true', Bool.not_eq_false', Bool.not_true, Bool.not_false, Bool.not_not, beq_iff_eq, Bool.not_eq_true, Bool.not_eq_false] at h) <;> try (exfalso; (cases h; done); done)) | (refine ts_cond rfl (fun h => ?_) (fun h => ?_) <;> (try simp only [decide_eq_true_eq, decide_eq_false_iff_not, Bool.not_eq_true', Bool.not_eq_false', Bool.not_true, Bool.not_false, Bool.not_not, beq_iff_eq, Bool.not_eq_true, Bool.not_eq_false] at h) <;> try (exfalso; (cases h; done); done)))
    refine loop_again (m' := a.length - (i + 1)) (by omega) ?_ ⟨i + 1, rfl, by omega, rfl, rfl⟩
    (refine w_ren [] rfl (by rw [hp]; intro j hj; cases hj) rfl ?_ ?_ <;> repeat' (first | exact .nil | exact .f _ rfl | exact .s _ _ _ _ _ _ rfl | exact .p _ _ _ rfl | exact .rows _ _ _ | exact .iter _ _ | exact RenL.nil _ | refine RenL.cons ?_ ?_ | refine .cells _ _ _ ?_ | refine .cons _ _ _ _ rfl ?_ ?_ | refine .cons _ _ _ _ _ rfl rfl ?_ ?_ | refine .rowsE ?_ | refine .sE rfl ?_ | exact .m _ _ rfl | refine .fE rfl ?_ | fail))
    rw [w64 (by omega)]; rfl
  have hia : i = a.length := by omega
  subst hia
  repeat' (first | refine ts_seq (fun K hK hW => ?_) | refine ts_reg ?_ | refine tr_nil ?_ | refine tr_ev rfl ?_ | refine use_K (by assumption) ?_ | refine tr_guard_u rfl ?_ | refine tr_guard_y rfl rfl ?_ | refine tr_guard_n rfl rfl ?_ | refine tr_alloc rfl ?_ | refine tr_store rfl rfl rfl rfl rfl rfl rfl ?_ | refine ts_cond_t rfl rfl ?_ | refine ts_cond_f rfl rfl ?_ | refine ts_nop ?_ | refine ts_block ?_ | refine ts_exit ?_ | refine ts_ret ?_ | refine th_exit ?_ | refine th_ret ?_ | refine bl_normal ?_ | refine bl_ret ?_ | refine bl_hit ?_ | refine bl_miss rfl ?_ | refine tret_of (.inr rfl) rfl ?_ | refine ts_cond_f rfl (decide_eq_false (by rw [List.length_map]; omega)) ?_ | (refine tg_split rfl (fun h => ?_) (fun h => ?_) <;> (try simp only [decide_eq_true_eq, decide_eq_false_iff_not, Bool.not_eq_true', Bool.not_eq_false', Bool.not_true, Bool.not_false, Bool.not_not, beq_iff_eq, Bool.not_eq_true, Bool.not_eq_false] at h) <;> try (exfalso; (cases h; done); done)) | (refine ts_cond rfl (fun h => ?_) (fun h => ?_) <;> (try simp only [decide_eq_true_eq, decide_eq_false_iff_not, Bool.not_eq_true', Bool.not_eq_false', Bool.not_true, Bool.not_false, Bool.not_not, beq_iff_eq, Bool.not_eq_true, Bool.not_eq_false] at h) <;> try (exfalso; (cases h; done); done)))
  refine ts_loop (fun m env σ => ∃ i : Nat, m = b.length - i ∧ i ≤ b.length ∧ env = [(0, .v (.string x)), (5, .lst 6 (a.map cSpot)), (6, .lst 6 (b.map cSpot)), (7, .lst 6 ((a ++ ⟨10, x.size, 1, l, cc, false⟩ :: b.map (shift (x.size + 1) l)).map cSpot)), (8, tI (l + 1)), (11, tI i)] ∧ σ = ⟨[], 0⟩)
    b.length (w_sub [0, 5, 6, 7, 8, 11] rfl) ⟨0, rfl, by omega, rfl, rfl⟩ ?_
  rintro m env σ ⟨i, rfl, hi, rfl, rfl⟩
  by_cases hlt : i < b.length
  · have hg : b[i]? = some b[i] := List.getElem?_eq_getElem hlt
    have hz := rb _ (List.getElem_mem hlt)
    have hg2 : (a ++ ⟨10, x.size, 1, l, cc, false⟩ :: b.map (shift (x.size + 1) l))[a.length + 1 + i]? = some (shift (x.size + 1) l b[i]) := by
      rw [List.getElem?_append_right (by omega), show a.length + 1 + i - a.length = i + 1 by omega, List.getElem?_cons_succ, List.getElem?_map, hg]; rfl
    generalize b[i] = z at hg hg2 hz
    repeat' (first | refine ts_seq (fun K hK hW => ?_) | refine ts_reg ?_ | refine tr_nil ?_ | refine tr_ev rfl ?_ | refine use_K (by assumption) ?_ | refine tr_guard_u rfl ?_ | refine tr_guard_y rfl rfl ?_ | refine tr_guard_n rfl rfl ?_ | refine tr_alloc rfl ?_ | refine tr_store rfl rfl rfl rfl rfl rfl rfl ?_ | refine ts_cond_t rfl rfl ?_ | refine ts_cond_f rfl rfl ?_ | refine ts_nop ?_ | refine ts_block ?_ | refine ts_exit ?_ | refine ts_ret ?_ | refine th_exit ?_ | refine th_ret ?_ | refine bl_normal ?_ | refine bl_ret ?_ | refine bl_hit ?_ | refine bl_miss rfl ?_ | refine tret_of (.inr rfl) rfl ?_ | refine ts_cond_t rfl (decide_eq_true (by rw [List.length_map]; omega)) ?_ | refine tr_light (tl_ixm (m := i) rfl rfl rfl hg) ?_ | refine tr_light (tl_ixm (m := a.length + 1 + i) rfl rfl (by rw [List.length_map, w64a (by omega) (by omega)]; omega) hg2) ?_ | refine tr_light (v_nes_eq (by rw [hP]; exact sh_spot) (by rw [hP]; exact ag_spot) (by rw [hP]; exact eg_spot) rfl rfl (by simp only [cSpot, shift]; rw [w64a (by omega) (by omega), w64s (by omega) (by omega), show (z.at' : Int) + (x.size : Int) + 1 = ((x.size + 1 + z.at' : Nat) : Int) by omega, show z.line + (l + 1) - 1 = z.line + l by omega]) rfl rfl) ?_ | (refine tg_split rfl (fun h => ?_) (fun h => ?_) <;> (try simp only [decide_eq_true_eq, decide_eq_false_iff_not, Bool.not_eq_true', Bool.not_eq_false', Bool.not_true, Bool.not_false, Bool.not_not, beq_iff_eq, Bool.not_eq_true, Bool.not_eq_false] at h) <;> try (exfalso; (cases h; done); done)) | (refine ts_cond rfl (fun h => ?_) (fun h => ?_) <;> (try simp only [decide_eq_true_eq, decide_eq_false_iff_not, Bool.not_eq_true', Bool.not_eq_false', Bool.not_true, Bool.not_false, Bool.not_not, beq_iff_eq, Bool.not_eq_true, Bool.not_eq_false] at h) <;> try (exfalso; (cases h; done); done)))
    refine loop_again (m' := b.length - (i + 1)) (by omega) ?_ ⟨i + 1, rfl, by omega, rfl, rfl⟩
    (refine w_ren [] rfl (by rw [hp]; intro j hj; cases hj) rfl ?_ ?_ <;> repeat' (first | exact .nil | exact .f _ rfl | exact .s _ _ _ _ _ _ rfl | exact .p _ _ _ rfl | exact .rows _ _ _ | exact .iter _ _ | exact RenL.nil _ | refine RenL.cons ?_ ?_ | refine .cells _ _ _ ?_ | refine .cons _ _ _ _ rfl ?_ ?_ | refine .cons _ _ _ _ _ rfl rfl ?_ ?_ | refine .rowsE ?_ | refine .sE rfl ?_ | exact .m _ _ rfl | refine .fE rfl ?_ | fail))
    rw [w64 (by omega)]; rfl
  have hia : i = b.length := by omega
  subst hia
  have hg2 : (a ++ ⟨10, x.size, 1, l, cc, false⟩ :: b.map (shift (x.size + 1) l))[a.length]? = some ⟨10, x.size, 1, l, cc, false⟩ := by
    rw [List.getElem?_append_right (by omega), Nat.sub_self]; rfl
  repeat' (first | refine ts_seq (fun K hK hW => ?_) | refine ts_reg ?_ | refine tr_nil ?_ | refine tr_ev rfl ?_ | refine use_K (by assumption) ?_ | refine tr_guard_u rfl ?_ | refine tr_guard_y rfl rfl ?_ | refine tr_guard_n rfl rfl ?_ | refine tr_alloc rfl ?_ | refine tr_store rfl rfl rfl rfl rfl rfl rfl ?_ | refine ts_cond_t rfl rfl ?_ | refine ts_cond_f rfl rfl ?_ | refine ts_nop ?_ | refine ts_block ?_ | refine ts_exit ?_ | refine ts_ret ?_ | refine th_exit ?_ | refine th_ret ?_ | refine bl_normal ?_ | refine bl_ret ?_ | refine bl_hit ?_ | refine bl_miss rfl ?_ | refine tret_of (.inr rfl) rfl ?_ | refine ts_cond_f rfl (decide_eq_false (by rw [List.length_map]; omega)) ?_ | refine tr_light (tl_ixm (m := a.length) rfl rfl (by rw [List.length_map]) hg2) ?_ | refine tr_call rfl (by rw [hP, hG]; exact alive_spec) (.inl rfl) ?_ | (refine tg_split rfl (fun h => ?_) (fun h => ?_) <;> (try simp only [decide_eq_true_eq, decide_eq_false_iff_not, Bool.not_eq_true', Bool.not_eq_false', Bool.not_true, Bool.not_false, Bool.not_not, beq_iff_eq, Bool.not_eq_true, Bool.not_eq_false] at h) <;> try (exfalso; (cases h; done); done)) | (refine ts_cond rfl (fun h => ?_) (fun h => ?_) <;> (try simp only [decide_eq_true_eq, decide_eq_false_iff_not, Bool.not_eq_true', Bool.not_eq_false', Bool.not_true, Bool.not_false, Bool.not_not, beq_iff_eq, Bool.not_eq_true, Bool.not_eq_false] at h) <;> try (exfalso; (cases h; done); done)))
  exact .fr rfl
end
end Go.Proofs.YtcmedbbikpdgmaaDoor
