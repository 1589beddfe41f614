/-
  Walks of functions of the program, and what the laws need of them.
-/
import Derived.Test.YtmfkngldfphhmaaDoorRGlyphA
set_option linter.all false
set_option linter.unusedSimpArgs false
set_option linter.unusedVariables false
set_option linter.unnecessarySimpa false
namespace Go.Proofs.YtmfkngldfphhmaaDoor
open Go Go.Proofs.YtmfkngldfphhmaaDoor.V Go.Proofs
section
attribute [local irreducible] TwS TwR thenT inBlockT retT
variable {G : World → Prop}

def strip (x : Spot) : Spot := ⟨x.rune, x.at', x.size, x.line, x.col, false⟩
def opened (x : Spot) : Spot := ⟨x.rune, x.at', 0, x.line, x.col, false⟩

theorem spots_step (s : ByteArray) (pos : Nat) (lc : Int × Int) (hlt : pos < s.size) : spotsOf s (s.size - pos) pos lc = spotAt s pos lc :: spotsOf s (s.size - (pos + (Utf8.decode s pos).2)) (pos + (Utf8.decode s pos).2) (stepN lc (Utf8.decode s pos).1) := by
  have := decode_pos s pos
  rw [show s.size - pos = (s.size - pos - 1) + 1 by omega, spotsOf, if_pos hlt]
  rw [spots_more _ _ (s.size - (pos + (Utf8.decode s pos).2)) _ _ (by omega) (by omega)]

theorem stepN_yes (lc : Int × Int) (r : Nat) (h : (r : Int) = 10) : stepN lc r = (lc.1 + 1, 1) := if_pos (by omega)
theorem stepN_no (lc : Int × Int) (r : Nat) (h : ¬ (r : Int) = 10) : stepN lc r = (lc.1, lc.2 + 1) := if_neg (by omega)

/-- All that is known at the head of the first loop. -/
structure SpInv (s : ByteArray) (m pos : Nat) (lc : Int × Int) (ys : List Spot) (o : Option Spot) : Prop where
  fm : m = s.size - pos
  fall : ys ++ o.toList ++ spotsOf s m pos lc = spots s
  flast : ∀ z, o = some z → z.at' + z.size = pos
  fnone : o = none → ys = []
  f1 : 0 ≤ lc.1 ∧ lc.1 ≤ pos + 1
  f2 : 0 ≤ lc.2 ∧ lc.2 ≤ pos + 1
  fpos : pos ≤ s.size
  flen : ys.length + o.toList.length ≤ pos

theorem spots_spec2 (s : ByteArray) (hs : s.size ≤ 1000000000000) : Pure prog G n_ref1_Spots [.v (.string s)] (.lst 6 ((spots s).map cSpot)) := by
  refine Pure.of mixedOk (fn := f_ref1_Spots) rfl (by kernel_rfl) ok_ref1_Spots rfl fun C hP hG hp => ?_
  simp only [fs_ref1_Spots, targEnv, Nat.zero_add, Nat.reduceAdd]
  repeat' (first | refine ts_seq (fun K hK hW => ?_) | refine ts_reg ?_ | refine tr_nil ?_ | refine tr_ev rfl ?_ | refine use_K (by assumption) ?_ | refine tr_guard_u rfl ?_ | refine tr_guard_y rfl rfl ?_ | refine tr_guard_n rfl rfl ?_ | refine tr_alloc rfl ?_ | refine tr_store rfl rfl rfl rfl rfl rfl rfl ?_ | refine ts_cond_t rfl rfl ?_ | refine ts_cond_f rfl rfl ?_ | refine ts_nop ?_ | refine ts_block ?_ | refine ts_exit ?_ | refine ts_ret ?_ | refine th_exit ?_ | refine th_ret ?_ | refine bl_normal ?_ | refine bl_ret ?_ | refine bl_hit ?_ | refine bl_miss rfl ?_ | refine tret_of (.inr rfl) rfl ?_ | fail)
  refine ts_loop (fun m env σ => ∃ (pos : Nat) (lc : Int × Int) (ys : List Spot) (o : Option Spot), env = [(0, .v (.string s)), (3, .s 1 6 0 (ys.length + o.toList.length) true), (4, .v (.int .i64 lc.1)), (5, .v (.int .i64 lc.2)), (10, .p 0 0)] ∧
    σ = ⟨[(1, .rows 6 ((ys.map strip ++ o.toList.map opened).map cSpot) ty_ref1_Spot), (0, .iter s pos)], 2⟩ ∧ SpInv s m pos lc ys o)
    s.size ((w_virt (d := 3) 6 ty_ref1_Spot rfl).trans (w_sub [0, 3, 4, 5, 10] rfl)) ⟨0, (1, 1), [], none, rfl, rfl, rfl, rfl, by simp, by simp, by simp, by simp, by simp, by simp⟩ ?_
  rintro m env σ ⟨pos, lc, ys, o, rfl, rfl, hI⟩
  have hm := hI.fm
  subst hm
  have hb1 := hI.f1; have hb2 := hI.f2; have hb3 := hI.fpos; have hb4 := hI.flen
  by_cases hlt : pos < s.size
  · have hd := decode_pos s pos
    have hinv : ∀ ys', ys' = ys ++ o.toList → SpInv s (s.size - (pos + (Utf8.decode s pos).2)) (pos + (Utf8.decode s pos).2) (stepN lc (Utf8.decode s pos).1) ys' (some (spotAt s pos lc)) := by
      rintro ys' rfl
      refine ⟨rfl, ?_, ?_, by simp, ?_, ?_, decode_fit hlt, ?_⟩
      · rw [← hI.fall, spots_step s pos lc hlt]; simp
      · intro z hz; cases hz; rfl
      · simp only [stepN]; split <;> simp only <;> omega
      · simp only [stepN]; split <;> simp only <;> omega
      · simp at hb4 ⊢; omega
    cases o with
    | none =>
      have hy := hI.fnone rfl
      subst hy
      repeat' (first | refine ts_seq (fun K hK hW => ?_) | refine ts_reg ?_ | refine tr_nil ?_ | refine tr_ev rfl ?_ | refine use_K (by assumption) ?_ | refine tr_guard_u rfl ?_ | refine tr_guard_y rfl rfl ?_ | refine tr_guard_n rfl rfl ?_ | refine tr_alloc rfl ?_ | refine tr_store rfl rfl rfl rfl rfl rfl rfl ?_ | refine ts_cond_t rfl rfl ?_ | refine ts_cond_f rfl rfl ?_ | refine ts_nop ?_ | refine ts_block ?_ | refine ts_exit ?_ | refine ts_ret ?_ | refine th_exit ?_ | refine th_ret ?_ | refine bl_normal ?_ | refine bl_ret ?_ | refine bl_hit ?_ | refine bl_miss rfl ?_ | refine tret_of (.inr rfl) rfl ?_ | refine tr_next rfl rfl rfl hlt ?_ | refine tr_append rfl rfl rfl (.inr (.inr ⟨_, _, _, _, rfl, rfl, rfl⟩)) (by simp) rfl ?_ | (refine tg_split rfl (fun h => ?_) (fun h => ?_) <;> try simp only [decide_eq_true_eq, decide_eq_false_iff_not, Bool.not_eq_true', Bool.not_eq_false', Bool.not_true, Bool.not_false, Bool.not_not, beq_iff_eq, Bool.not_eq_true, Bool.not_eq_false] at h) | (refine ts_cond rfl (fun h => ?_) (fun h => ?_) <;> try simp only [decide_eq_true_eq, decide_eq_false_iff_not, Bool.not_eq_true', Bool.not_eq_false', Bool.not_true, Bool.not_false, Bool.not_not, beq_iff_eq, Bool.not_eq_true, Bool.not_eq_false] at h) | fail)
      all_goals refine loop_again (m' := s.size - (pos + (Utf8.decode s pos).2)) (by omega) ?_ ⟨pos + (Utf8.decode s pos).2, stepN lc (Utf8.decode s pos).1, [], some (spotAt s pos lc), rfl, rfl, hinv _ rfl⟩
      all_goals (refine w_ren [(1, 3), (0, 0)] rfl (by rw [hp]; intro j hj; cases hj) rfl ?_ ?_ <;> repeat' (first | exact .nil | exact .f _ rfl | exact .s _ _ _ _ _ _ rfl | exact .p _ _ _ rfl | exact .rows _ _ _ | exact .iter _ _ | exact RenL.nil _ | refine RenL.cons ?_ ?_ | refine .cells _ _ _ ?_ | refine .cons _ _ _ _ rfl ?_ ?_ | refine .cons _ _ _ _ _ rfl rfl ?_ ?_ | refine .rowsE ?_ | refine .sE rfl ?_ | exact .m _ _ rfl | refine .fE rfl ?_ | fail))
      all_goals first | rw [stepN_yes _ _ (by assumption)] | rw [stepN_no _ _ (by assumption)]
      all_goals first | rfl | (rw [w64 (by omega)])
    | some z =>
      have hz := hI.flast z rfl
      have hlen : ys.length + (some z).toList.length = ys.length + 1 := rfl
      have hget : ((ys.map strip ++ (some z).toList.map opened).map cSpot)[ys.length]? = some (cSpot (opened z)) := by
        simp
      have hset : ((ys.map strip ++ (some z).toList.map opened).map cSpot).set ys.length (cSpot (strip z)) = ((ys ++ [z]).map strip).map cSpot := by
        simp
      repeat' (first | refine ts_seq (fun K hK hW => ?_) | refine ts_reg ?_ | refine tr_nil ?_ | refine tr_ev rfl ?_ | refine use_K (by assumption) ?_ | refine tr_guard_u rfl ?_ | refine tr_guard_y rfl rfl ?_ | refine tr_guard_n rfl rfl ?_ | refine tr_alloc rfl ?_ | refine tr_store rfl rfl rfl rfl rfl rfl rfl ?_ | refine ts_cond_t rfl rfl ?_ | refine ts_cond_f rfl rfl ?_ | refine ts_nop ?_ | refine ts_block ?_ | refine ts_exit ?_ | refine ts_ret ?_ | refine th_exit ?_ | refine th_ret ?_ | refine bl_normal ?_ | refine bl_ret ?_ | refine bl_hit ?_ | refine bl_miss rfl ?_ | refine tret_of (.inr rfl) rfl ?_ | refine tr_next rfl rfl rfl hlt ?_ | refine tr_light (tl_ixo (m := ys.length) rfl rfl (by rw [hlen, w64 (by omega)]; omega) (by omega)) ?_ | refine tr_light (tl_ldE rfl rfl hget rfl) ?_ | refine tr_storeE rfl rfl hget rfl rfl rfl rfl rfl rfl ?_ | refine tr_append rfl rfl (by simp) (.inr (.inr ⟨_, _, _, _, rfl, rfl, rfl⟩)) (by simp; omega) rfl ?_ | (refine tg_split rfl (fun h => ?_) (fun h => ?_) <;> try simp only [decide_eq_true_eq, decide_eq_false_iff_not, Bool.not_eq_true', Bool.not_eq_false', Bool.not_true, Bool.not_false, Bool.not_not, beq_iff_eq, Bool.not_eq_true, Bool.not_eq_false] at h) | (refine ts_cond rfl (fun h => ?_) (fun h => ?_) <;> try simp only [decide_eq_true_eq, decide_eq_false_iff_not, Bool.not_eq_true', Bool.not_eq_false', Bool.not_true, Bool.not_false, Bool.not_not, beq_iff_eq, Bool.not_eq_true, Bool.not_eq_false] at h) | fail)
      all_goals try (exfalso; rw [hlen] at *; omega)
      all_goals refine loop_again (m' := s.size - (pos + (Utf8.decode s pos).2)) (by omega) ?_ ⟨pos + (Utf8.decode s pos).2, stepN lc (Utf8.decode s pos).1, ys ++ [z], some (spotAt s pos lc), rfl, rfl, hinv _ rfl⟩
      all_goals (refine w_ren [(1, 3), (0, 0)] rfl (by rw [hp]; intro j hj; cases hj) rfl ?_ ?_ <;> repeat' (first | exact .nil | exact .f _ rfl | exact .s _ _ _ _ _ _ rfl | exact .p _ _ _ rfl | exact .rows _ _ _ | exact .iter _ _ | exact RenL.nil _ | refine RenL.cons ?_ ?_ | refine .cells _ _ _ ?_ | refine .cons _ _ _ _ rfl ?_ ?_ | refine .cons _ _ _ _ _ rfl rfl ?_ ?_ | refine .rowsE ?_ | refine .sE rfl ?_ | exact .m _ _ rfl | refine .fE rfl ?_ | fail))
      all_goals try (first | rw [stepN_yes _ _ (by assumption)] | rw [stepN_no _ _ (by assumption)])
      all_goals try (first | rfl | (rw [w64 (by omega)]; done))
      all_goals try (simp only [List.length_append]; rfl)
      all_goals
        have hw : IntKind.i64.wrap ((pos : Int) - ((opened z).at' : Int)) = (z.size : Int) := by
          have : (opened z).at' = z.at' := rfl
          rw [this, w64 (by omega)]; omega
        rw [hw]
        exact (congrArg (· ++ [_]) hset).trans (by simp [cSpot, opened, spotAt])
  · have hall := hI.fall
    rw [spots_stop _ _ _ _ hlt, List.append_nil] at hall
    have hsl : (spots s).length ≤ s.size := spots_len ..
    cases o with
    | none =>
      have hy := hI.fnone rfl
      subst hy
      have hnil : spots s = [] := hall.symm
      repeat' (first | refine ts_seq (fun K hK hW => ?_) | refine ts_reg ?_ | refine tr_nil ?_ | refine tr_ev rfl ?_ | refine use_K (by assumption) ?_ | refine tr_guard_u rfl ?_ | refine tr_guard_y rfl rfl ?_ | refine tr_guard_n rfl rfl ?_ | refine tr_alloc rfl ?_ | refine tr_store rfl rfl rfl rfl rfl rfl rfl ?_ | refine ts_cond_t rfl rfl ?_ | refine ts_cond_f rfl rfl ?_ | refine ts_nop ?_ | refine ts_block ?_ | refine ts_exit ?_ | refine ts_ret ?_ | refine th_exit ?_ | refine th_ret ?_ | refine bl_normal ?_ | refine bl_ret ?_ | refine bl_hit ?_ | refine bl_miss rfl ?_ | refine tret_of (.inr rfl) rfl ?_ | refine tr_next_end rfl rfl rfl hlt ?_ | (refine tg_split rfl (fun h => ?_) (fun h => ?_) <;> try simp only [decide_eq_true_eq, decide_eq_false_iff_not, Bool.not_eq_true', Bool.not_eq_false', Bool.not_true, Bool.not_false, Bool.not_not, beq_iff_eq, Bool.not_eq_true, Bool.not_eq_false] at h) | (refine ts_cond rfl (fun h => ?_) (fun h => ?_) <;> try simp only [decide_eq_true_eq, decide_eq_false_iff_not, Bool.not_eq_true', Bool.not_eq_false', Bool.not_true, Bool.not_false, Bool.not_not, beq_iff_eq, Bool.not_eq_true, Bool.not_eq_false] at h) | fail)
      refine ts_loop (fun m env σ => m = 0 ∧ env = [(3, .s 1 6 0 0 true), (8, tI 0)] ∧ σ = ⟨[(1, .rows 6 [] ty_ref1_Spot)], 2⟩) 0 ?_ ⟨rfl, rfl, rfl⟩ ?_
      · (refine w_ren [(1, 1)] rfl (by rw [hp]; intro j hj; cases hj) rfl ?_ ?_ <;> repeat' (first | exact .nil | exact .f _ rfl | exact .s _ _ _ _ _ _ rfl | exact .p _ _ _ rfl | exact .rows _ _ _ | exact .iter _ _ | exact RenL.nil _ | refine RenL.cons ?_ ?_ | refine .cells _ _ _ ?_ | refine .cons _ _ _ _ rfl ?_ ?_ | refine .cons _ _ _ _ _ rfl rfl ?_ ?_ | refine .rowsE ?_ | refine .sE rfl ?_ | exact .m _ _ rfl | refine .fE rfl ?_ | fail))
      · rintro m env σ ⟨rfl, rfl, rfl⟩
        repeat' (first | refine ts_seq (fun K hK hW => ?_) | refine ts_reg ?_ | refine tr_nil ?_ | refine tr_ev rfl ?_ | refine use_K (by assumption) ?_ | refine tr_guard_u rfl ?_ | refine tr_guard_y rfl rfl ?_ | refine tr_guard_n rfl rfl ?_ | refine tr_alloc rfl ?_ | refine tr_store rfl rfl rfl rfl rfl rfl rfl ?_ | refine ts_cond_t rfl rfl ?_ | refine ts_cond_f rfl rfl ?_ | refine ts_nop ?_ | refine ts_block ?_ | refine ts_exit ?_ | refine ts_ret ?_ | refine th_exit ?_ | refine th_ret ?_ | refine bl_normal ?_ | refine bl_ret ?_ | refine bl_hit ?_ | refine bl_miss rfl ?_ | refine tret_of (.inr rfl) rfl ?_ | (refine tg_split rfl (fun h => ?_) (fun h => ?_) <;> try simp only [decide_eq_true_eq, decide_eq_false_iff_not, Bool.not_eq_true', Bool.not_eq_false', Bool.not_true, Bool.not_false, Bool.not_not, beq_iff_eq, Bool.not_eq_true, Bool.not_eq_false] at h) | (refine ts_cond rfl (fun h => ?_) (fun h => ?_) <;> try simp only [decide_eq_true_eq, decide_eq_false_iff_not, Bool.not_eq_true', Bool.not_eq_false', Bool.not_true, Bool.not_false, Bool.not_not, beq_iff_eq, Bool.not_eq_true, Bool.not_eq_false] at h) | fail)
        rw [hnil]
        exact .s _ _ _ _ _ _ rfl rfl
    | some z =>
      have hz := hI.flast z rfl
      have hlen : ys.length + (some z).toList.length = ys.length + 1 := rfl
      have hsp : spots s = ys ++ [z] := hall.symm
      have hget : ((ys.map strip ++ (some z).toList.map opened).map cSpot)[ys.length]? = some (cSpot (opened z)) := by
        simp
      have hset : ((ys.map strip ++ (some z).toList.map opened).map cSpot).set ys.length (cSpot (strip z)) = ((spots s).map strip).map cSpot := by
        rw [hsp]; simp
      have hw : IntKind.i64.wrap ((s.size : Int) - ((opened z).at' : Int)) = (z.size : Int) := by
        have : (opened z).at' = z.at' := rfl
        rw [this, w64 (by omega)]; omega
      repeat' (first | refine ts_seq (fun K hK hW => ?_) | refine ts_reg ?_ | refine tr_nil ?_ | refine tr_ev rfl ?_ | refine use_K (by assumption) ?_ | refine tr_guard_u rfl ?_ | refine tr_guard_y rfl rfl ?_ | refine tr_guard_n rfl rfl ?_ | refine tr_alloc rfl ?_ | refine tr_store rfl rfl rfl rfl rfl rfl rfl ?_ | refine ts_cond_t rfl rfl ?_ | refine ts_cond_f rfl rfl ?_ | refine ts_nop ?_ | refine ts_block ?_ | refine ts_exit ?_ | refine ts_ret ?_ | refine th_exit ?_ | refine th_ret ?_ | refine bl_normal ?_ | refine bl_ret ?_ | refine bl_hit ?_ | refine bl_miss rfl ?_ | refine tret_of (.inr rfl) rfl ?_ | refine tr_next_end rfl rfl rfl hlt ?_ | refine tr_light (tl_ixo (m := ys.length) rfl rfl (by rw [hlen, w64 (by omega)]; omega) (by omega)) ?_ | refine tr_light (tl_ldE rfl rfl hget rfl) ?_ | refine tr_storeE rfl rfl hget rfl rfl rfl rfl rfl rfl ?_ | (refine tg_split rfl (fun h => ?_) (fun h => ?_) <;> try simp only [decide_eq_true_eq, decide_eq_false_iff_not, Bool.not_eq_true', Bool.not_eq_false', Bool.not_true, Bool.not_false, Bool.not_not, beq_iff_eq, Bool.not_eq_true, Bool.not_eq_false] at h) | (refine ts_cond rfl (fun h => ?_) (fun h => ?_) <;> try simp only [decide_eq_true_eq, decide_eq_false_iff_not, Bool.not_eq_true', Bool.not_eq_false', Bool.not_true, Bool.not_false, Bool.not_not, beq_iff_eq, Bool.not_eq_true, Bool.not_eq_false] at h) | fail)
      all_goals try (exfalso; rw [hlen] at *; omega)
      refine ts_loop (fun m env σ => ∃ i : Nat, m = (spots s).length - i ∧ i ≤ (spots s).length ∧ env = [(3, .s 1 6 0 (spots s).length true), (8, tI i)] ∧ σ = ⟨[(1, .rows 6 (((spots s).take i ++ ((spots s).drop i).map strip).map cSpot) ty_ref1_Spot)], 2⟩) (spots s).length ?_ ⟨0, rfl, by omega, rfl, rfl⟩ ?_
      · (refine w_ren [(1, 1)] rfl (by rw [hp]; intro j hj; cases hj) rfl ?_ ?_ <;> repeat' (first | exact .nil | exact .f _ rfl | exact .s _ _ _ _ _ _ rfl | exact .p _ _ _ rfl | exact .rows _ _ _ | exact .iter _ _ | exact RenL.nil _ | refine RenL.cons ?_ ?_ | refine .cells _ _ _ ?_ | refine .cons _ _ _ _ rfl ?_ ?_ | refine .cons _ _ _ _ _ rfl rfl ?_ ?_ | refine .rowsE ?_ | refine .sE rfl ?_ | exact .m _ _ rfl | refine .fE rfl ?_ | fail))
        · rw [hsp, List.length_append]; rfl
        · rw [hw]; exact hset
      · rintro m env σ ⟨i, rfl, hi, rfl, rfl⟩
        by_cases hlt2 : i < (spots s).length
        · have hg : (spots s)[i]? = some (spots s)[i] := List.getElem?_eq_getElem hlt2
          have hbad := spots_bad s _ _ _ _ (List.getElem_mem hlt2)
          generalize (spots s)[i] = x at hg hbad
          have hget2 : (((spots s).take i ++ ((spots s).drop i).map strip).map cSpot)[i]? = some (cSpot (strip x)) := by
            rw [List.getElem?_map, List.getElem?_append_right (by simp; omega)]
            simp [hg, Nat.min_eq_left hi]
          have hset2 : (((spots s).take i ++ ((spots s).drop i).map strip).map cSpot).set i (cSpot x) = ((spots s).take (i + 1) ++ ((spots s).drop (i + 1)).map strip).map cSpot := by
            have hdr : (spots s).drop i = x :: (spots s).drop (i + 1) := by
              have e := List.drop_eq_getElem_cons hlt2
              rw [List.getElem?_eq_getElem hlt2] at hg
              rw [e, Option.some.inj hg]
            have htk : (spots s).take (i + 1) = (spots s).take i ++ [x] := by rw [List.take_add_one, hg]; rfl
            have hl : ((spots s).take i).length = i := by rw [List.length_take]; omega
            rw [hdr, htk, List.map_cons, List.map_append, List.map_cons, List.set_append_right _ _ (by rw [List.length_map]; omega), List.length_map, hl, Nat.sub_self, List.set_cons_zero, List.append_assoc, List.map_append, List.map_append]
            rfl
          repeat' (first | refine ts_seq (fun K hK hW => ?_) | refine ts_reg ?_ | refine tr_nil ?_ | refine tr_ev rfl ?_ | refine use_K (by assumption) ?_ | refine tr_guard_u rfl ?_ | refine tr_guard_y rfl rfl ?_ | refine tr_guard_n rfl rfl ?_ | refine tr_alloc rfl ?_ | refine tr_store rfl rfl rfl rfl rfl rfl rfl ?_ | refine ts_cond_t rfl rfl ?_ | refine ts_cond_f rfl rfl ?_ | refine ts_nop ?_ | refine ts_block ?_ | refine ts_exit ?_ | refine ts_ret ?_ | refine th_exit ?_ | refine th_ret ?_ | refine bl_normal ?_ | refine bl_ret ?_ | refine bl_hit ?_ | refine bl_miss rfl ?_ | refine tret_of (.inr rfl) rfl ?_ | refine ts_cond_t rfl (decide_eq_true (by omega)) ?_ | refine tr_light (tl_ixo (m := i) rfl rfl rfl hlt2) ?_ | refine tr_light (tl_ldE rfl rfl hget2 rfl) ?_ | refine tr_storeE rfl rfl hget2 rfl rfl rfl rfl rfl rfl ?_ | (refine tg_split rfl (fun h => ?_) (fun h => ?_) <;> try simp only [decide_eq_true_eq, decide_eq_false_iff_not, Bool.not_eq_true', Bool.not_eq_false', Bool.not_true, Bool.not_false, Bool.not_not, beq_iff_eq, Bool.not_eq_true, Bool.not_eq_false] at h) | (refine ts_cond rfl (fun h => ?_) (fun h => ?_) <;> try simp only [decide_eq_true_eq, decide_eq_false_iff_not, Bool.not_eq_true', Bool.not_eq_false', Bool.not_true, Bool.not_false, Bool.not_not, beq_iff_eq, Bool.not_eq_true, Bool.not_eq_false] at h) | fail)
          all_goals refine loop_again (m' := (spots s).length - (i + 1)) (by omega) ?_ ⟨i + 1, rfl, by omega, rfl, rfl⟩
          all_goals (refine w_ren [(1, 1)] rfl (by rw [hp]; intro j hj; cases hj) rfl ?_ ?_ <;> repeat' (first | exact .nil | exact .f _ rfl | exact .s _ _ _ _ _ _ rfl | exact .p _ _ _ rfl | exact .rows _ _ _ | exact .iter _ _ | exact RenL.nil _ | refine RenL.cons ?_ ?_ | refine .cells _ _ _ ?_ | refine .cons _ _ _ _ rfl ?_ ?_ | refine .cons _ _ _ _ _ rfl rfl ?_ ?_ | refine .rowsE ?_ | refine .sE rfl ?_ | exact .m _ _ rfl | refine .fE rfl ?_ | fail))
          all_goals try (rw [w64 (by omega)]; rfl)
          all_goals refine Eq.trans (congrArg (List.set _ i) ?_) hset2
          all_goals
            have h' := h
            simp only [strip] at h'
            refine congrArg (fun b => [TV.v (Value.int IntKind.i32 (x.rune : Int)), tI x.at', tI x.size, tI x.line, tI x.col, tB b]) ?_
            rw [hbad]
          · show decide ((x.size : Int) = 1) = _
            exact (by rw [Bool.eq_iff_iff]; simp only [decide_eq_true_eq, Bool.and_eq_true, Bool.or_eq_true, Bool.not_eq_true', decide_eq_false_iff_not, Bool.false_eq_true, true_iff, iff_true, false_iff, iff_false]; omega)
          · exact (by rw [Bool.eq_iff_iff]; simp only [decide_eq_true_eq, Bool.and_eq_true, Bool.or_eq_true, Bool.not_eq_true', decide_eq_false_iff_not, Bool.false_eq_true, true_iff, iff_true, false_iff, iff_false]; omega)
        · repeat' (first | refine ts_seq (fun K hK hW => ?_) | refine ts_reg ?_ | refine tr_nil ?_ | refine tr_ev rfl ?_ | refine use_K (by assumption) ?_ | refine tr_guard_u rfl ?_ | refine tr_guard_y rfl rfl ?_ | refine tr_guard_n rfl rfl ?_ | refine tr_alloc rfl ?_ | refine tr_store rfl rfl rfl rfl rfl rfl rfl ?_ | refine ts_cond_t rfl rfl ?_ | refine ts_cond_f rfl rfl ?_ | refine ts_nop ?_ | refine ts_block ?_ | refine ts_exit ?_ | refine ts_ret ?_ | refine th_exit ?_ | refine th_ret ?_ | refine bl_normal ?_ | refine bl_ret ?_ | refine bl_hit ?_ | refine bl_miss rfl ?_ | refine tret_of (.inr rfl) rfl ?_ | refine ts_cond_f rfl (decide_eq_false (by omega)) ?_ | (refine tg_split rfl (fun h => ?_) (fun h => ?_) <;> try simp only [decide_eq_true_eq, decide_eq_false_iff_not, Bool.not_eq_true', Bool.not_eq_false', Bool.not_true, Bool.not_false, Bool.not_not, beq_iff_eq, Bool.not_eq_true, Bool.not_eq_false] at h) | (refine ts_cond rfl (fun h => ?_) (fun h => ?_) <;> try simp only [decide_eq_true_eq, decide_eq_false_iff_not, Bool.not_eq_true', Bool.not_eq_false', Bool.not_true, Bool.not_false, Bool.not_not, beq_iff_eq, Bool.not_eq_true, Bool.not_eq_false] at h) | fail)
          have : i = (spots s).length := by omega
          subst this
          rw [List.take_length, List.drop_length, List.map_nil, List.append_nil]
          exact .s _ _ _ _ _ _ rfl (by rw [List.length_map])
end
end Go.Proofs.YtmfkngldfphhmaaDoor
